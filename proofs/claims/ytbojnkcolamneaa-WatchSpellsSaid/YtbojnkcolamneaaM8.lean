/- The shifts that are taken first of all. -/
import Derived.Test.YtbojnkcolamneaaM7
set_option linter.unusedVariables false
set_option linter.unusedSimpArgs false
namespace Go.Proofs.Ytbojnkcolamneaa
open Go Go.Pv Classical

/-- Those that begin when the last one has ended. -/
def grd : Int → List Shn → List Shn
  | _, [] => []
  | t, y :: ys => if y.1.1 ≥ t then y :: grd y.1.2.1 ys else grd t ys
theorem grd_sub : ∀ (ys : List Shn) (t : Int), (grd t ys).Sublist ys
  | [], t => .slnil
  | y :: ys, t => by
    rw [grd]
    split
    · exact (grd_sub ys _).cons_cons _
    · exact (grd_sub ys _).cons _
theorem grd_props : ∀ (ys : List Shn) (t : Int), (∀ y ∈ ys, okS y.1) → ys.Pairwise (fun a b => a.1.2.1 ≤ b.1.2.1) →
    (∀ y ∈ grd t ys, t ≤ y.1.1) ∧ (grd t ys).Pairwise (fun a b => a.1.2.1 ≤ b.1.1) ∧ ∀ y ∈ ys, t ≤ y.1.1 → ∃ z ∈ grd t ys, rn y.1 (z.1.2.1 - 1)
  | [], t, _, _ => ⟨by simp [grd], by simp [grd], by simp⟩
  | y :: ys, t, hok, hs => by
    obtain ⟨h1, h2⟩ := List.pairwise_cons.1 hs
    have hy := hok y (by simp)
    rw [grd]
    by_cases h : y.1.1 ≥ t
    · rw [if_pos h]
      obtain ⟨g1, g2, g3⟩ := grd_props ys y.1.2.1 (fun z hz => hok z (by simp [hz])) h2
      refine ⟨?_, List.pairwise_cons.2 ⟨g1, g2⟩, ?_⟩
      · intro z hz
        rcases List.mem_cons.1 hz with rfl | hz
        · exact h
        · have := g1 z hz
          unfold okS at hy
          omega
      · intro z hz hzt
        rcases List.mem_cons.1 hz with rfl | hz
        · refine ⟨z, by simp, ?_⟩
          unfold okS rn at *
          omega
        · rcases ilt z.1.1 y.1.2.1 with g | g
          · refine ⟨y, by simp, ?_⟩
            have := h1 z hz
            unfold okS rn at *
            omega
          · obtain ⟨w, hw, hr⟩ := g3 z hz g
            exact ⟨w, by simp [hw], hr⟩
    · rw [if_neg h]
      obtain ⟨g1, g2, g3⟩ := grd_props ys t (fun z hz => hok z (by simp [hz])) h2
      refine ⟨g1, g2, ?_⟩
      intro z hz hzt
      rcases List.mem_cons.1 hz with rfl | hz
      · exact absurd hzt h
      · exact g3 z hz hzt

def fst (l : List Shf) : List Shn := grd 0 (byE l)
theorem byE_ok {l : List Shf} (hl : ∀ s ∈ l, okS s) : ∀ y ∈ byE l, okS y.1 := fun y hy => by
  obtain ⟨i, hi, rfl⟩ := mem_byE.1 hy
  exact hl _ (getD_mem z3 hi)
theorem f82 (K : Nat) (hK : 12 < K) (l : List Shf) (h12 : l.length ≤ 12) : implf82 K l = some (fst l) := by
  unfold implf82
  rw [f67b K l h12 hK, obS]
  have hb := byE_length l
  have := foldTo (fun k j (t : List Shn × Int) => impll82_0 K k t.1 t.2 (byE l) ((byE l).length : Int) (j : Int)) (byE l) z4 (fun t y => if y.1.1 ≥ t.2 then (t.1 ++ [y], y.1.2.1) else t) (fun j t => t.1.length ≤ j) (fun t => (t.1, t.2, ((byE l).length : Int), ()))
    (fun k j t hj hI => by
      have e : (byE l).getD (j : Int).toNat (((0 : Int), (0 : Int), (0 : Int)), (0 : Int)) = (byE l).getD j z4 := rfl
      constructor
      · show impll82_0 K (k + 1) t.1 t.2 (byE l) _ j = impll82_0 K k (if ((byE l).getD j z4).1.1 ≥ t.2 then (t.1 ++ [(byE l).getD j z4], ((byE l).getD j z4).1.2.1) else t).1 (if ((byE l).getD j z4).1.1 ≥ t.2 then (t.1 ++ [(byE l).getD j z4], ((byE l).getD j z4).1.2.1) else t).2 (byE l) _ ((j + 1 : Nat) : Int)
        rw [impll82_0, implb82_0]
        simp only [cdec, e]
        rw [if_pos (by omega), if_pos (by omega), wrapS (by omega)]
        by_cases h : ((byE l).getD j z4).1.1 ≥ t.2
        · rw [if_pos h, if_pos (by simp; omega), if_pos h]
          rfl
        · rw [if_neg h, if_neg h]
      · show (if ((byE l).getD j z4).1.1 ≥ t.2 then (t.1 ++ [(byE l).getD j z4], ((byE l).getD j z4).1.2.1) else t).1.length ≤ j + 1
        split
        · simp; exact hI
        · omega)
    (fun k t _ => by
      show impll82_0 K (k + 1) t.1 t.2 (byE l) _ (byE l).length = _
      rw [impll82_0, implb82_0]
      simp only [cdec]
      rw [if_neg (by omega)]) K 0 ([], 0) (by omega) (Nat.zero_le _) (Nat.le_refl _)
  obtain ⟨this, -⟩ := this
  simp only [List.drop_zero] at this
  have this : impll82_0 K K [] 0 (byE l) ((byE l).length : Int) 0 = _ := this
  rw [this, obS]
  congr 1
  have key : ∀ (ys : List Shn) (a : List Shn) (t : Int), (ys.foldl (fun t y => if y.1.1 ≥ t.2 then (t.1 ++ [y], y.1.2.1) else t) (a, t)).1 = a ++ grd t ys := by
    intro ys
    induction ys with
    | nil => intro a t; simp [grd]
    | cons y ys ih =>
      intro a t
      rw [List.foldl_cons, grd]
      by_cases h : y.1.1 ≥ t
      · simp only [h, if_true]
        rw [ih]
        simp
      · simp only [h, if_false]
        rw [ih]
  exact key _ _ _
theorem fst_len (l : List Shf) : (fst l).length ≤ l.length := by
  have := (grd_sub (byE l) 0).length_le
  rw [byE_length] at this
  exact this

def alset (l : List Shf) : List Int := isort leI ((fst l).map fun y => y.2)
def moset (l : List Shf) : List Int := (fst l).map fun y => y.1.2.1 - 1
theorem f40 (K : Nat) (hK : 12 < K) (l : List Shf) (hl : ∀ s ∈ l, inS s) : implf40 K l = some (if er l = 0 then (alset l, 0) else ([], er l)) := by
  unfold implf40
  rw [f31 K hK l hl]
  simp only [obS, ibne, cdec, cnot]
  by_cases h : er l = 0
  · have hV := er_ok.1 h
    have h12 := hV.1
    have hf := fst_len l
    rw [if_pos h, if_pos h, f82 K hK l h12, obS]
    have := upto (fun k (s : List Int × Nat) => impll40_0 K k s.1 (fst l) ((fst l).length : Int) (s.2 : Int)) (fun j => (((fst l).take j).map fun y => y.2, j)) (fst l).length ((fst l).map fun y => y.2, ((fst l).length : Int), ())
      (fun k j hj => by
        show impll40_0 K (k + 1) (((fst l).take j).map fun y => y.2) (fst l) _ j = impll40_0 K k (((fst l).take (j + 1)).map fun y => y.2) (fst l) _ ((j + 1 : Nat) : Int)
        rw [impll40_0, implb40_0]
        have e : (fst l).getD (j : Int).toNat (((0 : Int), (0 : Int), (0 : Int)), (0 : Int)) = (fst l).getD j z4 := rfl
        simp only [cdec, e]
        rw [if_pos (by omega), if_pos (by omega), if_pos (by simp; omega), wrapS (by omega), take_getD z4 hj, List.map_append]
        rfl)
      (fun k => by
        show impll40_0 K (k + 1) (((fst l).take (fst l).length).map fun y => y.2) (fst l) _ (fst l).length = _
        rw [impll40_0, implb40_0]
        simp only [cdec]
        rw [if_neg (by omega), List.take_length]) K 0 (by omega) (Nat.zero_le _)
    have this : impll40_0 K K [] (fst l) ((fst l).length : Int) 0 = _ := this
    rw [this, obS]
    unfold implf63
    rw [if_pos (by simp; omega), obS]
    rfl
  · rw [if_neg h, if_neg h]
theorem f37 (K : Nat) (hK : 12 < K) (l : List Shf) (hl : ∀ s ∈ l, inS s) : implf37 K l = some (if er l = 0 then (moset l, 0) else ([], er l)) := by
  unfold implf37
  rw [f31 K hK l hl]
  simp only [obS, ibne, cdec, cnot]
  by_cases h : er l = 0
  · have hV := er_ok.1 h
    have h12 := hV.1
    have hf := fst_len l
    rw [if_pos h, if_pos h, f82 K hK l h12, obS]
    have := upto (fun k (s : List Int × Nat) => impll37_0 K k s.1 (fst l) ((fst l).length : Int) (s.2 : Int)) (fun j => (((fst l).take j).map fun y => y.1.2.1 - 1, j)) (fst l).length ((fst l).map fun y => y.1.2.1 - 1, ((fst l).length : Int), ())
      (fun k j hj => by
        show impll37_0 K (k + 1) (((fst l).take j).map fun y => y.1.2.1 - 1) (fst l) _ j = impll37_0 K k (((fst l).take (j + 1)).map fun y => y.1.2.1 - 1) (fst l) _ ((j + 1 : Nat) : Int)
        rw [impll37_0, implb37_0]
        have e : (fst l).getD (j : Int).toNat (((0 : Int), (0 : Int), (0 : Int)), (0 : Int)) = (fst l).getD j z4 := rfl
        simp only [cdec, e]
        have hok := byE_ok hV.2 _ ((grd_sub (byE l) 0).subset (getD_mem z4 hj))
        have e2 : IntKind.i64.wrap (((fst l).getD j z4).1.2.1 - 1) = ((fst l).getD j z4).1.2.1 - 1 := by
          unfold okS at hok
          have h1 := hok.2.2.1
          have h2 := hok.2.1
          have h3 := hok.1
          exact wrapI (by show _ ≤ ((grd 0 (byE l)).getD j z4).1.2.1 - 1; omega) (by show ((grd 0 (byE l)).getD j z4).1.2.1 - 1 ≤ _; omega)
        rw [if_pos (by omega), if_pos (by omega), if_pos (by simp; omega), wrapS (by omega), take_getD z4 hj, List.map_append, e2]
        rfl)
      (fun k => by
        show impll37_0 K (k + 1) (((fst l).take (fst l).length).map fun y => y.1.2.1 - 1) (fst l) _ (fst l).length = _
        rw [impll37_0, implb37_0]
        simp only [cdec]
        rw [if_neg (by omega), List.take_length]) K 0 (by omega) (Nat.zero_le _)
    have this : impll37_0 K K [] (fst l) ((fst l).length : Int) 0 = _ := this
    rw [this, obS]
    rfl
  · rw [if_neg h, if_neg h]

/-- A set that is alone. -/
def isAl (l : List Shf) (x : List Int) : Prop := isSt x ((l.length : Int) - 1) ∧ alo l x
theorem moset_ok {l : List Shf} (hV : V l) : isSt (moset l) 1000 ∧ look l (moset l) := by
  obtain ⟨g1, g2, g3⟩ := grd_props (byE l) 0 (byE_ok hV.2) (byE_sorted l)
  have hok : ∀ y ∈ fst l, okS y.1 := fun y hy => byE_ok hV.2 _ ((grd_sub (byE l) 0).subset hy)
  refine ⟨⟨?_, ?_⟩, ?_⟩
  · unfold moset
    rw [List.pairwise_map]
    refine List.Pairwise.imp_of_mem (fun {a b} ha hb hab => ?_) g2
    have := hok b hb
    unfold okS at this
    omega
  · intro a ha
    obtain ⟨y, hy, rfl⟩ := List.mem_map.1 ha
    have := hok y hy
    unfold okS at this
    omega
  · intro s hs
    obtain ⟨i, hi, e⟩ := List.getElem_of_mem hs
    have e : l.getD i z3 = s := by simp [List.getD, hi, e]
    obtain ⟨z, hz, hr⟩ := g3 (s, (i : Int)) (mem_byE.2 ⟨i, hi, by rw [e]⟩) (hV.2 s hs).1
    exact ⟨_, List.mem_map.2 ⟨z, hz, rfl⟩, hr⟩
theorem alset_ok {l : List Shf} (hV : V l) : isAl l (alset l) := by
  obtain ⟨g1, g2, g3⟩ := grd_props (byE l) 0 (byE_ok hV.2) (byE_sorted l)
  have hp : (alset l).Perm ((fst l).map fun y => y.2) := isort_perm _
  have hnd : ((fst l).map fun y => y.2).Nodup := ((grd_sub (byE l) 0).map _).nodup (byE_nodup l)
  have hnd' : (alset l).Nodup := hp.nodup_iff.2 hnd
  have hmem : ∀ a ∈ alset l, ∃ y ∈ fst l, y.2 = a := fun a ha => List.mem_map.1 (hp.mem_iff.1 ha)
  have hy : ∀ y ∈ fst l, ∃ i : Nat, i < l.length ∧ y = (l.getD i z3, (i : Int)) := fun y hy => mem_byE.1 ((grd_sub (byE l) 0).subset hy)
  refine ⟨⟨?_, ?_⟩, ?_⟩
  · have h1 := leI_sorted ((fst l).map fun y => y.2)
    have h2 : (alset l).Pairwise fun a b => a ≠ b := List.nodup_iff_pairwise_ne.1 hnd'
    exact (List.pairwise_and_iff.2 ⟨h1, h2⟩).imp fun h => by omega
  · intro a ha
    obtain ⟨y, h1, rfl⟩ := hmem a ha
    obtain ⟨i, hi, rfl⟩ := hy y h1
    constructor <;> simp <;> omega
  · have h3 : ((fst l).map fun y => y.2).Pairwise fun a b => ¬ ov (sh l b) (sh l a) := by
      rw [List.pairwise_map]
      refine List.Pairwise.imp_of_mem (fun {a b} ha hb hab => ?_) g2
      obtain ⟨i, hi, rfl⟩ := hy a ha
      obtain ⟨j, hj, rfl⟩ := hy b hb
      show ¬ ov (l.getD j z3) (l.getD i z3)
      have hab : (l.getD i z3).2.1 ≤ (l.getD j z3).1 := hab
      unfold ov
      omega
    exact (hp.pairwise_iff (fun {a b} h g => h (ov_comm.1 g))).2 h3
theorem alset_len (l : List Shf) : (alset l).length = (fst l).length := by
  have hp : (alset l).Perm ((fst l).map fun y => y.2) := isort_perm _
  rw [hp.length_eq, List.length_map]
theorem moset_len (l : List Shf) : (moset l).length = (fst l).length := by unfold moset; rw [List.length_map]

/-- Each of a set that is alone has a moment of its own. -/
theorem al_le {l : List Shf} (hl : ∀ s ∈ l, okS s) {x ms : List Int} (hx : isAl l x) (hm : look l ms) : x.length ≤ ms.length := by
  have hin : ∀ a ∈ x, sh l a ∈ l := fun a ha => getD_mem z3 (by have := hx.1.2 a ha; omega)
  let f : Int → Int := fun a => if h : ∃ m ∈ ms, rn (sh l a) m then h.choose else 0
  have hf : ∀ a ∈ x, f a ∈ ms ∧ rn (sh l a) (f a) := fun a ha => by
    have h := hm _ (hin a ha)
    have e : f a = h.choose := dif_pos h
    rw [e]
    exact h.choose_spec
  have := nodup_sub (a := x.map f) (b := ms) (by
    rw [List.nodup_iff_pairwise_ne, List.pairwise_map]
    refine List.Pairwise.imp_of_mem (fun {a b} ha hb hab e => hab ?_) hx.2
    have h1 := hf a ha
    have h2 := hf b hb
    exact (ov_iff (hl _ (hin b hb)) (hl _ (hin a ha))).2 ⟨f a, e ▸ h2.2, h1.2⟩) (fun v hv => by
    obtain ⟨a, ha, rfl⟩ := List.mem_map.1 hv
    exact (hf a ha).1)
  rwa [List.length_map] at this
theorem al_most {l : List Shf} (hV : V l) {x : List Int} (hx : isAl l x) : x.length ≤ (fst l).length := by
  have := al_le hV.2 hx (moset_ok hV).2
  rwa [moset_len] at this
theorem look_least {l : List Shf} (hV : V l) {ms : List Int} (hx : look l ms) : (fst l).length ≤ ms.length := by
  have := al_le hV.2 (alset_ok hV) hx
  rwa [alset_len] at this
theorem ca_al {l : List Shf} (he : er l = 0) {x : List Int} (h : isAl l x) : ca l x = ((x.length : Int), 0) := by
  unfold ca
  rw [if_neg (fun g => g he), if_neg (fun g => g h.1), if_neg (fun g => g h.2)]
theorem ca_inv {l : List Shf} {x : List Int} (h : (ca l x).2 = 0) : er l = 0 ∧ isAl l x ∧ (ca l x).1 = (x.length : Int) := by
  unfold ca at h ⊢
  split at h
  · next g => exact absurd h g
  · next g =>
    split at h
    · cases h
    · next g2 =>
      split at h
      · cases h
      · next g3 =>
        rw [if_neg g, if_neg g2, if_neg g3]
        exact ⟨Decidable.not_not.1 g, ⟨Decidable.not_not.1 g2, Decidable.not_not.1 g3⟩, rfl⟩
theorem cm_look {l : List Shf} (he : er l = 0) {x : List Int} (h : isSt x 1000) (h2 : look l x) : cm l x = ((x.length : Int), 0) := by
  unfold cm
  rw [if_neg (fun g => g he), if_neg (fun g => g h), if_neg (fun g => g h2)]
theorem cm_inv {l : List Shf} {x : List Int} (h : (cm l x).2 = 0) : er l = 0 ∧ isSt x 1000 ∧ look l x ∧ (cm l x).1 = (x.length : Int) := by
  unfold cm at h ⊢
  split at h
  · next g => exact absurd h g
  · next g =>
    split at h
    · cases h
    · next g2 =>
      split at h
      · cases h
      · next g3 =>
        rw [if_neg g, if_neg g2, if_neg g3]
        exact ⟨Decidable.not_not.1 g, Decidable.not_not.1 g2, Decidable.not_not.1 g3, rfl⟩
end Go.Proofs.Ytbojnkcolamneaa
