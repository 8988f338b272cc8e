/- The most of all sets that are alone. -/
import Derived.Test.YtbojnkcolamneaaM8
set_option linter.unusedVariables false
set_option linter.unusedSimpArgs false
namespace Go.Proofs.Ytbojnkcolamneaa
open Go Go.Pv Classical

/-- What a set earns. -/
def pay (l : List Shf) : List Int → Int
  | [] => 0
  | a :: x => (sh l a).2.2 + pay l x
theorem pay_append (l : List Shf) : ∀ x y, pay l (x ++ y) = pay l x + pay l y
  | [], y => by simp [pay]
  | a :: x, y => by rw [List.cons_append, pay, pay, pay_append l x y]; omega
theorem pay_perm (l : List Shf) {x y : List Int} (h : x.Perm y) : pay l x = pay l y := by
  induction h with
  | nil => rfl
  | cons a _ ih => simp only [pay, ih]
  | swap a b x => simp only [pay]; omega
  | trans _ _ h1 h2 => rw [h1, h2]
theorem pay_bound {l : List Shf} (hl : ∀ s ∈ l, okS s) : ∀ x : List Int, (∀ a ∈ x, 0 ≤ a ∧ a < (l.length : Int)) → 0 ≤ pay l x ∧ pay l x ≤ 99 * x.length
  | [], _ => by simp [pay]
  | a :: x, h => by
    have := pay_bound hl x fun b hb => h b (by simp [hb])
    have h2 := sh_ok hl (h a (by simp))
    unfold okS at h2
    rw [pay]
    simp
    omega
theorem f28 (K : Nat) {l : List Shf} (hl : ∀ s ∈ l, okS s) {x : List Int} (hx : ∀ a ∈ x, 0 ≤ a ∧ a < (l.length : Int)) (hK : x.length < K) (h100 : x.length ≤ 1000) : implf28 K l x = some (pay l x) := by
  unfold implf28
  have := foldTo (fun k j (t : Int) => impll28_0 K k l x t (j : Int)) x 0 (fun t a => t + (sh l a).2.2) (fun j t => 0 ≤ t ∧ t ≤ 99 * j) (fun t => (t, (x.length : Int), ()))
    (fun k j t hj hI => by
      have h1 := hx _ (getD_mem 0 hj)
      have h2 := sh_ok hl h1
      unfold okS at h2
      constructor
      · show impll28_0 K (k + 1) l x t j = impll28_0 K k l x (t + (sh l (x.getD j 0)).2.2) ((j + 1 : Nat) : Int)
        rw [impll28_0, implb28_0]
        have e : x.getD (j : Int).toNat 0 = x.getD j 0 := rfl
        have e2 : l.getD (x.getD j 0).toNat ((0 : Int), (0 : Int), (0 : Int)) = sh l (x.getD j 0) := rfl
        simp only [cdec, e, e2]
        rw [if_pos (by omega), if_pos (by omega), if_pos h1, wrapS (by omega), wrapI (by omega) (by omega)]
      · show 0 ≤ t + (sh l (x.getD j 0)).2.2 ∧ t + (sh l (x.getD j 0)).2.2 ≤ 99 * ((j + 1 : Nat) : Int)
        omega)
    (fun k t _ => by
      show impll28_0 K (k + 1) l x t x.length = _
      rw [impll28_0, implb28_0]
      simp only [cdec]
      rw [if_neg (by omega)]) K 0 0 (by omega) (Nat.zero_le _) (by simp)
  obtain ⟨this, -⟩ := this
  simp only [List.drop_zero] at this
  have this : impll28_0 K K l x 0 0 = _ := this
  rw [this, obS]
  congr 1
  have key : ∀ (x : List Int) (t : Int), x.foldl (fun t a => t + (sh l a).2.2) t = t + pay l x := by
    intro x
    induction x with
    | nil => intro t; simp [pay]
    | cons a x ih => intro t; rw [List.foldl_cons, ih, pay]; omega
  show x.foldl _ 0 = _
  rw [key]
  omega

/-- A set of the first numbers that is alone. -/
def good (l : List Shf) (m : Nat) (x : List Int) : Prop := isSt x ((m : Int) - 1) ∧ alo l x
theorem isSt_len {x : List Int} {m : Nat} (h : isSt x ((m : Int) - 1)) : x.length ≤ m := by
  have := nodup_sub (a := x) (b := (List.range m).map fun i : Nat => (i : Int)) (by
    rw [List.nodup_iff_pairwise_ne]
    exact h.1.imp fun h => by omega) (fun a ha => by
    have := h.2 a ha
    exact List.mem_map.2 ⟨a.toNat, List.mem_range.2 (by omega), by omega⟩)
  rwa [List.length_map, List.length_range] at this
theorem good_up {l : List Shf} {m : Nat} {x : List Int} (h : good l m x) : good l (m + 1) x :=
  ⟨⟨h.1.1, fun a ha => by have := h.1.2 a ha; omega⟩, h.2⟩
theorem good_snoc {l : List Shf} {m : Nat} {x : List Int} (h : good l m x) (h2 : alo l (x ++ [(m : Int)])) : good l (m + 1) (x ++ [(m : Int)]) := by
  refine ⟨⟨List.pairwise_append.2 ⟨h.1.1, by simp, fun a ha b hb => ?_⟩, fun a ha => ?_⟩, h2⟩
  · have := h.1.2 a ha
    simp only [List.mem_singleton] at hb
    omega
  · rcases List.mem_append.1 ha with ha | ha
    · have := h.1.2 a ha
      omega
    · simp only [List.mem_singleton] at ha
      omega
theorem good_inv {l : List Shf} {m : Nat} {x : List Int} (h : good l (m + 1) x) : good l m x ∨ ∃ s, good l m s ∧ x = s ++ [(m : Int)] := by
  rcases x.eq_nil_or_concat with rfl | ⟨s, a, rfl⟩
  · exact .inl ⟨⟨.nil, by simp⟩, .nil⟩
  · rw [List.concat_eq_append] at h ⊢
    obtain ⟨⟨h1, h2⟩, h3⟩ := h
    obtain ⟨g1, _, g3⟩ := List.pairwise_append.1 h1
    have ha := h2 a (by simp)
    have hs : ∀ b ∈ s, 0 ≤ b ∧ b < a := fun b hb => ⟨(h2 b (by simp [hb])).1, g3 b hb a (by simp)⟩
    by_cases e : a = (m : Int)
    · refine .inr ⟨s, ⟨⟨g1, fun b hb => ?_⟩, (List.pairwise_append.1 h3).1⟩, by rw [e]⟩
      have := hs b hb
      omega
    · refine .inl ⟨⟨h1, fun b hb => ?_⟩, h3⟩
      rcases List.mem_append.1 hb with hb | hb
      · have := hs b hb
        omega
      · simp only [List.mem_singleton] at hb
        omega
/-- The most among some sets. -/
def Tr (l : List Shf) (S : List (List Int)) (a b : Int) : Prop := (∀ x ∈ S, (x.length : Int) ≤ a ∧ pay l x ≤ b) ∧ (∃ x ∈ S, (x.length : Int) = a) ∧ ∃ x ∈ S, pay l x = b
theorem Tr.snoc {l : List Shf} {S : List (List Int)} {a b : Int} (h : Tr l S a b) (y : List Int) : Tr l (S ++ [y]) (max a (y.length : Int)) (max b (pay l y)) := by
  obtain ⟨h1, ⟨x, h2, h3⟩, z, h4, h5⟩ := h
  refine ⟨fun w hw => ?_, ?_, ?_⟩
  · rcases List.mem_append.1 hw with hw | hw
    · have := h1 w hw
      omega
    · simp only [List.mem_singleton] at hw
      subst hw
      omega
  · by_cases g : (y.length : Int) ≤ a
    · exact ⟨x, by simp [h2], by omega⟩
    · exact ⟨y, by simp, by omega⟩
  · by_cases g : pay l y ≤ b
    · exact ⟨z, by simp [h4], by omega⟩
    · exact ⟨y, by simp, by omega⟩

theorem inner27 (K : Nat) {l : List Shf} (hV : V l) {i : Nat} (hi : i < l.length) {old : List (List Int)} (ho : ∀ x, x ∈ old ↔ good l i x) (hn : old.length ≤ 2048) (hK : 2100 < K) {a b : Int} (hT : Tr l old a b) :
    ∃ t : List (List Int) × Int × Int, impll27_2 K K l old a b (i : Int) ((old.length : Int) - 1) = some (t.1, t.2.1, t.2.2, -1, ()) ∧ (∀ x, x ∈ t.1 ↔ good l (i + 1) x) ∧ t.1.length ≤ 2 * old.length ∧ Tr l t.1 t.2.1 t.2.2 := by
  have h12 := hV.1
  obtain ⟨t, h1, h2⟩ := invTo (fun k j (t : List (List Int) × Int × Int) => impll27_2 K k l t.1 t.2.1 t.2.2 (i : Int) ((old.length : Int) - 1 - (j : Int))) old.length
    (fun j t => (∃ ex, t.1 = old ++ ex ∧ ex.length ≤ j) ∧ Tr l t.1 t.2.1 t.2.2 ∧ (∀ x ∈ t.1, good l (i + 1) x) ∧ ∀ q, q < j → alo l (old.getD (old.length - 1 - q) [] ++ [(i : Int)]) → (old.getD (old.length - 1 - q) [] ++ [(i : Int)]) ∈ t.1)
    (fun t => (t.1, t.2.1, t.2.2, -1, ()))
    (fun k j t hj hI => by
      obtain ⟨⟨ex, e1, e2⟩, h2, h3, h4⟩ := hI
      show ∃ t' : List (List Int) × Int × Int, impll27_2 K (k + 1) l t.1 t.2.1 t.2.2 (i : Int) ((old.length : Int) - 1 - (j : Int)) = impll27_2 K k l t'.1 t'.2.1 t'.2.2 (i : Int) ((old.length : Int) - 1 - ((j + 1 : Nat) : Int)) ∧ _
      have hq : (old.length : Int) - 1 - (j : Int) = ((old.length - 1 - j : Nat) : Int) := by omega
      rw [hq, impll27_2, implb27_2]
      obtain ⟨s, hs⟩ : ∃ s, s = old.getD (old.length - 1 - j) [] := ⟨_, rfl⟩
      have hsm : s ∈ old := by rw [hs]; exact getD_mem [] (by omega)
      have hg := (ho s).1 hsm
      have hlen := isSt_len hg.1
      have e : t.1.getD ((old.length - 1 - j : Nat) : Int).toNat [] = s := by
        show t.1.getD (old.length - 1 - j) [] = _
        rw [e1, hs]
        simp only [List.getD]
        rw [List.getElem?_append_left (by omega)]
      have e0 : List.replicate 0 (0 : Int) ++ s = s := rfl
      have e00 : (List.replicate 0 (0 : Int)).length = 0 := rfl
      have e01 : (List.replicate 1 (0 : Int)).set 0 (i : Int) = [(i : Int)] := rfl
      have e02 : (List.replicate 1 ([] : List Int)).set 0 (s ++ [(i : Int)]) = [s ++ [(i : Int)]] := rfl
      have htl : t.1.length = old.length + ex.length := by rw [e1, List.length_append]
      have hin : ∀ a ∈ s ++ [(i : Int)], 0 ≤ a ∧ a < (l.length : Int) := by
        intro a ha
        rcases List.mem_append.1 ha with ha | ha
        · have := hg.1.2 a ha
          omega
        · simp only [List.mem_singleton] at ha
          omega
      have hsl : (s ++ [(i : Int)]).length = s.length + 1 := by simp
      have e03 : ([(i : Int)]).length = 1 := rfl
      have e04 : ([s ++ [(i : Int)]]).length = 1 := rfl
      simp only [cdec, e, e0, e00, e01, e02, e03, e04]
      rw [if_pos (by omega), if_pos (by omega), if_pos (by omega), if_pos (by omega), f74 K l hV.2 _ hin (by omega) (by omega), obS]
      have hw : IntKind.i64.wrap (((old.length - 1 - j : Nat) : Int) - 1) = (old.length : Int) - 1 - ((j + 1 : Nat) : Int) := by rw [wrapI (by omega) (by omega)]; omega
      simp only [cdec]
      by_cases ha : alo l (s ++ [(i : Int)])
      · rw [if_pos ha, if_pos (by omega), f28 K hV.2 hin (by omega) (by omega), obS, hw]
        refine ⟨(t.1 ++ [s ++ [(i : Int)]], max t.2.1 ((s ++ [(i : Int)]).length : Int), max t.2.2 (pay l (s ++ [(i : Int)]))), rfl, ⟨ex ++ [s ++ [(i : Int)]], by rw [e1, List.append_assoc], by simp; omega⟩, h2.snoc _, ?_, ?_⟩
        · intro x hx
          rcases List.mem_append.1 hx with hx | hx
          · exact h3 x hx
          · simp only [List.mem_singleton] at hx
            rw [hx]
            exact good_snoc hg ha
        · intro q hqj hqa
          by_cases e5 : q = j
          · subst e5
            rw [← hs]
            simp
          · exact List.mem_append_left _ (h4 q (by omega) hqa)
      · rw [if_neg ha, hw]
        refine ⟨t, rfl, ⟨ex, e1, by omega⟩, h2, h3, ?_⟩
        intro q hqj hqa
        by_cases e5 : q = j
        · subst e5
          rw [← hs] at hqa
          exact absurd hqa ha
        · exact h4 q (by omega) hqa)
    (fun k t _ => by
      show impll27_2 K (k + 1) l t.1 t.2.1 t.2.2 (i : Int) ((old.length : Int) - 1 - (old.length : Int)) = _
      rw [show (old.length : Int) - 1 - (old.length : Int) = -1 by omega, impll27_2, implb27_2]
      simp only [cdec]
      rw [if_neg (by omega)]) K 0 (old, a, b) (by omega) (Nat.zero_le _)
    ⟨⟨[], by simp, by simp⟩, hT, fun x hx => good_up ((ho x).1 hx), fun q hq => by omega⟩
  have h1 : impll27_2 K K l old a b (i : Int) ((old.length : Int) - 1 - ((0 : Nat) : Int)) = _ := h1
  rw [show (old.length : Int) - 1 - ((0 : Nat) : Int) = (old.length : Int) - 1 by omega] at h1
  obtain ⟨⟨ex, e1, e2⟩, h2, h3, h4⟩ := h2
  refine ⟨t, h1, fun x => ⟨h3 x, fun hx => ?_⟩, by rw [e1, List.length_append]; omega, h2⟩
  rcases good_inv hx with hx | ⟨s, hs, rfl⟩
  · rw [e1]
    exact List.mem_append_left _ ((ho x).2 hx)
  · obtain ⟨p, hp, e⟩ := List.getElem_of_mem ((ho s).2 hs)
    have := h4 (old.length - 1 - p) (by omega)
    rw [show old.length - 1 - (old.length - 1 - p) = p by omega, show old.getD p [] = s by simp [List.getD, hp, e]] at this
    exact this hx.2

def isMost (l : List Shf) (a b : Int) : Prop := (∀ x, isAl l x → (x.length : Int) ≤ a ∧ pay l x ≤ b) ∧ (∃ x, isAl l x ∧ (x.length : Int) = a) ∧ ∃ x, isAl l x ∧ pay l x = b
theorem f27 (K : Nat) (hK : 2100 < K) {l : List Shf} (hV : V l) : ∃ a b, implf27 K l = some (a, b) ∧ isMost l a b := by
  have h12 := hV.1
  have hpow : ∀ i, i ≤ 12 → 2 ^ i ≤ 4096 := fun i hi => Nat.pow_le_pow_right (n := 2) (by omega) hi
  have hpow2 : ∀ i, i ≤ 11 → 2 ^ i ≤ 2048 := fun i hi => Nat.pow_le_pow_right (n := 2) (by omega) hi
  obtain ⟨t, h1, h2, h3, h4⟩ := invTo (fun k j (t : List (List Int) × Int × Int) => impll27_0 K k l t.1 t.2.1 t.2.2 (j : Int)) l.length (fun j t => (∀ x, x ∈ t.1 ↔ good l j x) ∧ t.1.length ≤ 2 ^ j ∧ Tr l t.1 t.2.1 t.2.2)
    (fun t => (t.1, t.2.1, t.2.2, (l.length : Int), ()))
    (fun k j t hj hI => by
      show ∃ t' : List (List Int) × Int × Int, impll27_0 K (k + 1) l t.1 t.2.1 t.2.2 (j : Int) = impll27_0 K k l t'.1 t'.2.1 t'.2.2 ((j + 1 : Nat) : Int) ∧ _
      rw [impll27_0, implb27_0]
      simp only [cdec]
      obtain ⟨g1, g2, g3⟩ := hI
      have g4 := hpow2 j (by omega)
      obtain ⟨t', q1, q2, q3, q4⟩ := inner27 K hV hj g1 (by omega) hK g3
      rw [if_pos (by omega), wrapI (by omega) (by omega), q1, obS, wrapS (by omega)]
      exact ⟨t', rfl, q2, by rw [Nat.pow_succ]; omega, q4⟩)
    (fun k t _ => by
      show impll27_0 K (k + 1) l t.1 t.2.1 t.2.2 l.length = _
      rw [impll27_0, implb27_0]
      simp only [cdec]
      rw [if_neg (by omega)]) K 0 ([[]], 0, 0) (by omega) (Nat.zero_le _)
    ⟨fun x => by
      simp only [List.mem_singleton]
      constructor
      · rintro rfl
        exact ⟨⟨.nil, by simp⟩, .nil⟩
      · intro h
        have := isSt_len h.1
        exact List.length_eq_zero_iff.1 (by omega), by simp, by simp [Tr, pay]⟩
  have h1 : impll27_0 K K l [[]] 0 0 0 = _ := h1
  refine ⟨t.2.1, t.2.2, ?_, ?_⟩
  · unfold implf27
    show ob (impll27_0 K K l [[]] 0 0 0) _ = _
    rw [h1, obS]
  · obtain ⟨g1, ⟨x, g2, g3⟩, y, g4, g5⟩ := h4
    exact ⟨fun x hx => g1 x ((h2 x).2 hx), ⟨x, (h2 x).1 g2, g3⟩, y, (h2 y).1 g4, g5⟩
theorem most_fst {l : List Shf} (hV : V l) {a b : Int} (h : isMost l a b) : a = ((fst l).length : Int) := by
  obtain ⟨h1, ⟨x, h2, h3⟩, _⟩ := h
  have g1 := al_most hV h2
  have g2 := (h1 _ (alset_ok hV)).1
  rw [alset_len] at g2
  omega
end Go.Proofs.Ytbojnkcolamneaa
