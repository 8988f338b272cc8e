/- How long a word must be that tells states apart; and what the searches answer. -/
import Derived.Test.YthdmngalhppkcaaM8
set_option linter.unusedVariables false
set_option linter.unusedSimpArgs false
namespace Go.Proofs.Ythdmngalhppkcaa
open Go Go.Pv Classical

theorem filter_le {α : Type} {p q : α → Prop} : ∀ (l : List α), (∀ x ∈ l, p x → q x) → (l.filter fun x => decide (p x)).length ≤ (l.filter fun x => decide (q x)).length
  | [], _ => Nat.le_refl _
  | x :: l, h => by
    have ih := filter_le l fun y hy => h y (by simp [hy])
    have hx := h x (by simp)
    by_cases g : p x
    · simp [g, hx g]; exact ih
    · by_cases g2 : q x
      · simp [g, g2]; omega
      · simp [g, g2]; exact ih
theorem filter_lt {α : Type} {p q : α → Prop} : ∀ (l : List α), (∀ x ∈ l, p x → q x) → (∃ x ∈ l, q x ∧ ¬ p x) → (l.filter fun x => decide (p x)).length < (l.filter fun x => decide (q x)).length
  | [], _, ⟨_, h, _⟩ => by cases h
  | x :: l, h, ⟨y, hy, hq, hp⟩ => by
    have hle := filter_le l fun y hy => h y (by simp [hy])
    have hx := h x (by simp)
    rcases List.mem_cons.1 hy with rfl | hy
    · simp [hq, hp]; omega
    · have ih := filter_lt l (fun y hy => h y (by simp [hy])) ⟨y, hy, hq, hp⟩
      by_cases g : p x
      · simp [g, hx g]; omega
      · by_cases g2 : q x
        · simp [g, g2]; omega
        · simp [g, g2]; omega

section
variable {n : Nat} {E : Nat → Nat → Nat → Prop}
/-- The first one of its class. -/
def isRep (E : Nat → Nat → Nat → Prop) (k i : Nat) : Prop := ∀ j, j < i → ¬ E k j i
noncomputable def cnt (n : Nat) (E : Nat → Nat → Nat → Prop) (k : Nat) : Nat := ((List.range n).filter fun i => decide (isRep E k i)).length

theorem cnt_le (k : Nat) : cnt n E k ≤ n := by
  unfold cnt
  exact Nat.le_trans (List.length_filter_le _ _) (by simp)

theorem least {p : Nat → Prop} : ∀ m, p m → ∃ i, p i ∧ i ≤ m ∧ ∀ j, j < i → ¬ p j
  | 0, h => ⟨0, h, Nat.le_refl _, fun j hj => by omega⟩
  | m + 1, h => by
    by_cases g : ∃ j, j ≤ m ∧ p j
    · obtain ⟨j, hj, hpj⟩ := g
      have : ∃ i, p i ∧ i ≤ j ∧ ∀ j, j < i → ¬ p j := by
        clear h
        induction j using Nat.strongRecOn with
        | _ j ih =>
          by_cases g2 : ∃ i, i < j ∧ p i
          · obtain ⟨i, hi, hpi⟩ := g2
            obtain ⟨z, h1, h2, h3⟩ := ih i hi (by omega) hpi
            exact ⟨z, h1, by omega, h3⟩
          · exact ⟨j, hpj, Nat.le_refl _, fun i hi hp => g2 ⟨i, hi, hp⟩⟩
      obtain ⟨i, h1, h2, h3⟩ := this
      exact ⟨i, h1, by omega, h3⟩
    · exact ⟨m + 1, h, Nat.le_refl _, fun j hj hp => g ⟨j, by omega, hp⟩⟩

theorem cnt_lt (hr : ∀ k i, E k i i) (hs : ∀ k i j, E k i j → E k j i) (ht : ∀ k i j l, E k i j → E k j l → E k i l) (hm : ∀ k i j, E (k + 1) i j → E k i j) {k : Nat}
    (h : ∃ i j, i < n ∧ j < n ∧ E k i j ∧ ¬ E (k + 1) i j) : cnt n E k < cnt n E (k + 1) := by
  obtain ⟨i, j, hi, hj, he, hne⟩ := h
  unfold cnt
  refine filter_lt _ (fun x _ hx y hy hyx => hx y hy (hm _ _ _ hyx)) ?_
  -- the first of the class
  have hself : E k i i := ht _ _ _ _ he (hs _ _ _ he)
  obtain ⟨m, hm1, hm2, hm3⟩ := least (p := fun m => E k m i) i hself
  -- one that leaves it
  have hout : ∃ u, u < n ∧ E k u i ∧ ¬ E (k + 1) m u := by
    by_cases g : E (k + 1) m i
    · refine ⟨j, hj, hs _ _ _ he, fun g2 => hne ?_⟩
      exact ht _ _ _ _ (hs _ _ _ g) g2
    · exact ⟨i, hi, hself, g⟩
  obtain ⟨u, hu1, hu2, hu3⟩ := hout
  obtain ⟨v, ⟨hv1, hv2⟩, hv3, hv4⟩ := least (p := fun v => E k v i ∧ ¬ E (k + 1) m v) u ⟨hu2, hu3⟩
  have hmv : m ≠ v := fun e => hv2 (by rw [e]; exact hr _ _)
  have hlt : m < v := by
    rcases Nat.lt_or_ge m v with h | h
    · exact h
    · exact absurd hv1 (hm3 v (by omega))
  refine ⟨v, List.mem_range.2 (by omega), ?_, ?_⟩
  · intro y hy hyv
    refine hv4 y hy ⟨ht _ _ _ _ (hm _ _ _ hyv) hv1, fun g => hv2 (ht _ _ _ _ g hyv)⟩
  · intro hrep
    exact hrep m hlt (ht _ _ _ _ hm1 (hs _ _ _ hv1))
end

section
variable (out : Nat → List Int → Int)
/-- Alike to words of length k. -/
def Ek (k i j : Nat) : Prop := ∀ w, wok w → w.length ≤ k → out i w = out j w
variable {out} {n : Nat} {nxt : Nat → Int → Nat}

theorem wok_cons {x : Int} {w : List Int} (h : wok (x :: w)) : (0 ≤ x ∧ x ≤ 1) ∧ wok w := ⟨h x (by simp), fun y hy => h y (by simp [hy])⟩

theorem stable (hn : ∀ i, i < n → ∀ x, 0 ≤ x ∧ x ≤ 1 → nxt i x < n) (ho : ∀ i, i < n → ∀ x, 0 ≤ x ∧ x ≤ 1 → ∀ w, wok w → out i (x :: w) = out (nxt i x) w) {k : Nat}
    (h : ∀ i j, i < n → j < n → Ek out k i j → Ek out (k + 1) i j) : ∀ m, ∀ i j, i < n → j < n → Ek out k i j → Ek out (k + m) i j
  | 0, i, j, hi, hj, he => he
  | m + 1, i, j, hi, hj, he => by
    have hk1 := h i j hi hj he
    intro w hw hl
    cases w with
    | nil => exact he [] hw (by simp)
    | cons x w =>
      obtain ⟨hx, hw'⟩ := wok_cons hw
      rw [ho i hi x hx w hw', ho j hj x hx w hw']
      refine stable hn ho h m (nxt i x) (nxt j x) (hn i hi x hx) (hn j hj x hx) ?_ w hw' (by simp at hl; omega)
      intro u hu hul
      rw [← ho i hi x hx u hu, ← ho j hj x hx u hu]
      refine hk1 (x :: u) ?_ (by simp; omega)
      intro y hy
      rcases List.mem_cons.1 hy with rfl | hy
      · exact hx
      · exact hu y hy

theorem moore (hn : ∀ i, i < n → ∀ x, 0 ≤ x ∧ x ≤ 1 → nxt i x < n) (ho : ∀ i, i < n → ∀ x, 0 ≤ x ∧ x ≤ 1 → ∀ w, wok w → out i (x :: w) = out (nxt i x) w) {i j : Nat} (hi : i < n) (hj : j < n) {w : List Int} (hw : wok w) (hd : out i w ≠ out j w) :
    ∃ v, wok v ∧ out i v ≠ out j v ∧ v.length < n := by
  obtain ⟨L, ⟨v, hv, hvl, hvd⟩, _, hmin⟩ := least (p := fun L => ∃ v, wok v ∧ v.length = L ∧ out i v ≠ out j v) w.length ⟨w, hw, rfl, hd⟩
  refine ⟨v, hv, hvd, ?_⟩
  have hstrict : ∀ k, k < L → ∃ i j, i < n ∧ j < n ∧ Ek out k i j ∧ ¬ Ek out (k + 1) i j := by
    intro k hk
    apply Classical.byContradiction
    intro hno
    have hst : ∀ i j, i < n → j < n → Ek out k i j → Ek out (k + 1) i j := fun i j hi hj he => Classical.byContradiction fun hne => hno ⟨i, j, hi, hj, he, hne⟩
    have h0 : Ek out k i j := fun u hu hul => Classical.byContradiction fun hne => hmin u.length (by omega) ⟨u, hu, rfl, hne⟩
    exact hvd (stable hn ho hst (L - k) i j hi hj h0 v hv (by omega))
  have hc : ∀ k, k ≤ L → k + 1 ≤ cnt n (Ek out) k := by
    intro k
    induction k with
    | zero =>
      intro _
      unfold cnt
      have : 0 ∈ (List.range n).filter fun i => decide (isRep (Ek out) 0 i) := by
        rw [List.mem_filter]
        exact ⟨List.mem_range.2 (by omega), decide_eq_true fun j hj => by omega⟩
      exact List.length_pos_of_mem this
    | succ k ih =>
      intro hk
      have h1 := ih (by omega)
      have h2 := cnt_lt (n := n) (E := Ek out) (k := k) (fun k i w _ _ => rfl) (fun k i j h w hw hl => (h w hw hl).symm) (fun k i j l h g w hw hl => (h w hw hl).trans (g w hw hl))
        (fun k i j h w hw hl => h w hw (by omega)) (hstrict k (by omega))
      omega
  have h1 := hc L (Nat.le_refl _)
  have h2 := cnt_le (n := n) (E := Ek out) L
  omega
end

section
variable (A B : Bx) (s t : Int)
noncomputable def tell : List Int × Bool := match bfs (nd2 A B s t) (goal2 A B) 300 0 [[]] with
  | some w => (w, true)
  | none => ([], false)
variable {A B s t}
variable (hA : V A) (hB : V B) (hs : inB A s) (ht : inB B t)
include hA hB hs ht

theorem few (ws : List (List Int)) (hw : ∀ w ∈ ws, wok w) (hn : (ws.map (nd2 A B s t)).Nodup) : ws.length ≤ 36 := by
  have h := nodup_le (ws.map (nd2 A B s t)) ((ids 6).flatMap fun p => (ids 6).map fun q => (p, q)) hn (by
    intro x hx
    obtain ⟨w, hwm, rfl⟩ := List.mem_map.1 hx
    have ia := en_in hA hs (hw w hwm)
    have ib := en_in hB ht (hw w hwm)
    have a6 := hA.2.1
    have b6 := hB.2.1
    have mem6 : ∀ p : Int, 0 ≤ p ∧ p < 6 → p ∈ ids 6 := fun p hp => List.mem_map.2 ⟨p.toNat, List.mem_range.2 (by omega), by show ((p.toNat : Nat) : Int) = p; omega⟩
    refine List.mem_flatMap.2 ⟨en A s w, mem6 _ (by omega), List.mem_map.2 ⟨en B t w, mem6 _ (by omega), rfl⟩⟩)
  have e : ((ids 6).flatMap fun p => (ids 6).map fun q => (p, q)).length = 36 := by decide
  rw [e, List.length_map] at h
  exact h

theorem f77 : implf77 300 ((A, s), (B, t)) = some (tell A B s t) := by
  unfold implf77 tell
  have hseen : Seen A B s t [([s, t], true)] [[]] := by
    show Seen A B s t (mset (Ty.arr 2 (Ty.int .i64)) Ty.bool [] [s, t] true) [[]]
    have h0 : Seen A B s t [] [] := fun p q => by
      show (none : Option Bool).getD false = _
      have : ¬ ∃ u ∈ ([] : List (List Int)), nd2 A B s t u = (p, q) := by rintro ⟨u, hu, _⟩; cases hu
      rw [decide_eq_false this]; rfl
    exact h0.grow []
  have h := s77 hA hB hs ht (few hA hB hs ht) (by omega) (K := 300) (by omega) 300 0 [[]] _ BI.first (by omega) hseen
  have e1 : (List.replicate 1 (((([], []), (0 : Int)), ([], []), (0 : Int)), ([] : List Int))).set 0 (((A, s), (B, t)), []) = ([[]].drop 0).map (item A B s t) := rfl
  have e2 : ((List.replicate 2 (0 : Int)).set 0 ((A, s), (B, t)).1.2).set 1 ((A, s), (B, t)).2.2 = [s, t] := rfl
  rw [e1, e2]
  cases hb : bfs (nd2 A B s t) (goal2 A B) 300 0 [[]] with
  | some w => rw [hb] at h; rw [h]; rfl
  | none => rw [hb] at h; obtain ⟨r, h⟩ := h; rw [h]; rfl

theorem tell_found : Found (nd2 A B s t) (goal2 A B) (bfs (nd2 A B s t) (goal2 A B) 300 0 [[]]) :=
  bfs_spec (nd2_step A B s t) (few hA hB hs ht) 300 0 [[]] BI.first (by omega)

theorem tell_true (h : (tell A B s t).2 = true) : wok (tell A B s t).1 ∧ ot A (en A s (tell A B s t).1) ≠ ot B (en B t (tell A B s t).1) ∧
    ∀ v, wok v → ot A (en A s v) ≠ ot B (en B t v) → (tell A B s t).1.length ≤ v.length := by
  have hf := tell_found hA hB hs ht
  unfold tell at h ⊢
  cases hb : bfs (nd2 A B s t) (goal2 A B) 300 0 [[]] with
  | some w => rw [hb] at hf; exact ⟨hf.1, hf.2.1, hf.2.2⟩
  | none => rw [hb] at h; cases h

theorem tell_false (h : (tell A B s t).2 = false) : (tell A B s t).1 = [] ∧ ∀ v, wok v → ot A (en A s v) = ot B (en B t v) := by
  have hf := tell_found hA hB hs ht
  unfold tell at h ⊢
  cases hb : bfs (nd2 A B s t) (goal2 A B) 300 0 [[]] with
  | some w => rw [hb] at h; cases h
  | none => rw [hb] at hf; exact ⟨rfl, fun v hv => Classical.byContradiction fun hne => hf v hv hne⟩
end

end Go.Proofs.Ythdmngalhppkcaa
