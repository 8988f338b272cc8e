/- Which states are alike: the two texts tell the same. -/
import Derived.Test.YthdmngalhppkcaaM10
set_option linter.unusedVariables false
set_option linter.unusedSimpArgs false
namespace Go.Proofs.Ythdmngalhppkcaa
open Go Go.Pv Classical

/-- What a state says behind a word. -/
def out1 (b : Bx) (i : Nat) (w : List Int) : Int := ot b (en b i w)
def al (b : Bx) : Nat → Nat → Nat → Prop
  | 0, _, _ => True
  | k + 1, i, j => Ek (out1 b) k i j
/-- Alike to all words. -/
def eqv (b : Bx) (i j : Nat) : Prop := ∀ w, wok w → out1 b i w = out1 b j w
def nn (b : Bx) (i : Nat) (x : Int) : Nat := (nx b i x).toNat

section
variable {b : Bx}
theorem al_refl : ∀ k i, al b k i i
  | 0, _ => trivial
  | k + 1, i => fun _ _ _ => rfl
theorem al_symm : ∀ {k i j}, al b k i j → al b k j i
  | 0, _, _, _ => trivial
  | k + 1, i, j, h => fun w hw hl => (h w hw hl).symm
theorem al_trans : ∀ {k i j l}, al b k i j → al b k j l → al b k i l
  | 0, _, _, _, _, _ => trivial
  | k + 1, i, j, l, h, g => fun w hw hl => (h w hw hl).trans (g w hw hl)
theorem al_mono : ∀ {k i j}, al b (k + 1) i j → al b k i j
  | 0, _, _, _ => trivial
  | k + 1, i, j, h => fun w hw hl => h w hw (by omega)

variable (hv : V b)
include hv
theorem nn_lt {i : Nat} (hi : i < b.1.length) {x : Int} (hx : 0 ≤ x ∧ x ≤ 1) : nn b i x < b.1.length ∧ ((nn b i x : Nat) : Int) = nx b i x := by
  have := nx_in hv (s := (i : Int)) ⟨by omega, by omega⟩ hx
  unfold nn
  omega
theorem out1_cons {i : Nat} (hi : i < b.1.length) {x : Int} (hx : 0 ≤ x ∧ x ≤ 1) (w : List Int) : out1 b i (x :: w) = out1 b (nn b i x) w := by
  unfold out1
  rw [(nn_lt hv hi hx).2]; rfl

theorem al_succ {k i j : Nat} (hi : i < b.1.length) (hj : j < b.1.length) : al b (k + 1) i j ↔ ot b i = ot b j ∧ al b k (nn b i 0) (nn b j 0) ∧ al b k (nn b i 1) (nn b j 1) := by
  constructor
  · intro h
    refine ⟨h [] (fun x hx => by cases hx) (by simp), ?_⟩
    have sub : ∀ x : Int, 0 ≤ x ∧ x ≤ 1 → al b k (nn b i x) (nn b j x) := by
      intro x hx
      cases k with
      | zero => trivial
      | succ k =>
        intro w hw hl
        rw [← out1_cons hv hi hx, ← out1_cons hv hj hx]
        refine h (x :: w) ?_ (by simp; omega)
        intro y hy
        rcases List.mem_cons.1 hy with rfl | hy
        · exact hx
        · exact hw y hy
    exact ⟨sub 0 (by omega), sub 1 (by omega)⟩
  · rintro ⟨h0, h1, h2⟩ w hw hl
    cases w with
    | nil => exact h0
    | cons x w =>
      obtain ⟨hx, hw'⟩ := wok_cons hw
      rw [out1_cons hv hi hx, out1_cons hv hj hx]
      cases k with
      | zero => simp at hl
      | succ k =>
        have hl' : w.length ≤ k := by simp at hl; omega
        have : x = 0 ∨ x = 1 := by omega
        rcases this with rfl | rfl
        · exact h1 w hw' hl'
        · exact h2 w hw' hl'

theorem al_stable {k : Nat} (h : ∀ i j, i < b.1.length → j < b.1.length → al b k i j → al b (k + 1) i j) : ∀ m, ∀ i j, i < b.1.length → j < b.1.length → al b k i j → al b (k + m) i j
  | 0, i, j, _, _, he => he
  | m + 1, i, j, hi, hj, he => by
    have hk1 := (al_succ hv hi hj).1 (h i j hi hj he)
    refine (al_succ hv hi hj).2 ⟨hk1.1, al_stable h m _ _ (nn_lt hv hi (by omega)).1 (nn_lt hv hj (by omega)).1 hk1.2.1, al_stable h m _ _ (nn_lt hv hi (by omega)).1 (nn_lt hv hj (by omega)).1 hk1.2.2⟩

theorem al_eqv {k : Nat} (h : ∀ i j, i < b.1.length → j < b.1.length → al b k i j → al b (k + 1) i j) {i j : Nat} (hi : i < b.1.length) (hj : j < b.1.length) : al b k i j ↔ eqv b i j := by
  constructor
  · intro he w hw
    have := al_stable hv h (w.length + 1) i j hi hj he
    exact this w hw (by show w.length ≤ k + w.length; omega)
  · intro he
    cases k with
    | zero => trivial
    | succ k => exact fun w hw _ => he w hw
end

theorem first_ex (p : Nat → Prop) (i : Nat) : ∃ j, p i → p j ∧ j ≤ i ∧ ∀ m, m < j → ¬ p m := by
  by_cases h : p i
  · obtain ⟨j, h1, h2, h3⟩ := least i h
    exact ⟨j, fun _ => ⟨h1, h2, h3⟩⟩
  · exact ⟨0, fun h' => absurd h' h⟩
/-- The first one (if i is one). -/
noncomputable def first (p : Nat → Prop) (i : Nat) : Nat := Classical.choose (first_ex p i)
theorem first_spec {p : Nat → Prop} {i : Nat} (h : p i) : p (first p i) ∧ first p i ≤ i ∧ ∀ m, m < first p i → ¬ p m := Classical.choose_spec (first_ex p i) h
theorem first_eq {p : Nat → Prop} {i j : Nat} (h : p i) (hj : p j) (hm : ∀ m, m < j → ¬ p m) : first p i = j := by
  obtain ⟨h1, _, h3⟩ := first_spec h
  rcases Nat.lt_trichotomy (first p i) j with g | g | g
  · exact absurd h1 (hm _ g)
  · exact g
  · exact absurd hj (h3 _ g)

/-- The kind of a state behind k rounds. -/
noncomputable def kd (b : Bx) (k i : Nat) : Nat := first (fun j => al b k j i) i
noncomputable def kdv (b : Bx) (k : Nat) : List Int := (List.range b.1.length).map fun i => (kd b k i : Int)
/-- The kind of a state. -/
noncomputable def kdi (b : Bx) (i : Nat) : Nat := first (fun j => eqv b j i) i
noncomputable def kinds (b : Bx) : List Int := (List.range b.1.length).map fun i => (kdi b i : Int)

section
variable {b : Bx}
theorem kd_al (k i : Nat) : al b k (kd b k i) i := (first_spec (p := fun j => al b k j i) (al_refl k i)).1
theorem kd_eq {k i j : Nat} : kd b k i = kd b k j ↔ al b k i j := by
  constructor
  · intro h
    have h1 := kd_al (b := b) k i
    have h2 := kd_al (b := b) k j
    rw [← h] at h2
    exact al_trans (al_symm h1) h2
  · intro h
    refine first_eq (p := fun m => al b k m i) (al_refl k i) (al_trans (kd_al k j) (al_symm h)) fun m hm hmi => ?_
    exact (first_spec (p := fun m => al b k m j) (al_refl k j)).2.2 m hm (al_trans hmi h)
theorem kdv_get {k i : Nat} (hi : i < b.1.length) : (kdv b k).getD i 0 = (kd b k i : Int) := by
  unfold kdv
  have : i < ((List.range b.1.length).map fun i => (kd b k i : Int)).length := by simpa using hi
  rw [getD_lt 0 this]; simp
theorem kdv_len (k : Nat) : (kdv b k).length = b.1.length := by simp [kdv]
theorem kdv_same (hv : V b) {k : Nat} (h : kdv b k = kdv b (k + 1)) : kdv b k = kinds b := by
  have hs : ∀ i j, i < b.1.length → j < b.1.length → al b k i j → al b (k + 1) i j := by
    intro i j hi hj he
    have g : ∀ m, m < b.1.length → kd b k m = kd b (k + 1) m := fun m hm => by
      have h1 := kdv_get (b := b) (k := k) hm
      have h2 := kdv_get (b := b) (k := k + 1) hm
      rw [h] at h1
      omega
    refine kd_eq.1 ?_
    rw [← g i hi, ← g j hj]
    exact kd_eq.2 he
  unfold kdv kinds
  refine List.map_congr_left fun i hi => ?_
  have hi := List.mem_range.1 hi
  congr 1
  have h1 := first_spec (p := fun j => al b k j i) (al_refl k i)
  refine (first_eq (p := fun j => eqv b j i) (fun w _ => rfl) ((al_eqv hv hs (by have := h1.2.1; show kd b k i < _; unfold kd; omega) hi).1 h1.1) fun m hm he => ?_).symm
  have hml : m < b.1.length := by have := h1.2.1; unfold kd at hm; omega
  exact h1.2.2 m hm ((al_eqv hv hs hml hi).2 he)
theorem kdv_diff (hv : V b) {k : Nat} (h : kdv b k ≠ kdv b (k + 1)) : cnt b.1.length (al b) k < cnt b.1.length (al b) (k + 1) := by
  refine cnt_lt (fun k i => al_refl k i) (fun k i j h => al_symm h) (fun k i j l h g => al_trans h g) (fun k i j h => al_mono h) ?_
  apply Classical.byContradiction
  intro hno
  have hs : ∀ i j, i < b.1.length → j < b.1.length → al b k i j → al b (k + 1) i j := fun i j hi hj he => Classical.byContradiction fun hne => hno ⟨i, j, hi, hj, he, hne⟩
  refine h (List.map_congr_left fun i hi => ?_)
  have hi := List.mem_range.1 hi
  congr 1
  have h1 := first_spec (p := fun j => al b k j i) (al_refl k i)
  refine (first_eq (p := fun j => al b (k + 1) j i) (al_refl _ i) (hs _ _ (by have := h1.2.1; show kd b k i < _; unfold kd; omega) hi h1.1) fun m hm he => h1.2.2 m hm (al_mono he)).symm
theorem kdv_zero : kdv b 0 = List.replicate b.1.length 0 := by
  unfold kdv
  apply List.ext_getElem
  · simp
  · intro i h1 h2
    simp only [List.getElem_map, List.getElem_range, List.getElem_replicate]
    have : kd b 0 i = 0 := first_eq (p := fun j => al b 0 j i) trivial trivial fun m hm => by omega
    rw [this]; rfl
end

end Go.Proofs.Ythdmngalhppkcaa
