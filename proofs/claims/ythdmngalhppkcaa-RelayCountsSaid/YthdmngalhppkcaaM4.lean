/- How many words give a signal. -/
import Derived.Test.YthdmngalhppkcaaM1
set_option linter.unusedVariables false
set_option linter.unusedSimpArgs false
namespace Go.Proofs.Ythdmngalhppkcaa
open Go Go.Pv Classical

structure Q (n : Nat) (s : Int) (m : List Int) : Prop where
  len : m.length = n
  nn : ∀ x ∈ m, 0 ≤ x
  sum : m.sum = s

theorem sum_set : ∀ (l : List Int) (i : Nat) (v : Int), i < l.length → (l.set i (l.getD i 0 + v)).sum = l.sum + v
  | [], i, v, h => by simp at h
  | x :: l, 0, v, _ => by simp; omega
  | x :: l, i + 1, v, h => by
    have := sum_set l i v (by simpa using h)
    simp only [List.set_cons_succ, List.sum_cons, List.getD_cons_succ]
    rw [this]; omega

theorem sum_nn : ∀ {l : List Int}, (∀ x ∈ l, 0 ≤ x) → 0 ≤ l.sum
  | [], _ => by simp
  | x :: l, h => by
    have h1 := h x (by simp)
    have h2 := sum_nn (l := l) fun y hy => h y (by simp [hy])
    rw [List.sum_cons]; omega

theorem le_sum : ∀ {l : List Int}, (∀ x ∈ l, 0 ≤ x) → ∀ x ∈ l, x ≤ l.sum
  | [], _, x, hx => by cases hx
  | y :: l, h, x, hx => by
    have h1 := h y (by simp)
    have h2 : ∀ z ∈ l, 0 ≤ z := fun z hz => h z (by simp [hz])
    have h3 := sum_nn h2
    rw [List.sum_cons]
    rcases List.mem_cons.1 hx with rfl | hx
    · omega
    · have := le_sum h2 x hx; omega

theorem Q.get {n : Nat} {s : Int} {m : List Int} (h : Q n s m) {i : Nat} (hi : i < n) : 0 ≤ m.getD i 0 ∧ m.getD i 0 ≤ s := by
  have hm := getD_mem (0 : Int) (l := m) (j := i) (by rw [h.len]; exact hi)
  exact ⟨h.nn _ hm, by rw [← h.sum]; exact le_sum h.nn _ hm⟩

def ad (acc : List Int) (p v : Int) : List Int := acc.set p.toNat (acc.getD p.toNat 0 + v)

theorem ad_Q {n : Nat} {s v p : Int} {acc : List Int} (h : Q n s acc) (hp : 0 ≤ p ∧ p < (n : Int)) (hv : 0 ≤ v) : Q n (s + v) (ad acc p v) := by
  have hl := h.len
  refine ⟨by simp [ad, hl], fun x hx => ?_, ?_⟩
  · rcases List.mem_or_eq_of_mem_set hx with hx | rfl
    · exact h.nn x hx
    · have := (h.get (i := p.toNat) (by omega)).1
      omega
  · unfold ad
    rw [sum_set _ _ _ (by omega), h.sum]

theorem sum_take_le : ∀ {m : List Int} (j : Nat), (∀ x ∈ m, 0 ≤ x) → (m.take j).sum ≤ m.sum
  | [], j, _ => by simp
  | x :: m, 0, h => by simpa using sum_nn h
  | x :: m, j + 1, h => by
    have := sum_take_le (m := m) j fun y hy => h y (by simp [hy])
    simp only [List.take_succ_cons, List.sum_cons]; omega

theorem sum_take_succ {m : List Int} {j : Nat} (hj : j < m.length) : (m.take (j + 1)).sum = (m.take j).sum + m.getD j 0 := by
  rw [take_getD (0 : Int) hj, List.sum_append]; simp

/-- One input more: what the first j states hand on. -/
def A (b : Bx) (m : List Int) : Nat → List Int
  | 0 => List.replicate b.1.length 0
  | j + 1 => ad (ad (A b m j) (nx b j 0) (m.getD j 0)) (nx b j 1) (m.getD j 0)

theorem nx_j {b : Bx} (hv : V b) {j : Nat} (hj : j < b.1.length) : (0 ≤ nx b j 0 ∧ nx b j 0 < (b.1.length : Int)) ∧ (0 ≤ nx b j 1 ∧ nx b j 1 < (b.1.length : Int)) := by
  have hg := hv.2.2.2 j hj
  unfold good at hg
  omega

theorem A_Q {b : Bx} (hv : V b) {s : Int} {m : List Int} (hm : Q b.1.length s m) : ∀ {j : Nat}, j ≤ b.1.length → Q b.1.length (2 * (m.take j).sum) (A b m j)
  | 0, _ => ⟨by simp [A], fun x hx => by have := List.eq_of_mem_replicate hx; omega, by
      show (List.replicate b.1.length (0 : Int)).sum = _
      rw [List.sum_replicate_int]; simp⟩
  | j + 1, hj => by
    have ih := A_Q hv hm (j := j) (by omega)
    obtain ⟨h0, h1⟩ := nx_j hv (j := j) (by omega)
    have hg := hm.get (i := j) (by omega)
    have h2 := ad_Q (ad_Q ih h0 hg.1) h1 hg.1
    rw [sum_take_succ (by rw [hm.len]; omega)]
    have e : 2 * ((m.take j).sum + m.getD j 0) = 2 * (m.take j).sum + m.getD j 0 + m.getD j 0 := by omega
    rw [e]
    exact h2

/-- How many words of length k lead to each state. -/
def it (b : Bx) : Nat → List Int
  | 0 => (List.replicate b.1.length 0).set 0 1
  | k + 1 => A b (it b k) b.1.length

theorem it_Q {b : Bx} (hv : V b) : ∀ k : Nat, Q b.1.length (2 ^ k) (it b k)
  | 0 => by
    have h0 : Q b.1.length 0 (List.replicate b.1.length 0) := ⟨by simp, fun x hx => by have := List.eq_of_mem_replicate hx; omega, by rw [List.sum_replicate_int]; simp⟩
    have h1 := hv.1
    have h := ad_Q (p := 0) (v := 1) h0 (by omega) (by omega)
    have e : ad (List.replicate b.1.length 0) 0 1 = it b 0 := by
      unfold ad it
      simp [List.getD, List.getElem?_replicate]
      split <;> rfl
    rw [e] at h
    simpa using h
  | k + 1 => by
    have h := A_Q hv (it_Q hv k) (Nat.le_refl _)
    rw [List.take_of_length_le (by rw [(it_Q hv k).len]; exact Nat.le_refl _), (it_Q hv k).sum] at h
    rw [show (2 : Int) ^ (k + 1) = 2 * 2 ^ k by rw [Int.pow_succ]; omega]
    exact h

theorem pow20 {k : Nat} (h : k ≤ 20) : (1 : Int) ≤ 2 ^ k ∧ (2 : Int) ^ k ≤ 1048576 := by
  have h1 : (2 : Nat) ^ k ≤ 2 ^ 20 := Nat.pow_le_pow_right (by omega) h
  have h2 : 1 ≤ (2 : Nat) ^ k := Nat.one_le_two_pow
  have e : (2 : Int) ^ k = ((2 ^ k : Nat) : Int) := by simp
  rw [e]
  have : (2 : Nat) ^ 20 = 1048576 := by decide
  omega

theorem step_A {b : Bx} (hv : V b) {s : Int} {m : List Int} (hm : Q b.1.length s m) (hs : s ≤ 1048576) {j : Nat} (hj : j < b.1.length) :
    let a := A b m j
    let p0 := (b.1.getD (j : Int).toNat (List.replicate 2 0)).getD 0 0
    let p1 := (b.1.getD (j : Int).toNat (List.replicate 2 0)).getD 1 0
    (0 ≤ p0 ∧ p0 < (a.length : Int)) ∧ (0 ≤ p1 ∧ p1 < ((a.set p0.toNat (IntKind.i64.wrap (a.getD p0.toNat 0 + m.getD (j : Int).toNat 0))).length : Int)) ∧
      (a.set p0.toNat (IntKind.i64.wrap (a.getD p0.toNat 0 + m.getD (j : Int).toNat 0))).set p1.toNat
        (IntKind.i64.wrap ((a.set p0.toNat (IntKind.i64.wrap (a.getD p0.toNat 0 + m.getD (j : Int).toNat 0))).getD p1.toNat 0 + m.getD (j : Int).toNat 0)) = A b m (j + 1) := by
  intro a p0 p1
  obtain ⟨h0, h1⟩ := nx_j hv hj
  have hA := A_Q hv hm (j := j) (by omega)
  have hg := hm.get (i := j) hj
  have hs0 := sum_take_le j hm.nn
  rw [hm.sum] at hs0
  have hs1 : 0 ≤ (m.take j).sum := sum_nn fun x hx => hm.nn x (List.mem_of_mem_take hx)
  have ep0 : p0 = nx b j 0 := rfl
  have ep1 : p1 = nx b j 1 := rfl
  have em : m.getD (j : Int).toNat 0 = m.getD j 0 := rfl
  have hg0 : 0 ≤ a.getD p0.toNat 0 ∧ a.getD p0.toNat 0 ≤ 2 * (m.take j).sum := hA.get (i := p0.toNat) (by rw [ep0]; omega)
  have hA2 := ad_Q (p := p0) (v := m.getD j 0) hA (by rw [ep0]; exact h0) hg.1
  have hg1 := hA2.get (i := p1.toNat) (by rw [ep1]; omega)
  have w0 : IntKind.i64.wrap (a.getD p0.toNat 0 + m.getD (j : Int).toNat 0) = a.getD p0.toNat 0 + m.getD j 0 := wrapI (by rw [em]; omega) (by rw [em]; omega)
  have e1 : a.set p0.toNat (a.getD p0.toNat 0 + m.getD j 0) = ad (A b m j) p0 (m.getD j 0) := rfl
  have w1 : IntKind.i64.wrap ((ad (A b m j) p0 (m.getD j 0)).getD p1.toNat 0 + m.getD (j : Int).toNat 0) = (ad (A b m j) p0 (m.getD j 0)).getD p1.toNat 0 + m.getD j 0 := wrapI (by rw [em]; omega) (by rw [em]; omega)
  rw [w0, e1, w1]
  refine ⟨by rw [ep0, hA.len]; exact h0, by rw [ep1, hA2.len]; exact h1, rfl⟩

theorem l24_2 (K : Nat) (hK : 10 ≤ K) {b : Bx} (hv : V b) {s : Int} {m : List Int} (hm : Q b.1.length s m) (hs : s ≤ 1048576) (o n i : Int) :
    impll24_2 K K o b (List.replicate b.1.length 0) n i m m.length 0 = some (A b m b.1.length, (b.1.length : Int), ()) := by
  have h6 := hv.2.1
  have hl := hm.len
  have h := upto (fun k (t : List Int × Int) => impll24_2 K k o b t.1 n i m m.length t.2) (fun j => (A b m j, (j : Int))) b.1.length
    (A b m b.1.length, (b.1.length : Int), ()) (fun k j hj => by
      show impll24_2 K (k + 1) o b (A b m j) n i m m.length j = impll24_2 K k o b (A b m (j + 1)) n i m m.length ((j + 1 : Nat) : Int)
      rw [impll24_2, implb24_2]
      obtain ⟨c4, c5, c6⟩ := step_A hv hm hs hj
      have c1 : (j : Int) < (m.length : Int) := by omega
      have c2 : 0 ≤ (j : Int) ∧ (j : Int) < (m.length : Int) := by omega
      have c3 : 0 ≤ (j : Int) ∧ (j : Int) < (b.1.length : Int) := by omega
      simp only [cdec, if_pos c1, if_pos c2, if_pos c3, if_pos c4, if_pos c5, c6]
      rw [wrapS (by omega)]) (fun k => by
      show impll24_2 K (k + 1) o b (A b m b.1.length) n i m m.length b.1.length = _
      rw [impll24_2, implb24_2]
      simp only [cdec]
      rw [if_neg (by omega)]) K 0 (by omega) (by omega)
  exact h

theorem l25_2 (K : Nat) (hK : 10 ≤ K) {b : Bx} (hv : V b) {s : Int} {m : List Int} (hm : Q b.1.length s m) (hs : s ≤ 1048576) (n o i : Int) :
    impll25_2 K K n o b m i (List.replicate b.1.length 0) 0 = some (A b m b.1.length, (b.1.length : Int), ()) := by
  have h6 := hv.2.1
  have hl := hm.len
  have h := upto (fun k (t : List Int × Int) => impll25_2 K k n o b m i t.1 t.2) (fun j => (A b m j, (j : Int))) b.1.length
    (A b m b.1.length, (b.1.length : Int), ()) (fun k j hj => by
      show impll25_2 K (k + 1) n o b m i (A b m j) j = impll25_2 K k n o b m i (A b m (j + 1)) ((j + 1 : Nat) : Int)
      rw [impll25_2, implb25_2]
      obtain ⟨c4, c5, c6⟩ := step_A hv hm hs hj
      have c1 : (j : Int) < (m.length : Int) := by omega
      have c2 : 0 ≤ (j : Int) ∧ (j : Int) < (m.length : Int) := by omega
      have c3 : 0 ≤ (j : Int) ∧ (j : Int) < (b.1.length : Int) := by omega
      simp only [cdec, if_pos c1, if_pos c2, if_pos c3, if_pos c4, if_pos c5, c6]
      rw [wrapS (by omega)]) (fun k => by
      show impll25_2 K (k + 1) n o b m i (A b m b.1.length) b.1.length = _
      rw [impll25_2, implb25_2]
      simp only [cdec]
      rw [if_neg (by omega)]) K 0 (by omega) (by omega)
  exact h

theorem l24_0 (K : Nat) (hK : 30 ≤ K) {b : Bx} (hv : V b) (o : Int) {n : Nat} (hn : n ≤ 20) : impll24_0 K K o b (it b 0) n 0 = some (it b n, (n : Int), ()) := by
  have h6 := hv.2.1
  have h := upto (fun k (t : List Int × Int) => impll24_0 K k o b t.1 n t.2) (fun j => (it b j, (j : Int))) n
    (it b n, (n : Int), ()) (fun k j hj => by
      show impll24_0 K (k + 1) o b (it b j) n j = impll24_0 K k o b (it b (j + 1)) n ((j + 1 : Nat) : Int)
      rw [impll24_0, implb24_0]
      simp only [cdec]
      have e : List.replicate ((b.1.length : Nat) : Int).toNat (0 : Int) = List.replicate b.1.length 0 := rfl
      rw [if_pos (by omega), if_pos (by omega), e, l24_2 K (by omega) hv (it_Q hv j) (pow20 (by omega)).2, obS, wrapS (by omega)]
      rfl) (fun k => by
      show impll24_0 K (k + 1) o b (it b n) n n = _
      rw [impll24_0, implb24_0]
      simp only [cdec]
      rw [if_neg (by omega)]) K 0 (by omega) (by omega)
  exact h

theorem l25_0 (K : Nat) (hK : 30 ≤ K) {b : Bx} (hv : V b) (o : Int) {n : Nat} (hn : n ≤ 20) : impll25_0 K K n o b (it b 0) 0 = some (it b n, (n : Int), ()) := by
  have h6 := hv.2.1
  have h := upto (fun k (t : List Int × Int) => impll25_0 K k n o b t.1 t.2) (fun j => (it b j, (j : Int))) n
    (it b n, (n : Int), ()) (fun k j hj => by
      show impll25_0 K (k + 1) n o b (it b j) j = impll25_0 K k n o b (it b (j + 1)) ((j + 1 : Nat) : Int)
      rw [impll25_0, implb25_0]
      simp only [cdec]
      have hl := (it_Q hv j).len
      have e : List.replicate (((it b j).length : Nat) : Int).toNat (0 : Int) = List.replicate b.1.length 0 := by rw [hl]; rfl
      rw [if_pos (by omega), if_pos (by omega), e, l25_2 K (by omega) hv (it_Q hv j) (pow20 (by omega)).2, obS, wrapS (by omega)]
      rfl) (fun k => by
      show impll25_0 K (k + 1) n o b (it b n) n = _
      rw [impll25_0, implb25_0]
      simp only [cdec]
      rw [if_neg (by omega)]) K 0 (by omega) (by omega)
  exact h

/-- Of the first j states: to how many words the signal is given. -/
noncomputable def S (b : Bx) (m : List Int) (o : Int) : Nat → Int
  | 0 => 0
  | j + 1 => if ot b j = o then S b m o j + m.getD j 0 else S b m o j

theorem S_in {b : Bx} {n : Nat} {s : Int} {m : List Int} (hm : Q n s m) (o : Int) : ∀ {j : Nat}, j ≤ n → 0 ≤ S b m o j ∧ S b m o j ≤ (m.take j).sum
  | 0, _ => by simp [S]
  | j + 1, hj => by
    have ih := S_in hm o (b := b) (j := j) (by omega)
    have hg := hm.get (i := j) (by omega)
    rw [sum_take_succ (by rw [hm.len]; omega), S]
    split <;> omega

theorem S_all {b : Bx} (hv : V b) {s : Int} {m : List Int} (hm : Q b.1.length s m) : ∀ {j : Nat}, j ≤ b.1.length → S b m 0 j + S b m 1 j + S b m 2 j + S b m 3 j = (m.take j).sum
  | 0, _ => by simp [S]
  | j + 1, hj => by
    have ih := S_all hv hm (j := j) (by omega)
    have ho := (hv.2.2.2 j (by omega)).2.2
    rw [sum_take_succ (by rw [hm.len]; omega)]
    simp only [S]
    have : ot b j = 0 ∨ ot b j = 1 ∨ ot b j = 2 ∨ ot b j = 3 := by omega
    rcases this with h | h | h | h <;> simp [h] <;> omega

theorem l24_4 (K : Nat) (hK : 10 ≤ K) {b : Bx} (hv : V b) {s : Int} {m : List Int} (hm : Q b.1.length s m) (hs : s ≤ 1048576) (o : Int) :
    impll24_4 K K o b 0 m m.length 0 = some (S b m o b.1.length, (b.1.length : Int), ()) := by
  have h6 := hv.2.1
  have hl := hm.len
  have h := upto (fun k (t : Int × Int) => impll24_4 K k o b t.1 m m.length t.2) (fun j => (S b m o j, (j : Int))) b.1.length
    (S b m o b.1.length, (b.1.length : Int), ()) (fun k j hj => by
      show impll24_4 K (k + 1) o b (S b m o j) m m.length j = impll24_4 K k o b (S b m o (j + 1)) m m.length ((j + 1 : Nat) : Int)
      rw [impll24_4, implb24_4]
      have h22 := hv.2.2.1
      have c1 : (j : Int) < (m.length : Int) := by omega
      have c2 : 0 ≤ (j : Int) ∧ (j : Int) < (m.length : Int) := by omega
      have c3 : 0 ≤ (j : Int) ∧ (j : Int) < (b.2.length : Int) := by omega
      have hS := S_in (b := b) hm o (j := j) (by omega)
      have hg := hm.get (i := j) hj
      have ht := sum_take_le j hm.nn
      rw [hm.sum] at ht
      have e1 : b.2.getD (j : Int).toNat 0 = ot b j := rfl
      have e2 : m.getD (j : Int).toNat 0 = m.getD j 0 := rfl
      simp only [cdec, ibeq, if_pos c1, if_pos c2, if_pos c3, e1, e2, S]
      rw [wrapS (by omega)]
      by_cases hd : ot b j = o
      · rw [if_pos hd, if_pos hd, wrapI (by omega) (by omega)]
      · rw [if_neg hd, if_neg hd]) (fun k => by
      show impll24_4 K (k + 1) o b (S b m o b.1.length) m m.length b.1.length = _
      rw [impll24_4, implb24_4]
      simp only [cdec]
      rw [if_neg (by omega)]) K 0 (by omega) (by omega)
  exact h

theorem l25_4 (K : Nat) (hK : 10 ≤ K) {b : Bx} (hv : V b) {s : Int} {m : List Int} (hm : Q b.1.length s m) (hs : s ≤ 1048576) (o : Int) :
    impll25_4 K K o b m 0 0 = some (S b m o b.1.length, (b.1.length : Int), ()) := by
  have h6 := hv.2.1
  have hl := hm.len
  have h := upto (fun k (t : Int × Int) => impll25_4 K k o b m t.1 t.2) (fun j => (S b m o j, (j : Int))) b.1.length
    (S b m o b.1.length, (b.1.length : Int), ()) (fun k j hj => by
      show impll25_4 K (k + 1) o b m (S b m o j) j = impll25_4 K k o b m (S b m o (j + 1)) ((j + 1 : Nat) : Int)
      rw [impll25_4, implb25_4]
      have h22 := hv.2.2.1
      have c1 : (j : Int) < (m.length : Int) := by omega
      have c2 : 0 ≤ (j : Int) ∧ (j : Int) < (m.length : Int) := by omega
      have c3 : 0 ≤ (j : Int) ∧ (j : Int) < (b.2.length : Int) := by omega
      have hS := S_in (b := b) hm o (j := j) (by omega)
      have hg := hm.get (i := j) hj
      have ht := sum_take_le j hm.nn
      rw [hm.sum] at ht
      have e1 : b.2.getD (j : Int).toNat 0 = ot b j := rfl
      have e2 : m.getD (j : Int).toNat 0 = m.getD j 0 := rfl
      simp only [cdec, ibeq, if_pos c1, if_pos c2, if_pos c3, e1, e2, S]
      rw [wrapS (by omega)]
      by_cases hd : ot b j = o
      · rw [if_pos hd, if_pos hd, wrapI (by omega) (by omega)]
      · rw [if_neg hd, if_neg hd]) (fun k => by
      show impll25_4 K (k + 1) o b m (S b m o b.1.length) b.1.length = _
      rw [impll25_4, implb25_4]
      simp only [cdec]
      rw [if_neg (by omega)]) K 0 (by omega) (by omega)
  exact h

noncomputable def cnt (b : Bx) (n o : Int) : Int × Int := if V b then (if 0 ≤ n ∧ n ≤ 20 then (if 0 ≤ o ∧ o ≤ 3 then (S b (it b n.toNat) o b.1.length, 0) else (0, 1)) else (0, 1)) else (0, 1)

theorem f24 (K : Nat) (hK : 30 ≤ K) (b : Bx) (n o : Int) : implf24 K b n o = some (cnt b n o) := by
  unfold implf24 cnt
  rw [f30 K (by omega)]
  simp only [obS, ibne, cnot, cdec, w61]
  by_cases hv : V b
  · have h1 := hv.1
    have h6 := hv.2.1
    simp only [if_pos hv, if_true]
    by_cases h2 : 0 ≤ n ∧ n ≤ 20
    · rw [if_pos h2, if_pos h2]
      by_cases h3 : 0 ≤ o ∧ o ≤ 3
      · have e : (List.replicate ((b.1.length : Nat) : Int).toNat (0 : Int)).set 0 1 = it b 0 := rfl
        have en : n = ((n.toNat : Nat) : Int) := by omega
        rw [if_pos h3, if_pos h3, if_pos (by omega), if_pos (by simp; omega), e]
        have hl := l24_0 K hK hv o (n := n.toNat) (by omega)
        rw [← en] at hl
        rw [hl, obS]
        simp only []
        have hq := it_Q hv n.toNat
        have := l24_4 K (by omega) hv hq (pow20 (by omega)).2 o
        rw [this]; rfl
      · rw [if_neg h3, if_neg h3]
    · rw [if_neg h2, if_neg h2]
  · simp only [if_neg hv]
    rw [if_neg (by omega)]

theorem f25 (K : Nat) (hK : 30 ≤ K) (b : Bx) (n o : Int) : implf25 K b n o = some (cnt b n o) := by
  unfold implf25 cnt
  rw [f31 K (by omega)]
  simp only [obS, ibne, cnot, cdec, w62]
  by_cases hv : V b
  · have h1 := hv.1
    have h6 := hv.2.1
    have h22 := hv.2.2.1
    simp only [if_pos hv, if_true]
    by_cases h2 : 0 ≤ n ∧ n ≤ 20
    · rw [if_pos h2, if_pos h2]
      by_cases h3 : 0 ≤ o ∧ o ≤ 3
      · have e : (List.replicate ((b.2.length : Nat) : Int).toNat (0 : Int)).set 0 1 = it b 0 := by rw [h22]; rfl
        have en : n = ((n.toNat : Nat) : Int) := by omega
        rw [if_pos h3, if_pos h3, if_pos (by omega), if_pos (by simp; omega), e]
        have hl := l25_0 K hK hv o (n := n.toNat) (by omega)
        rw [← en] at hl
        rw [hl, obS]
        simp only []
        have hq := it_Q hv n.toNat
        have := l25_4 K (by omega) hv hq (pow20 (by omega)).2 o
        rw [this]; rfl
      · rw [if_neg h3, if_neg h3]
    · rw [if_neg h2, if_neg h2]
  · simp only [if_neg hv]
    rw [if_neg (by omega)]

end Go.Proofs.Ythdmngalhppkcaa
