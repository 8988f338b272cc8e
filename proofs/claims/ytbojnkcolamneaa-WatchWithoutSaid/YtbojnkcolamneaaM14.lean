/- Spells without a gap, and how much they cover. -/
import Derived.Test.YtbojnkcolamneaaM13
set_option linter.unusedVariables false
set_option linter.unusedSimpArgs false
namespace Go.Proofs.Ytbojnkcolamneaa
open Go Go.Pv Classical

/-! ### Spells, the last one first -/
structure Cov (acc : List Shf) (P : Int → Prop) : Prop where
  ok : ∀ s ∈ acc, 0 ≤ s.1 ∧ s.1 < s.2.1 ∧ s.2.1 ≤ 1000 ∧ s.2.2 = 0
  sep : acc.Pairwise fun a b => b.2.1 < a.1
  cov : ∀ m, (∃ s ∈ acc, rn s m) ↔ P m

theorem ex_cons {p : Shf → Prop} {a : Shf} {r : List Shf} : (∃ s ∈ a :: r, p s) ↔ p a ∨ ∃ s ∈ r, p s := by simp only [List.mem_cons, exists_eq_or_imp]
theorem Cov.congr {acc : List Shf} {P Q : Int → Prop} (h : Cov acc P) (hq : ∀ m, P m ↔ Q m) : Cov acc Q := ⟨h.ok, h.sep, fun m => (h.cov m).trans (hq m)⟩
theorem Cov.nil {P : Int → Prop} (h : ∀ m, ¬ P m) : Cov [] P := ⟨fun s hs => by simp at hs, .nil, fun m => ⟨fun ⟨s, hs, _⟩ => by simp at hs, fun g => absurd g (h m)⟩⟩
theorem Cov.tail {t : Shf} {r : List Shf} {P : Int → Prop} (h : Cov (t :: r) P) : Cov r (fun m => P m ∧ m < t.1) := by
  obtain ⟨h1, h2⟩ := List.pairwise_cons.1 h.sep
  refine ⟨fun s hs => h.ok s (List.mem_cons_of_mem _ hs), h2, fun m => ⟨?_, ?_⟩⟩
  · rintro ⟨s, hs, hm⟩
    have := h1 s hs
    exact ⟨(h.cov m).1 ⟨s, List.mem_cons_of_mem _ hs, hm⟩, by unfold rn at hm; omega⟩
  · rintro ⟨hp, hm⟩
    obtain ⟨s, hs, hr⟩ := (h.cov m).2 hp
    rcases List.mem_cons.1 hs with rfl | hs
    · unfold rn at hr; omega
    · exact ⟨s, hs, hr⟩
theorem Cov.top {t : Shf} {r : List Shf} {P : Int → Prop} (h : Cov (t :: r) P) {s : Shf} (hs : s ∈ t :: r) : s.2.1 ≤ t.2.1 := by
  obtain ⟨h1, h2⟩ := List.pairwise_cons.1 h.sep
  rcases List.mem_cons.1 hs with rfl | hs
  · exact Int.le_refl _
  · have := h1 s hs
    have := h.ok t (by simp)
    omega
theorem Cov.hi {t : Shf} {r : List Shf} {P : Int → Prop} (h : Cov (t :: r) P) {m : Int} (hm : P m) : m < t.2.1 := by
  obtain ⟨s, hs, hr⟩ := (h.cov m).2 hm
  have := h.top hs
  unfold rn at hr; omega
theorem Cov.last {t : Shf} {r : List Shf} {P : Int → Prop} (h : Cov (t :: r) P) : P (t.2.1 - 1) := by
  have := h.ok t (by simp)
  exact (h.cov _).1 ⟨t, by simp, by unfold rn; omega⟩
theorem Cov.low {t : Shf} {r : List Shf} {P : Int → Prop} (h : Cov (t :: r) P) : ¬ P (t.1 - 1) := by
  intro hp
  obtain ⟨s, hs, hr⟩ := (h.cov _).2 hp
  obtain ⟨h1, h2⟩ := List.pairwise_cons.1 h.sep
  rcases List.mem_cons.1 hs with rfl | hs
  · unfold rn at hr; omega
  · have := h1 s hs
    unfold rn at hr; omega
theorem Cov.unique : ∀ {a b : List Shf} {P : Int → Prop}, Cov a P → Cov b P → a = b
  | [], [], _, _, _ => rfl
  | [], t :: r, P, h, g => by
    obtain ⟨s, hs, _⟩ := (h.cov _).2 g.last
    simp at hs
  | t :: r, [], P, h, g => by
    obtain ⟨s, hs, _⟩ := (g.cov _).2 h.last
    simp at hs
  | t :: r, u :: q, P, h, g => by
    have e2 : t.2.1 = u.2.1 := by
      have := g.hi h.last
      have := h.hi g.last
      omega
    have ht := h.ok t (by simp)
    have hu := g.ok u (by simp)
    have e1 : t.1 = u.1 := by
      have a1 : ¬ t.1 < u.1 := fun c => g.low ((h.cov _).1 ⟨t, by simp, by unfold rn; omega⟩)
      have a2 : ¬ u.1 < t.1 := fun c => h.low ((g.cov _).1 ⟨u, by simp, by unfold rn; omega⟩)
      omega
    have e : t = u := by
      obtain ⟨t1, t2, t3⟩ := t
      obtain ⟨u1, u2, u3⟩ := u
      simp only at *
      have : t3 = u3 := by omega
      rw [e1, e2, this]
    subst e
    rw [Cov.unique h.tail g.tail]

def push (y : Shf) : List Shf → List Shf
  | [] => [(y.1, y.2.1, 0)]
  | t :: r => if t.2.1 ≥ y.1 then (t.1, max t.2.1 y.2.1, t.2.2) :: r else (y.1, y.2.1, 0) :: t :: r
theorem push_len (y : Shf) : ∀ a : List Shf, (push y a).length ≤ a.length + 1
  | [] => by simp [push]
  | t :: r => by
    rw [push]
    split <;> simp
theorem Cov.push {acc : List Shf} {P : Int → Prop} {y : Shf} (h : Cov acc P) (hy : okS y) (hle : ∀ s ∈ acc, s.1 ≤ y.1) : Cov (push y acc) (fun m => P m ∨ rn y m) ∧ ∀ s ∈ Ytbojnkcolamneaa.push y acc, s.1 ≤ y.1 := by
  unfold okS at hy
  cases acc with
  | nil =>
    refine ⟨⟨fun s hs => ?_, by simp [Ytbojnkcolamneaa.push], fun m => ?_⟩, fun s hs => ?_⟩
    · simp only [Ytbojnkcolamneaa.push, List.mem_singleton] at hs
      subst hs
      exact ⟨hy.1, hy.2.1, hy.2.2.1, rfl⟩
    · have := h.cov m
      simp only [List.not_mem_nil, false_and, exists_false, false_iff] at this
      simp only [Ytbojnkcolamneaa.push, List.mem_singleton, exists_eq_left, this, false_or]
      rfl
    · simp only [Ytbojnkcolamneaa.push, List.mem_singleton] at hs
      subst hs
      exact Int.le_refl _
  | cons t r =>
    obtain ⟨h1, h2⟩ := List.pairwise_cons.1 h.sep
    have ht := h.ok t (by simp)
    have hty := hle t (by simp)
    rw [Ytbojnkcolamneaa.push]
    by_cases c : t.2.1 ≥ y.1
    · rw [if_pos c]
      refine ⟨⟨fun s hs => ?_, List.pairwise_cons.2 ⟨h1, h2⟩, fun m => ?_⟩, fun s hs => ?_⟩
      · rcases List.mem_cons.1 hs with rfl | hs
        · simp only []; omega
        · exact h.ok s (List.mem_cons_of_mem _ hs)
      · rw [← h.cov m]
        simp only [List.mem_cons, exists_eq_or_imp]
        have : rn (t.1, max t.2.1 y.2.1, t.2.2) m ↔ rn t m ∨ rn y m := by unfold rn; simp only []; omega
        rw [this]
        constructor
        · rintro ((h | h) | h)
          · exact .inl (.inl h)
          · exact .inr h
          · exact .inl (.inr h)
        · rintro ((h | h) | h)
          · exact .inl (.inl h)
          · exact .inr h
          · exact .inl (.inr h)
      · rcases List.mem_cons.1 hs with rfl | hs
        · exact hty
        · exact hle s (List.mem_cons_of_mem _ hs)
    · rw [if_neg c]
      refine ⟨⟨fun s hs => ?_, List.pairwise_cons.2 ⟨fun s hs => ?_, h.sep⟩, fun m => ?_⟩, fun s hs => ?_⟩
      · rcases List.mem_cons.1 hs with rfl | hs
        · exact ⟨hy.1, hy.2.1, hy.2.2.1, rfl⟩
        · exact h.ok s hs
      · have := h.top hs
        show s.2.1 < y.1
        omega
      · rw [← h.cov m]
        have : rn (y.1, y.2.1, 0) m ↔ rn y m := Iff.rfl
        rw [ex_cons, this]
        exact Or.comm
      · rcases List.mem_cons.1 hs with rfl | hs
        · exact Int.le_refl _
        · exact hle s hs
/-- The spells of shifts in the order of their beginnings. -/
def stk (ys : List Shn) : List Shf := ys.foldl (fun a y => push y.1 a) []
theorem stk_cov : ∀ (ys : List Shn) (a : List Shf) (P : Int → Prop), (∀ y ∈ ys, okS y.1) → ys.Pairwise (fun a b => a.1.1 ≤ b.1.1) → Cov a P → (∀ s ∈ a, ∀ y ∈ ys, s.1 ≤ y.1.1) →
    Cov (ys.foldl (fun a y => push y.1 a) a) (fun m => P m ∨ ∃ y ∈ ys, rn y.1 m) ∧ (ys.foldl (fun a y => push y.1 a) a).length ≤ a.length + ys.length
  | [], a, P, _, _, h, _ => ⟨h.congr fun m => by simp, Nat.le_refl _⟩
  | y :: ys, a, P, hok, hs, h, hle => by
    obtain ⟨s1, s2⟩ := List.pairwise_cons.1 hs
    obtain ⟨g1, g2⟩ := h.push (hok y (by simp)) (fun s hs => hle s hs y (by simp))
    obtain ⟨k1, k2⟩ := stk_cov ys (push y.1 a) _ (fun z hz => hok z (List.mem_cons_of_mem _ hz)) s2 g1 (fun s hs z hz => Int.le_trans (g2 s hs) (s1 z hz))
    refine ⟨k1.congr fun m => ?_, ?_⟩
    · simp only [List.mem_cons, exists_eq_or_imp, or_assoc]
    · rw [List.foldl_cons]
      have := push_len y.1 a
      simp only [List.length_cons] at *
      omega

/-- Does some shift run? -/
def cvd (l : List Shf) (m : Int) : Prop := 0 < cnt l m
theorem cvd_iff {l : List Shf} {m : Int} : cvd l m ↔ ∃ s ∈ l, rn s m := by
  unfold cvd cnt
  rw [List.countP_pos_iff]
  constructor
  · rintro ⟨s, hs, h⟩; exact ⟨s, hs, runsB_iff.1 h⟩
  · rintro ⟨s, hs, h⟩; exact ⟨s, hs, runsB_iff.2 h⟩
def spl (l : List Shf) : List Shf := stk (byB l)
theorem byB_ok {l : List Shf} (hl : ∀ s ∈ l, okS s) : ∀ y ∈ byB l, okS y.1 := fun y hy => by
  obtain ⟨i, hi, rfl⟩ := mem_byB.1 hy
  exact hl _ (getD_mem z3 hi)
theorem spl_cov {l : List Shf} (hl : ∀ s ∈ l, okS s) : Cov (spl l) (cvd l) ∧ (spl l).length ≤ l.length := by
  obtain ⟨h1, h2⟩ := stk_cov (byB l) [] (fun _ => False) (byB_ok hl) (byB_sorted l) (Cov.nil fun m h => h) (fun s hs => by simp at hs)
  refine ⟨h1.congr fun m => ?_, by rw [byB_length] at h2; simpa [spl, stk] using h2⟩
  rw [cvd_iff, false_or]
  constructor
  · rintro ⟨y, hy, hm⟩
    obtain ⟨i, hi, rfl⟩ := mem_byB.1 hy
    exact ⟨_, getD_mem z3 hi, hm⟩
  · rintro ⟨s, hs, hm⟩
    obtain ⟨y, hy, rfl⟩ := List.mem_map.1 ((byB_fst l).mem_iff.2 hs)
    exact ⟨y, hy, hm⟩

/-! ### The program's spells -/
theorem rev_len (t : Shf) (r : List Shf) : (t :: r).reverse.length = r.length + 1 := by simp
theorem rev_get (t : Shf) (r : List Shf) : (t :: r).reverse.getD r.length z3 = t := by
  rw [List.reverse_cons, getD_snoc, if_pos (by simp)]
theorem rev_set (t u : Shf) (r : List Shf) : (t :: r).reverse.set r.length u = (u :: r).reverse := by
  rw [List.reverse_cons, List.reverse_cons, List.set_append_right _ _ (by simp)]
  simp
theorem f84 (K : Nat) (hK : 12 < K) (l : List Shf) (h12 : l.length ≤ 12) : implf84 K l = some (spl l).reverse := by
  unfold implf84
  rw [f67a K l h12 hK, obS]
  have hb := byB_length l
  have := foldTo (fun k j (t : List Shf) => impll84_0 K k t.reverse (byB l) ((byB l).length : Int) (j : Int)) (byB l) z4 (fun a y => push y.1 a) (fun j t => t.length ≤ j) (fun t => (t.reverse, ((byB l).length : Int), ()))
    (fun k j t hj hI => by
      have e : (byB l).getD (j : Int).toNat (((0 : Int), (0 : Int), (0 : Int)), (0 : Int)) = (byB l).getD j z4 := rfl
      refine ⟨?_, by have := push_len ((byB l).getD j z4).1 t; omega⟩
      show impll84_0 K (k + 1) t.reverse (byB l) _ j = impll84_0 K k (push ((byB l).getD j z4).1 t).reverse (byB l) _ ((j + 1 : Nat) : Int)
      rw [impll84_0, implb84_0]
      generalize (byB l).getD j z4 = y at *
      simp only [cdec, e]
      rw [if_pos (by omega), if_pos (by omega), wrapS (by omega)]
      cases t with
      | nil =>
        rw [if_neg (by simp), if_pos (by simp)]
        rfl
      | cons t r =>
        have hr : r.length ≤ 12 := by simp only [List.length_cons] at hI; omega
        have ew : IntKind.i64.wrap (((t :: r).reverse.length : Int) - 1) = (r.length : Int) := by
          rw [rev_len, wrapI (by omega) (by omega)]; omega
        have eg : (t :: r).reverse.getD ((r.length : Int)).toNat ((0 : Int), (0 : Int), (0 : Int)) = t := by
          rw [Int.toNat_natCast]; exact rev_get t r
        rw [ew, rev_len, eg, if_pos (by omega), if_pos (by omega), push]
        by_cases c : t.2.1 ≥ y.1.1
        · rw [if_pos c, if_pos c, if_pos (by omega), if_pos (by omega), Int.toNat_natCast, rev_set]
        · rw [if_neg c, if_neg c, if_pos (by simp; omega)]
          simp)
    (fun k t _ => by
      show impll84_0 K (k + 1) t.reverse (byB l) _ (byB l).length = _
      rw [impll84_0, implb84_0]
      simp only [cdec]
      rw [if_neg (by omega)]) K 0 [] (by omega) (Nat.zero_le _) (Nat.le_refl _)
  obtain ⟨this, -⟩ := this
  simp only [List.drop_zero] at this
  have this : impll84_0 K K [] (byB l) ((byB l).length : Int) 0 = _ := this
  rw [this, obS]
  rfl
theorem f45 (K : Nat) (hK : 12 < K) (l : List Shf) (hl : ∀ s ∈ l, inS s) : implf45 K l = some (if er l = 0 then ((spl l).reverse, 0) else ([], er l)) := by
  unfold implf45
  rw [f31 K hK l hl]
  simp only [obS, ibne, cdec, cnot]
  by_cases h : er l = 0
  · rw [if_pos h, if_pos h, f84 K hK l (er_ok.1 h).1, obS]
  · rw [if_neg h, if_neg h]

/-! ### How much they cover -/
def len : List Shf → Int
  | [] => 0
  | s :: r => (s.2.1 - s.1) + len r
theorem len_append : ∀ a b, len (a ++ b) = len a + len b
  | [], b => by simp [len]
  | s :: r, b => by rw [List.cons_append, len, len, len_append r b]; omega
theorem len_reverse (a : List Shf) : len a.reverse = len a := by
  induction a with
  | nil => rfl
  | cons s r ih => rw [List.reverse_cons, len_append, ih, len, len, len]; omega
theorem len_fold : ∀ (a : List Shf) (t : Int), a.foldl (fun t s => t + (s.2.1 - s.1)) t = t + len a
  | [], t => by simp [len]
  | s :: r, t => by rw [List.foldl_cons, len_fold r, len]; omega
def cf (p : Nat → Bool) : Nat → Nat
  | 0 => 0
  | n + 1 => cf p n + (if p n then 1 else 0)
theorem cf_le (p : Nat → Bool) : ∀ n, cf p n ≤ n
  | 0 => Nat.le_refl _
  | n + 1 => by
    have := cf_le p n
    rw [cf]
    split <;> omega
theorem cf_congr {p q : Nat → Bool} : ∀ {n}, (∀ m, m < n → p m = q m) → cf p n = cf q n
  | 0, _ => rfl
  | n + 1, h => by rw [cf, cf, cf_congr fun m hm => h m (by omega), h n (by omega)]
theorem cf_mono {p q : Nat → Bool} : ∀ {n}, (∀ m, m < n → p m = true → q m = true) → cf p n ≤ cf q n
  | 0, _ => Nat.le_refl _
  | n + 1, h => by
    have := cf_mono (p := p) (q := q) (n := n) fun m hm => h m (by omega)
    have := h n (by omega)
    rw [cf, cf]
    cases hp : p n with
    | false => simp; omega
    | true => rw [this hp]; simp; omega
theorem cf_or {p q : Nat → Bool} (h : ∀ m, ¬ (p m = true ∧ q m = true)) : ∀ n, cf (fun m => p m || q m) n = cf p n + cf q n
  | 0 => rfl
  | n + 1 => by
    rw [cf, cf, cf, cf_or h n]
    have := h n
    cases hp : p n <;> cases hq : q n <;> simp_all <;> omega
theorem cf_in (a b : Int) (ha : 0 ≤ a) (hab : a ≤ b) : ∀ n : Nat, (cf (fun m => decide (a ≤ (m : Int) ∧ (m : Int) < b)) n : Int) = min b n - min a n
  | 0 => by simp [cf]; omega
  | n + 1 => by
    have := cf_in a b ha hab n
    rw [cf]
    by_cases c : a ≤ (n : Int) ∧ (n : Int) < b
    · rw [if_pos (decide_eq_true c)]; omega
    · rw [if_neg (by simpa using c)]; omega
theorem len_cf : ∀ {a : List Shf} {P : Int → Prop}, Cov a P → len a = (cf (fun m => decide (P (m : Int))) 1000 : Int)
  | [], P, h => by
    have : cf (fun m => decide (P (m : Int))) 1000 = cf (fun m => decide ((1 : Int) ≤ (m : Int) ∧ (m : Int) < 1)) 1000 := cf_congr fun m _ => by
      rw [decide_eq_decide]
      constructor
      · intro hp
        obtain ⟨s, hs, _⟩ := (h.cov _).2 hp
        simp at hs
      · intro; omega
    have e := cf_in 1 1 (by omega) (by omega) 1000
    rw [this, len]
    omega
  | t :: r, P, h => by
    have ht := h.ok t (by simp)
    have e1 : cf (fun m => decide (P (m : Int))) 1000 = cf (fun m => decide (P (m : Int) ∧ (m : Int) < t.1) || decide (t.1 ≤ (m : Int) ∧ (m : Int) < t.2.1)) 1000 := cf_congr fun m _ => by
      rw [← Bool.decide_or, decide_eq_decide]
      constructor
      · intro hp
        have := h.hi hp
        by_cases c : (m : Int) < t.1
        · exact .inl ⟨hp, c⟩
        · exact .inr (by omega)
      · rintro (hp | hp)
        · exact hp.1
        · exact (h.cov _).1 ⟨t, by simp, hp⟩
    have e2 := cf_or (p := fun m => decide (P (m : Int) ∧ (m : Int) < t.1)) (q := fun m => decide (t.1 ≤ (m : Int) ∧ (m : Int) < t.2.1)) (fun m => by simp; omega) 1000
    have e3 := cf_in t.1 t.2.1 ht.1 (by omega) 1000
    have e4 : len r = (cf (fun m => decide (P (m : Int) ∧ (m : Int) < t.1)) 1000 : Int) :=
      (len_cf h.tail).trans (congrArg (fun n : Nat => (n : Int)) (cf_congr fun m _ => by rw [decide_eq_decide]))
    rw [e1, e2, len, e4]
    omega
/-- At how many moments some shift runs. -/
noncomputable def covl (l : List Shf) : Nat := cf (fun m => decide (cvd l (m : Int))) 1000
theorem len_spl {l : List Shf} (hl : ∀ s ∈ l, okS s) : len (spl l) = (covl l : Int) := len_cf (spl_cov hl).1
theorem Cov.len_hi : ∀ {a : List Shf} {P : Int → Prop}, Cov a P → 0 ≤ len a ∧ len a ≤ 1000 := fun {a P} h => by
  have h1 := len_cf h
  have h2 := cf_le (fun m => decide (P (m : Int))) 1000
  omega

theorem l39 (K : Nat) (hK : 12 < K) (a : List Shf) (ha : a.length ≤ 12) (hok : ∀ s ∈ a, 0 ≤ s.1 ∧ s.1 < s.2.1 ∧ s.2.1 ≤ 1000) : impll39_0 K K 0 a (a.length : Int) 0 = some (len a, (a.length : Int), ()) := by
  have := foldTo (fun k j (t : Int) => impll39_0 K k t a (a.length : Int) (j : Int)) a z3 (fun t s => t + (s.2.1 - s.1)) (fun j t => 0 ≤ t ∧ t ≤ 1000 * j) (fun t => (t, (a.length : Int), ()))
    (fun k j t hj hI => by
      have e : a.getD (j : Int).toNat ((0 : Int), (0 : Int), (0 : Int)) = a.getD j z3 := rfl
      have hs := hok _ (getD_mem z3 hj)
      refine ⟨?_, by omega⟩
      show impll39_0 K (k + 1) t a _ j = impll39_0 K k (t + ((a.getD j z3).2.1 - (a.getD j z3).1)) a _ ((j + 1 : Nat) : Int)
      rw [impll39_0, implb39_0]
      simp only [cdec, e]
      rw [if_pos (by omega), if_pos (by omega), wrapS (by omega), wrapI (n := (a.getD j z3).2.1 - (a.getD j z3).1) (by omega) (by omega), wrapI (by omega) (by omega)])
    (fun k t _ => by
      show impll39_0 K (k + 1) t a _ a.length = _
      rw [impll39_0, implb39_0]
      simp only [cdec]
      rw [if_neg (by omega)]) K 0 0 (by omega) (Nat.zero_le _) (by simp)
  obtain ⟨this, -⟩ := this
  simp only [List.drop_zero] at this
  have this : impll39_0 K K 0 a (a.length : Int) 0 = _ := this
  rw [this, len_fold, Int.zero_add]
theorem f39 (K : Nat) (hK : 12 < K) (l : List Shf) (hl : ∀ s ∈ l, inS s) : implf39 K l = some (if er l = 0 then ((covl l : Int), 0) else (0, er l)) := by
  unfold implf39
  rw [f31 K hK l hl]
  simp only [obS, ibne, cdec, cnot]
  by_cases h : er l = 0
  · have hV := er_ok.1 h
    obtain ⟨c1, c2⟩ := spl_cov hV.2
    have h12 := hV.1
    rw [if_pos h, if_pos h, f84 K hK l hV.1, obS, l39 K hK (spl l).reverse (by simp; omega) (fun s hs => by have := c1.ok s (by simpa using hs); omega), obS, len_reverse, len_spl hV.2]
  · rw [if_neg h, if_neg h]
theorem f50 (K : Nat) (hK : 1002 < K) (l : List Shf) : implf50 K l = some (if er l = 0 then ((covl l : Int), 0) else (0, er l)) := by
  unfold implf50
  rw [f25 K (by omega) l]
  simp only [obS, ibne, cdec, cnot]
  by_cases h : er l = 0
  · have hV := er_ok.1 h
    rw [if_pos h, if_pos h]
    have := upto (fun k (j : Nat) => impll50_0 K k l (cf (fun m => decide (cvd l (m : Int))) j : Int) (j : Int)) (fun j => j) 1000 ((covl l : Int), (1000 : Int), ())
      (fun k j hj => by
        show impll50_0 K (k + 1) l _ j = impll50_0 K k l _ ((j + 1 : Nat) : Int)
        rw [impll50_0, implb50_0, f80 K l hV.1 (by omega), obS, atN_cnt]
        simp only [cdec]
        have := cf_le (fun m => decide (cvd l (m : Int))) j
        rw [if_pos (by omega), wrapS (j := j) (by omega), cf]
        by_cases c : cvd l (j : Int)
        · rw [if_pos (by unfold cvd at c; omega), if_pos (decide_eq_true c), wrapS (by omega)]
        · rw [if_neg (by unfold cvd at c; omega), if_neg (by simpa using c)]
          rfl)
      (fun k => by
        show impll50_0 K (k + 1) l _ ((1000 : Nat) : Int) = _
        rw [impll50_0, implb50_0]
        simp only [cdec]
        rw [if_neg (by omega)]
        rfl) K 0 (by omega) (Nat.zero_le _)
    have this : impll50_0 K K l 0 0 = _ := this
    rw [this, obS]
  · rw [if_neg h, if_neg h]

/-! ### The document's spells -/
def SI (l : List Shf) (j : Nat) (t : List Shf × Bool) : Prop :=
  t.1.length ≤ j ∧ t.2 = decide (cvd l ((j : Int) - 1)) ∧
  (t.2 = true → ∃ (a : Int) (r : List Shf), t.1 = ((a, 0, 0) :: r).reverse ∧ Cov ((a, (j : Int), 0) :: r) (fun m => cvd l m ∧ m < j)) ∧
  (t.2 = false → ∃ r : List Shf, t.1 = r.reverse ∧ Cov r (fun m => cvd l m ∧ m < j))
theorem cvd_in {l : List Shf} (hl : ∀ s ∈ l, okS s) {m : Int} (h : cvd l m) : 0 ≤ m ∧ m < 1000 := by
  have h0 : ¬ (m < 0 ∨ 1000 ≤ m) := fun c => by
    have := cnt_out hl c
    unfold cvd at h; omega
  omega
theorem Cov.more {P : Int → Prop} {a j : Int} {r : List Shf} (h : Cov ((a, j, 0) :: r) (fun m => P m ∧ m < j)) (hp : P j) (hj : j < 1000) : Cov ((a, j + 1, 0) :: r) (fun m => P m ∧ m < j + 1) := by
  have h0 := h.ok (a, j, 0) (by simp)
  simp only at h0
  refine ⟨fun s hs => ?_, ?_, fun m => ?_⟩
  · rcases List.mem_cons.1 hs with rfl | hs
    · exact ⟨h0.1, by show a < j + 1; omega, by show j + 1 ≤ 1000; omega, rfl⟩
    · exact h.ok s (List.mem_cons_of_mem _ hs)
  · exact List.pairwise_cons.2 (List.pairwise_cons.1 h.sep)
  · have := h.cov m
    rw [ex_cons] at this ⊢
    constructor
    · rintro (g | g)
      · by_cases c : m = j
        · subst c; exact ⟨hp, by omega⟩
        · have := this.1 (.inl (by unfold rn at *; simp only at *; omega))
          exact ⟨this.1, by omega⟩
      · have := this.1 (.inr g)
        exact ⟨this.1, by omega⟩
    · rintro ⟨g1, g2⟩
      by_cases c : m = j
      · subst c; exact .inl (by unfold rn; simp only []; omega)
      · rcases this.2 ⟨g1, by omega⟩ with k | k
        · exact .inl (by unfold rn at *; simp only at *; omega)
        · exact .inr k
theorem Cov.fresh {P : Int → Prop} {j : Int} {r : List Shf} (h : Cov r (fun m => P m ∧ m < j)) (hn : ¬ P (j - 1)) (hp : P j) (h0 : 0 ≤ j) (hj : j < 1000) : Cov ((j, j + 1, 0) :: r) (fun m => P m ∧ m < j + 1) := by
  refine ⟨fun s hs => ?_, ?_, fun m => ?_⟩
  · rcases List.mem_cons.1 hs with rfl | hs
    · exact ⟨h0, by show j < j + 1; omega, by show j + 1 ≤ 1000; omega, rfl⟩
    · exact h.ok s hs
  · refine List.pairwise_cons.2 ⟨fun s hs => ?_, h.sep⟩
    have h1 := h.ok s hs
    have h2 := (h.cov (s.2.1 - 1)).1 ⟨s, hs, by unfold rn; omega⟩
    show s.2.1 < j
    rcases Int.lt_or_le s.2.1 j with c | c
    · exact c
    · have : s.2.1 - 1 = j - 1 := by omega
      rw [this] at h2
      exact absurd h2.1 hn
  · have := h.cov m
    rw [ex_cons, this]
    constructor
    · rintro (g | g)
      · have : m = j := by unfold rn at g; simp only at g; omega
        subst this; exact ⟨hp, by omega⟩
      · exact ⟨g.1, by omega⟩
    · rintro ⟨g1, g2⟩
      by_cases c : m = j
      · subst c; exact .inl (by unfold rn; simp only []; omega)
      · exact .inr ⟨g1, by omega⟩
theorem Cov.over {P : Int → Prop} {j : Int} {r : List Shf} (h : Cov r (fun m => P m ∧ m < j)) (hp : ¬ P j) : Cov r (fun m => P m ∧ m < j + 1) := h.congr fun m => by
  constructor
  · rintro ⟨a, b⟩; exact ⟨a, by omega⟩
  · rintro ⟨a, b⟩
    refine ⟨a, ?_⟩
    have : m ≠ j := fun e => hp (e ▸ a)
    omega
theorem SI.step {l : List Shf} (hl : ∀ s ∈ l, okS s) {j : Nat} {t : List Shf × Bool} (h : SI l j t) (K k : Nat) (h12 : l.length ≤ 12) (hK : 12 < K) (hj : j < 1001) :
    ∃ t', impll51_0 K (k + 1) l t.1 t.2 (j : Int) = impll51_0 K k l t'.1 t'.2 ((j + 1 : Nat) : Int) ∧ SI l (j + 1) t' := by
  obtain ⟨o, b⟩ := t
  obtain ⟨h1, h2, h3, h4⟩ := h
  simp only at h1 h2 h3 h4
  have ej : (((j + 1 : Nat) : Int) - 1) = (j : Int) := by omega
  have ej' : ((j + 1 : Nat) : Int) = (j : Int) + 1 := by omega
  rw [impll51_0, implb51_0, f80 K l h12 hK, obS, atN_cnt]
  simp only []
  by_cases c : cvd l (j : Int)
  · have hc : ((cnt l (j : Int) : Nat) : Int) > 0 := by unfold cvd at c; omega
    have hin := cvd_in hl c
    simp only [decide_eq_true hc, Bool.not_true, cond_true, cond_false]
    rw [cdec, if_pos (by omega), wrapS (by omega)]
    cases b with
    | true =>
      simp only [Bool.not_true, cond_false]
      refine ⟨(o, true), rfl, by show o.length ≤ _; omega, ?_, fun _ => ?_, fun q => by cases q⟩
      · rw [ej]; exact (decide_eq_true c).symm
      · obtain ⟨a, r, e, g⟩ := h3 rfl
        refine ⟨a, r, e, ?_⟩
        rw [ej']
        exact g.more c hin.2
    | false =>
      simp only [Bool.not_false, cond_true]
      rw [if_pos (by simp; omega)]
      refine ⟨(o ++ [((j : Int), 0, 0)], true), rfl, by simp; omega, ?_, fun _ => ?_, fun q => by cases q⟩
      · rw [ej]; exact (decide_eq_true c).symm
      · obtain ⟨r, e, g⟩ := h4 rfl
        refine ⟨(j : Int), r, by rw [List.reverse_cons, ← e], ?_⟩
        rw [ej']
        exact g.fresh (of_decide_eq_false h2.symm) c hin.1 hin.2
  · have hc : ¬ ((cnt l (j : Int) : Nat) : Int) > 0 := by unfold cvd at c; omega
    simp only [decide_eq_false hc, Bool.not_false, cond_true, cond_false]
    rw [cdec, if_pos (by omega), wrapS (by omega)]
    cases b with
    | true =>
      simp only [cond_true]
      obtain ⟨a, r, e, g⟩ := h3 rfl
      subst e
      have hr : r.length + 1 ≤ 1001 := by rw [rev_len] at h1; omega
      have ew : IntKind.i64.wrap ((((a, 0, 0) :: r : List Shf).reverse.length : Int) - 1) = (r.length : Int) := by
        rw [rev_len, wrapI (by omega) (by omega)]; omega
      have eg : ((a, 0, 0) :: r : List Shf).reverse.getD ((r.length : Int)).toNat ((0 : Int), (0 : Int), (0 : Int)) = (a, 0, 0) := by
        rw [Int.toNat_natCast]; exact rev_get _ r
      rw [ew, eg, rev_len, if_pos (by omega), Int.toNat_natCast, rev_set]
      refine ⟨(((a, (j : Int), 0) :: r).reverse, false), rfl, by rw [rev_len] at *; omega, ?_, (fun q => by cases q), fun _ => ?_⟩
      · rw [ej]; exact (decide_eq_false c).symm
      · refine ⟨_, rfl, ?_⟩
        rw [ej']
        exact g.over c
    | false =>
      simp only [cond_false]
      refine ⟨(o, false), rfl, by show o.length ≤ _; omega, ?_, (fun q => by cases q), fun _ => ?_⟩
      · rw [ej]; exact (decide_eq_false c).symm
      · obtain ⟨r, e, g⟩ := h4 rfl
        refine ⟨r, e, ?_⟩
        rw [ej']
        exact g.over c
theorem f51 (K : Nat) (hK : 1003 < K) (l : List Shf) : implf51 K l = some (if er l = 0 then ((spl l).reverse, 0) else ([], er l)) := by
  unfold implf51
  rw [f25 K (by omega) l]
  simp only [obS, ibne, cdec, cnot]
  by_cases h : er l = 0
  · have hV := er_ok.1 h
    rw [if_pos h, if_pos h]
    have hno : ¬ cvd l (-1) := fun c => by have := cvd_in hV.2 c; omega
    obtain ⟨t, h1, h2⟩ := invTo (fun k j (t : List Shf × Bool) => impll51_0 K k l t.1 t.2 (j : Int)) 1001 (SI l) (fun t => (t.1, t.2, (1001 : Int), ()))
      (fun k j t hj hI => hI.step hV.2 K k hV.1 (by omega) hj)
      (fun k t _ => by
        show impll51_0 K (k + 1) l t.1 t.2 ((1001 : Nat) : Int) = _
        rw [impll51_0, implb51_0]
        simp only [cdec]
        rw [if_neg (by omega)]
        rfl) K 0 ([], false) (by omega) (by omega)
      ⟨by simp, (decide_eq_false hno).symm, (fun q => by cases q), fun _ => ⟨[], rfl, Cov.nil fun m hm => by have := cvd_in hV.2 hm.1; omega⟩⟩
    have h1 : impll51_0 K K l [] false 0 = _ := h1
    rw [h1, obS]
    obtain ⟨g1, g2, g3, g4⟩ := h2
    have hno2 : ¬ cvd l (((1001 : Nat) : Int) - 1) := fun c => by have := cvd_in hV.2 c; omega
    have hf : t.2 = false := by rw [g2]; exact decide_eq_false hno2
    obtain ⟨r, e, g⟩ := g4 hf
    have : r = spl l := (g.congr fun m => ⟨fun q => q.1, fun q => ⟨q, by have := cvd_in hV.2 q; omega⟩⟩).unique (spl_cov hV.2).1
    rw [e, this]
  · rw [if_neg h, if_neg h]

/-! ### The spells of spells; they are alone -/
theorem Cov.ok_S {a : List Shf} {P : Int → Prop} (h : Cov a P) : ∀ s ∈ a, okS s := fun s hs => by
  have := h.ok s hs
  unfold okS; omega
theorem spl_V {l : List Shf} (hV : V l) : V (spl l).reverse := by
  obtain ⟨h1, h2⟩ := spl_cov hV.2
  exact ⟨by rw [List.length_reverse]; exact Nat.le_trans h2 hV.1, fun s hs => h1.ok_S s (by simpa using hs)⟩
theorem covl_spl {l : List Shf} (hV : V l) : covl (spl l).reverse = covl l := cf_congr fun m _ => by
  rw [decide_eq_decide, cvd_iff, ← (spl_cov hV.2).1.cov]
  simp
theorem alone_spl {l : List Shf} (hV : V l) : (fst (spl l).reverse).length = (spl l).reverse.length := by
  have hV' := spl_V hV
  refine Nat.le_antisymm (fst_len _) ?_
  have hx : isAl (spl l).reverse ((List.range (spl l).reverse.length).map fun i : Nat => (i : Int)) := by
    refine ⟨⟨?_, ?_⟩, ?_⟩
    · exact List.pairwise_map.2 (List.pairwise_lt_range.imp fun h => by omega)
    · intro a ha
      obtain ⟨i, hi, rfl⟩ := List.mem_map.1 ha
      have := List.mem_range.1 hi
      omega
    · unfold alo
      rw [List.pairwise_map]
      have hp : (spl l).reverse.Pairwise fun a b => ¬ ov b a := by
        rw [List.pairwise_reverse]
        exact (spl_cov hV.2).1.sep.imp fun h => by unfold ov; omega
      have hq := (pw_getD z3 _ _).1 hp
      rw [List.pairwise_iff_getElem]
      intro i j hi hj hij
      simp only [List.length_range] at hi hj
      simp only [List.getElem_range]
      exact hq j hj i hij
  have := al_most hV' hx
  simpa using this
end Go.Proofs.Ytbojnkcolamneaa
