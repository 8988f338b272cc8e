/- The document's rows: they are few, and its answer is the program's. -/
import Derived.Test.YtdgibokmaannjaaM16
set_option linter.unusedVariables false
set_option linter.unusedSimpArgs false
namespace Go.Proofs.Ytdgibokmaannjaa
open Go Go.Pv Classical

/-- The parts of a list with so many members. -/
def subsN : Nat → List Int → List (List Int)
  | 0, _ => [[]]
  | _ + 1, [] => []
  | i + 1, x :: s => (subsN i s).map (x :: ·) ++ subsN (i + 1) s
def bin : Nat → Nat → Nat
  | 0, _ => 1
  | _ + 1, 0 => 0
  | i + 1, m + 1 => bin i m + bin (i + 1) m
theorem subsN_len : ∀ (i : Nat) (s : List Int), (subsN i s).length = bin i s.length
  | 0, s => by cases s <;> rfl
  | i + 1, [] => rfl
  | i + 1, x :: s => by rw [subsN, List.length_append, List.length_map, subsN_len i s, subsN_len (i + 1) s]; rfl
theorem subsN_mem : ∀ {t s : List Int}, t.Sublist s → t ∈ subsN t.length s
  | [], s, _ => by cases s <;> exact List.mem_singleton.2 rfl
  | a :: t, _, h => by
    cases h with
    | @cons _ s b h => exact List.mem_append_right _ (subsN_mem h)
    | @cons_cons _ s b h => exact List.mem_append_left _ (List.mem_map.2 ⟨t, subsN_mem h, rfl⟩)
theorem bin_mono : ∀ {i m m' : Nat}, m ≤ m' → bin i m ≤ bin i m'
  | 0, m, m', _ => by cases m <;> cases m' <;> exact Nat.le_refl _
  | i + 1, 0, m', _ => Nat.zero_le _
  | i + 1, m + 1, 0, h => absurd h (by omega)
  | i + 1, m + 1, m' + 1, h => Nat.add_le_add (bin_mono (by omega)) (bin_mono (by omega))
/-- What ascends strictly and is among a list that ascends is a part of it. -/
theorem asc_sub : ∀ {l t : List Int}, l.Pairwise (fun a b => a ≤ b) → t.Pairwise (fun a b => a < b) → (∀ x ∈ t, x ∈ l) → t.Sublist l
  | [], t, _, _, h => by
    cases t with
    | nil => exact List.Sublist.refl _
    | cons b t => exact absurd (h b List.mem_cons_self) (by simp)
  | a :: l, [], _, _, _ => List.nil_sublist _
  | a :: l, b :: t, hl, ht, h => by
    obtain ⟨l1, l2⟩ := List.pairwise_cons.1 hl
    obtain ⟨t1, t2⟩ := List.pairwise_cons.1 ht
    by_cases hab : b = a
    · subst hab
      refine (asc_sub l2 t2 fun x hx => ?_).cons_cons b
      rcases List.mem_cons.1 (h x (List.mem_cons_of_mem _ hx)) with q | q
      · have := t1 x hx; omega
      · exact q
    · refine (asc_sub l2 ht fun x hx => ?_).cons a
      have hb : b ∈ l := by
        rcases List.mem_cons.1 (h b List.mem_cons_self) with q | q
        · exact absurd q hab
        · exact q
      have hba := l1 b hb
      rcases List.mem_cons.1 (h x hx) with q | q
      · rcases List.mem_cons.1 hx with q2 | q2
        · exact absurd (q2.symm.trans q) hab
        · have := t1 x q2; omega
      · exact q
theorem nodup_subL : ∀ {a b : List (List Int)}, a.Nodup → (∀ x ∈ a, x ∈ b) → a.length ≤ b.length
  | [], b, _, _ => Nat.zero_le _
  | x :: a, b, h, hs => by
    obtain ⟨h1, h2⟩ := List.nodup_cons.1 h
    have hx : x ∈ b := hs x (by simp)
    have := nodup_subL (b := b.erase x) h2 (fun y hy => by
      have hne : y ≠ x := fun e => h1 (e ▸ hy)
      exact (List.mem_erase_of_ne hne).2 (hs y (by simp [hy])))
    rw [List.length_erase_of_mem hx] at this
    have : 0 < b.length := List.length_pos_of_mem hx
    simp
    omega
theorem rowOf_inc {bt : List Int} {e : Int} {n : Nat} {r : List Int} (h : RowOf bt e n r) : r.Pairwise (fun a b => a < b) := by
  rw [List.pairwise_iff_getElem]
  intro i j hi hj hij
  have step : ∀ m i, i + m + 1 < r.length → r.getD i 0 < r.getD (i + m + 1) 0 := by
    intro m
    induction m with
    | zero => intro i hi; exact h.2.2.1 i hi
    | succ m ih => intro i hi; exact Int.lt_trans (ih i (by omega)) (h.2.2.1 (i + m + 1) (by omega))
  have := step (j - i - 1) i (by omega)
  rw [show i + (j - i - 1) + 1 = j by omega, List.getD_eq_getElem?_getD, List.getD_eq_getElem?_getD, List.getElem?_eq_getElem hi, List.getElem?_eq_getElem hj] at this
  exact this
theorem rowOf_tail {bt : List Int} (hs : bt.Pairwise fun a b => a ≤ b) {e : Int} {n : Nat} {r : List Int} (h : RowOf bt e n r) : r ∈ (subsN n bt).map (0 :: ·) := by
  have hi := rowOf_inc h
  cases r with
  | nil => exact absurd h.1 (by simp)
  | cons a t =>
    have ha : a = 0 := h.2.1
    have hl : t.length = n := by have := h.1; simpa using this
    subst ha
    obtain ⟨h1, h2⟩ := List.pairwise_cons.1 hi
    refine List.mem_map.2 ⟨t, ?_, rfl⟩
    rw [← hl]
    refine subsN_mem (asc_sub hs h2 fun x hx => ?_)
    obtain ⟨i, hi, rfl⟩ := List.mem_iff_getElem.1 hx
    have := (h.2.2.2 i (by simpa using hi)).1
    rwa [List.getD_cons_succ, List.getD_eq_getElem?_getD, List.getElem?_eq_getElem hi] at this
/-- The rows of claimed delays: which they are, that they ascend, and that they are few. -/
theorem rows_ok {l : List Int} (hA : SrtA l) (hl : l.length ≤ 15) {n : Nat} (hn : n ≤ 4) (L : Int) : ∃ res : List (List Int), rowsF l (n : Int) L = some (res.map fun r => r ++ [L]) ∧ (∀ x, x ∈ res ↔ RowOf l L n x) ∧ res.Pairwise ltL ∧ (∀ r ∈ res, r.length = n + 1) ∧ res.length ≤ 1365 := by
  have hs := srtA_step hA
  have h15 : 15 ^ n ≤ 15 ^ 4 := Nat.pow_le_pow_right (by decide) hn
  obtain ⟨res, hr⟩ := rowsG_some (bt := l) L (M := 15) hl (by decide) (n := n) (out := [[0]]) (by
    have : (15 : Nat) ^ 4 = 50625 := by decide
    have e : ([[0]] : List (List Int)).length = 1 := rfl
    rw [e]; omega)
  have hm := rowsG_mem hs (n := n) (m := 0) (out := [[0]]) (RowOf.first l L) hr
  rw [Nat.zero_add] at hm
  have ha := rowsG_asc hs L (n := n) (m := 1) (out := [[0]]) (List.pairwise_singleton _ _) (fun r hr => by rw [List.mem_singleton.1 hr]; rfl) hr
  refine ⟨res, ?_, hm, ha.1, fun r hr => by rw [ha.2 r hr]; omega, ?_⟩
  · unfold rowsF
    rw [Nat.ble_eq_true_of_le (by omega), decide_eq_true (by omega), Int.toNat_natCast, hr]
    rfl
  · have hsrt : l.Pairwise (fun a b => a ≤ b) := (srtA_srt hA).imp fun h => of_decide_eq_true h
    have h1 := nodup_subL (ha.1.imp fun h => ltL_ne h) (fun r hr => rowOf_tail hsrt ((hm r).1 hr))
    rw [List.length_map, subsN_len] at h1
    have h2 := bin_mono (i := n) (m := l.length) (m' := 15) hl
    have h3 : bin n 15 ≤ 1365 := by
      obtain rfl | rfl | rfl | rfl | rfl : n = 0 ∨ n = 1 ∨ n = 2 ∨ n = 3 ∨ n = 4 := by omega
      all_goals decide
    omega
theorem lt_of_le : ∀ {x y : List Int}, x.length = y.length → cmpL x y ≤ 0 → x ≠ y → ltL x y
  | [], [], _, _, h => absurd rfl h
  | [], b :: y, h, _, _ => by simp at h
  | a :: x, [], h, _, _ => by simp at h
  | a :: x, b :: y, hl, h, hne => by
    unfold cmpL at h
    by_cases h1 : a < b
    · exact .inl h1
    · rw [if_neg h1] at h
      by_cases h2 : b < a
      · rw [if_pos h2] at h; omega
      · rw [if_neg h2] at h
        have hab : a = b := by omega
        subst hab
        exact .inr ⟨rfl, lt_of_le (by simpa using hl) h fun q => hne (by rw [q])⟩
end Go.Proofs.Ytdgibokmaannjaa
