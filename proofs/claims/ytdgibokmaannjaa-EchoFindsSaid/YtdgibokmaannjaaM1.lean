/- The cliffs: which are right; lists that are equal; sorting. -/
import Derived.Test.YtdgibokmaannjaaF5
set_option linter.unusedVariables false
set_option linter.unusedSimpArgs false
namespace Go.Proofs.Ytdgibokmaannjaa
open Go Go.Pv Classical

set_option maxRecDepth 1000000 in
theorem sane5 : implf19 5000 = some true := by kernel_rfl

theorem w61 (K : Nat) (x lo hi : Int) : implf61 K x lo hi = some (decide (lo ≤ x ∧ x ≤ hi)) := by
  unfold implf61
  by_cases h : lo ≤ x <;> simp [h]
theorem w63 (K : Nat) (x lo hi : Int) : implf63 K x lo hi = some (decide (lo ≤ x ∧ x ≤ hi)) := by
  unfold implf63
  by_cases h : lo ≤ x <;> simp [h]
theorem wrapP {j : Nat} (h : 0 < j) (h2 : j ≤ 1000000000) : IntKind.i64.wrap ((j : Int) - 1) = ((j - 1 : Nat) : Int) := by
  rw [wrapI (by omega) (by omega)]; omega

theorem all_getD {α : Type} {l : List α} (d : α) (p : α → Prop) : (∀ i, 0 ≤ i → i < l.length → p (l.getD i d)) ↔ ∀ s ∈ l, p s := by
  constructor
  · intro h s hs
    obtain ⟨i, hi, rfl⟩ := List.mem_iff_getElem.1 hs
    have := h i (Nat.zero_le _) hi
    simpa [List.getD, hi] using this
  · intro h i _ hi
    exact h _ (getD_mem d hi)
theorem w18 (l : List (List Int)) (hl : l.length ≤ 10) : implf18 5000 l = some (decide (∃ s ∈ l, 100 < s.length)) := by
  have h := uptoAll (fun k (j : Nat) => impll18_0 5000 k l (j : Int)) (fun j => j) l.length (fun j => ¬ 100 < (l.getD j []).length) (.inl ((l.length : Int), ())) (.inr true)
    (fun k j hj hp => by
      show impll18_0 5000 (k + 1) l (j : Int) = _
      rw [impll18_0, implb18_0, cdec, if_pos (by omega), if_pos ⟨by omega, by omega⟩, cdec, Int.toNat_natCast, if_neg (by omega), wrapS (by omega)])
    (fun k j hj hp => by
      show impll18_0 5000 (k + 1) l (j : Int) = _
      rw [impll18_0, implb18_0, cdec, if_pos (by omega), if_pos ⟨by omega, by omega⟩, cdec, Int.toNat_natCast, if_pos (by omega)])
    (fun k => by
      show impll18_0 5000 (k + 1) l (l.length : Int) = _
      rw [impll18_0, implb18_0, cdec, if_neg (by omega)]) 5000 0 (by omega) (Nat.zero_le _)
  have h : impll18_0 5000 5000 l 0 = _ := h
  unfold implf18
  rw [h, obS]
  by_cases g : ∃ s ∈ l, 100 < s.length
  · rw [if_neg (fun h => by
      rw [all_getD [] (fun s => ¬ 100 < s.length)] at h
      obtain ⟨s, hs, h2⟩ := g
      exact h s hs h2), decide_eq_true g]
  · rw [if_pos ((all_getD [] (fun s => ¬ 100 < s.length)).2 fun s hs h2 => g ⟨s, hs, h2⟩), decide_eq_false g]
theorem long1 (c : List Int) : implf18 5000 ((List.replicate 1 []).set 0 c) = some (decide (100 < c.length)) := by
  rw [show (List.replicate 1 ([] : List Int)).set 0 c = [c] from rfl, w18 _ (by simp)]
  simp
theorem eq_getD {x y : List Int} (h : x.length = y.length) : (∀ i, 0 ≤ i → i < x.length → x.getD i 0 = y.getD i 0) ↔ x = y := by
  constructor
  · intro h2
    refine List.ext_getElem h fun i h3 h4 => ?_
    have := h2 i (Nat.zero_le _) h3
    simpa [List.getD, h3, h4] using this
  · rintro rfl i _ _; rfl
theorem w24 (x y : List Int) (hx : x.length ≤ 1000) : implf24 5000 x y = some (decide (x = y)) := by
  unfold implf24
  rw [ibne, cnot, cdec]
  by_cases hl : (x.length : Int) = (y.length : Int)
  · rw [if_pos hl]
    have hl : x.length = y.length := by omega
    have h := uptoAll (fun k (j : Nat) => impll24_0 5000 k x y (j : Int)) (fun j => j) x.length (fun j => x.getD j 0 = y.getD j 0) (.inl ((x.length : Int), ())) (.inr false)
      (fun k j hj hp => by
        show impll24_0 5000 (k + 1) x y (j : Int) = _
        rw [impll24_0, implb24_0, cdec, if_pos (by omega), if_pos ⟨by omega, by omega⟩, if_pos ⟨by omega, by omega⟩, ibne, cnot, cdec, Int.toNat_natCast, if_pos hp, wrapS (by omega)])
      (fun k j hj hp => by
        show impll24_0 5000 (k + 1) x y (j : Int) = _
        rw [impll24_0, implb24_0, cdec, if_pos (by omega), if_pos ⟨by omega, by omega⟩, if_pos ⟨by omega, by omega⟩, ibne, cnot, cdec, Int.toNat_natCast, if_neg hp])
      (fun k => by
        show impll24_0 5000 (k + 1) x y (x.length : Int) = _
        rw [impll24_0, implb24_0, cdec, if_neg (by omega)]) 5000 0 (by omega) (Nat.zero_le _)
    have h : impll24_0 5000 5000 x y 0 = _ := h
    rw [h, obS]
    by_cases g : x = y
    · rw [if_pos ((eq_getD hl).2 g), decide_eq_true g]
    · rw [if_neg (fun h => g ((eq_getD hl).1 h)), decide_eq_false g]
  · rw [if_neg hl]
    congr 1
    exact (decide_eq_false (fun e => hl (by rw [e]))).symm
theorem w83 (x : List Int) (hx : x.length ≤ 1000) : implf83 5000 x = some x := by
  unfold implf83
  rw [if_pos (by simp; omega)]; rfl

def okP (c : List Int) (i : Nat) : Prop := (-60 ≤ c.getD i 0 ∧ c.getD i 0 ≤ 60) ∧ (0 < i → c.getD (i - 1) 0 < c.getD i 0)
def okL (c : List Int) : Prop := (∀ i, 0 ≤ i → i < c.length → okP c i) ∧ c.getD (c.length - 1) 0 - c.getD 0 0 ≤ 60
noncomputable def vErr (c : List Int) : Int := if 1 ≤ c.length ∧ c.length ≤ 6 then (if okL c then 0 else 1) else 3
def V (c : List Int) : Prop := (1 ≤ c.length ∧ c.length ≤ 6) ∧ okL c
theorem v_err {c : List Int} : vErr c = 0 ↔ V c := by
  unfold vErr V
  by_cases h : 1 ≤ c.length ∧ c.length ≤ 6
  · rw [if_pos h]
    by_cases h2 : okL c
    · rw [if_pos h2]; exact ⟨fun _ => ⟨h, h2⟩, fun _ => rfl⟩
    · rw [if_neg h2]; exact ⟨fun h => absurd h (by decide), fun h => absurd h.2 h2⟩
  · rw [if_neg h]; exact ⟨fun h => absurd h (by decide), fun h2 => absurd h2.1 h⟩
theorem w32 (c : List Int) (hc : c.length ≤ 1000) : implf32 5000 c = some (vErr c) := by
  unfold implf32 vErr
  rw [w61, obS, cnot, cdec]
  by_cases hn : 1 ≤ c.length ∧ c.length ≤ 6
  · rw [if_pos ⟨by omega, by omega⟩, if_pos hn]
    have h := uptoAll (fun k (j : Nat) => impll32_0 5000 k c c (c.length : Int) (j : Int)) (fun j => j) c.length (okP c) (.inl ((c.length : Int), ())) (.inr 1)
      (fun k j hj hp => by
        show impll32_0 5000 (k + 1) c c (c.length : Int) (j : Int) = _
        rw [impll32_0, implb32_0, cdec, if_pos (by omega), if_pos ⟨by omega, by omega⟩, w61, obS, cnot, cdec, Int.toNat_natCast, if_pos hp.1, cdec]
        by_cases h0 : 0 < j
        · rw [if_pos (by omega), wrapP h0 (by omega), if_pos ⟨by omega, by omega⟩, cdec, Int.toNat_natCast, if_neg (by have := hp.2 h0; omega), wrapS (by omega)]
        · rw [if_neg (by omega), wrapS (by omega)])
      (fun k j hj hp => by
        show impll32_0 5000 (k + 1) c c (c.length : Int) (j : Int) = _
        rw [impll32_0, implb32_0, cdec, if_pos (by omega), if_pos ⟨by omega, by omega⟩, w61, obS, cnot, cdec, Int.toNat_natCast]
        by_cases h1 : -60 ≤ c.getD j 0 ∧ c.getD j 0 ≤ 60
        · rw [if_pos h1, cdec]
          by_cases h0 : 0 < j
          · rw [if_pos (by omega), wrapP h0 (by omega), if_pos ⟨by omega, by omega⟩, cdec, Int.toNat_natCast, if_pos]
            by_cases h2 : c.getD (j - 1) 0 < c.getD j 0
            · exact absurd ⟨h1, fun _ => h2⟩ hp
            · omega
          · exact absurd ⟨h1, fun h => absurd h h0⟩ hp
        · rw [if_neg h1])
      (fun k => by
        show impll32_0 5000 (k + 1) c c (c.length : Int) (c.length : Int) = _
        rw [impll32_0, implb32_0, cdec, if_neg (by omega)]) 5000 0 (by omega) (Nat.zero_le _)
    have h : impll32_0 5000 5000 c c (c.length : Int) 0 = _ := h
    rw [h, obS]
    by_cases g : ∀ i, 0 ≤ i → i < c.length → okP c i
    · rw [if_pos g]
      simp only []
      have g0 := g 0 (Nat.zero_le _) (by omega)
      have g1 := g (c.length - 1) (Nat.zero_le _) (by omega)
      rw [wrapP (by omega) (by omega), if_pos ⟨by omega, by omega⟩, if_pos ⟨by omega, by omega⟩, Int.toNat_natCast, wrapI (by have := g0.1; have := g1.1; omega) (by have := g0.1; have := g1.1; omega), cdec]
      by_cases g2 : c.getD (c.length - 1) 0 - c.getD 0 0 ≤ 60
      · rw [if_neg (by omega), if_pos ⟨g, g2⟩]
      · rw [if_pos (by omega), if_neg (fun h => g2 h.2)]
    · rw [if_neg g, if_neg (fun h : okL c => g h.1)]
  · rw [if_neg (by omega), if_neg hn]
theorem getA (p r : List Int) (v : Int) : (p ++ v :: r).getD p.length 0 = v := by simp [List.getD]
theorem setA (p r : List Int) (v u : Int) : (p ++ v :: r).set p.length u = p ++ u :: r := by simp
abbrev Srt (l : List Int) : Prop := l.Pairwise fun a b => leI a b = true
theorem w82_in (x2 : Int) : ∀ (n k : Nat) (p q rest : List Int) (v : Int), p.length = n → n < k → n ≤ 100 → (∀ y ∈ q, v < y) → Srt (p ++ q) →
    ∃ s j, impll82_2 5000 k (p ++ v :: (q ++ rest)) x2 (n : Int) = some (s ++ rest, j, ()) ∧ s.Perm (v :: (p ++ q)) ∧ Srt s
  | n, 0, p, q, rest, v, _, h, _, _, _ => by omega
  | 0, k + 1, p, q, rest, v, hp, _, _, hq, hs => by
    obtain rfl : p = [] := List.length_eq_zero_iff.1 hp
    refine ⟨v :: q, 0, ?_, List.Perm.refl _, ?_⟩
    · rw [impll82_2, implb82_2, cdec, if_neg (by omega)]; rfl
    · exact List.pairwise_cons.2 ⟨fun y hy => decide_eq_true (by have := hq y hy; omega), hs⟩
  | n + 1, k + 1, p, q, rest, v, hp, hk, hn, hq, hs => by
    obtain ⟨p', u, rfl⟩ : ∃ p' u, p = p' ++ [u] := by
      refine ⟨p.dropLast, p.getLast (by intro h; subst h; simp at hp), (List.dropLast_concat_getLast _).symm⟩
    have hp' : p'.length = n := by simpa using hp
    have e0 : p' ++ [u] ++ v :: (q ++ rest) = p' ++ u :: v :: (q ++ rest) := by simp
    have eu : (p' ++ [u] ++ v :: (q ++ rest)).getD n 0 = u := by rw [e0, ← hp']; exact getA _ _ _
    have ev : (p' ++ [u] ++ v :: (q ++ rest)).getD (n + 1) 0 = v := by
      have := getA (p' ++ [u]) (q ++ rest) v
      rwa [hp] at this
    have hl : (p' ++ [u] ++ v :: (q ++ rest)).length = n + 2 + q.length + rest.length := by simp; omega
    rw [impll82_2, implb82_2, cdec, if_pos (by omega), show IntKind.i64.wrap (((n + 1 : Nat) : Int) - 1) = (n : Int) from by rw [wrapI (by omega) (by omega)]; omega,
      if_pos ⟨by omega, by omega⟩, if_pos ⟨by omega, by omega⟩, cdec, Int.toNat_natCast, Int.toNat_natCast, eu, ev]
    by_cases huv : u > v
    · rw [if_pos huv, if_pos ⟨by omega, by omega⟩, if_pos ⟨by omega, by omega⟩, if_pos ⟨by omega, by omega⟩, if_pos ⟨by omega, by rw [List.length_set]; omega⟩]
      have es : ((p' ++ [u] ++ v :: (q ++ rest)).set (n + 1) u).set n v = p' ++ v :: ((u :: q) ++ rest) := by
        have h1 := setA (p' ++ [u]) (q ++ rest) v u
        rw [hp] at h1
        rw [h1, show p' ++ [u] ++ u :: (q ++ rest) = p' ++ u :: u :: (q ++ rest) by simp, ← hp', setA]
        rfl
      rw [es]
      obtain ⟨s, j, h1, h2, h3⟩ := w82_in x2 n k p' (u :: q) rest v hp' (by omega) (by omega) (fun y hy => by
        rcases List.mem_cons.1 hy with rfl | hy
        · exact huv
        · exact hq y hy) (by simpa using hs)
      exact ⟨s, j, h1, by simpa using h2, h3⟩
    · rw [if_neg huv]
      refine ⟨p' ++ [u] ++ v :: q, ((n + 1 : Nat) : Int), by simp, ?_, ?_⟩
      · exact List.perm_middle
      · obtain ⟨h1, h2, h3⟩ := List.pairwise_append.1 hs
        refine List.pairwise_append.2 ⟨h1, List.pairwise_cons.2 ⟨fun y hy => decide_eq_true (by have := hq y hy; omega), h2⟩, fun a ha b hb => ?_⟩
        rcases List.mem_cons.1 hb with rfl | hb
        · rcases List.mem_append.1 ha with ha | ha
          · have := of_decide_eq_true ((List.pairwise_append.1 h1).2.2 a ha u (by simp))
            exact decide_eq_true (by omega)
          · have : a = u := by simpa using ha
            subst this
            exact decide_eq_true (by omega)
        · exact h3 a ha b hb
theorem leI_tr (a b c : Int) (h1 : leI a b = true) (h2 : leI b c = true) : leI a c = true := by simp only [leI, decide_eq_true_eq] at *; omega
theorem leI_to (a b : Int) : leI a b = true ∨ leI b a = true := by simp only [leI, decide_eq_true_eq]; omega
theorem leI_an (a b : Int) (h1 : leI a b = true) (h2 : leI b a = true) : a = b := by simp only [leI, decide_eq_true_eq] at *; omega
theorem is_isort {l m : List Int} (h : m.Perm l) (hs : Srt m) : m = isort leI l := sorted_unique' leI_an (h.trans (isort_perm l).symm) hs (isort_sorted leI_tr leI_to l)
theorem w82_out (x : List Int) (hx : x.length ≤ 100) : ∀ (m k i : Nat) (s : List Int), i + m = x.length → m < k → s.Perm (x.take i) → Srt s →
    ∃ j, impll82_0 5000 k (s ++ x.drop i) (i : Int) = some (isort leI x, j, ())
  | m, 0, i, s, _, h, _, _ => by omega
  | 0, k + 1, i, s, hi, _, hp, hs => by
    have hsl : s.length = i := by rw [hp.length_eq]; simp; omega
    have e : x.drop i = [] := List.drop_eq_nil_of_le (by omega)
    have e2 : x.take i = x := List.take_of_length_le (by omega)
    rw [e2] at hp
    refine ⟨i, ?_⟩
    rw [impll82_0, implb82_0, cdec, if_neg (by rw [e]; simp; omega), e, List.append_nil, is_isort hp hs]
  | m + 1, k + 1, i, s, hi, hk, hp, hs => by
    have hsl : s.length = i := by rw [hp.length_eq]; simp; omega
    have hd := drop_getD 0 (show i < x.length by omega)
    obtain ⟨s', j, h1, h2, h3⟩ := w82_in (i : Int) i 5000 s [] (x.drop (i + 1)) (x.getD i 0) hsl (by omega) (by omega) (fun y hy => by cases hy) (by simpa using hs)
    rw [impll82_0, implb82_0, cdec, if_pos (by rw [List.length_append, hsl, List.length_drop]; omega), hd]
    have h1 : impll82_2 5000 5000 (s ++ x.getD i 0 :: x.drop (i + 1)) (i : Int) (i : Int) = some (s' ++ x.drop (i + 1), j, ()) := h1
    rw [h1, obS, wrapS (by omega)]
    refine w82_out x hx m k (i + 1) s' (by omega) (by omega) ?_ h3
    refine h2.trans ?_
    rw [take_getD 0 (show i < x.length by omega), List.append_nil]
    exact (List.perm_append_comm (l₁ := [x.getD i 0])).trans (hp.append_right _)
theorem w82 (x : List Int) (hx : x.length ≤ 100) : implf82 5000 x = some (isort leI x) := by
  unfold implf82
  rw [if_pos (by simp; omega)]
  obtain ⟨j, h⟩ := w82_out x hx x.length 5000 0 [] (by omega) (by omega) (by simp) List.Pairwise.nil
  rw [List.nil_append, List.drop_zero] at h
  have h : impll82_0 5000 5000 (List.replicate 0 (0 : Int) ++ x) 0 = _ := h
  rw [h]; rfl
theorem w81 (x : List Int) (hx : x.length ≤ 1000) : implf81 5000 x = some (isort leI x) := by
  unfold implf81; rw [if_pos hx]
end Go.Proofs.Ytdgibokmaannjaa
