/- The search for cliffs is complete: the plain part. -/
import Derived.Test.YtdgibokmaannjaaM10
set_option linter.unusedVariables false
set_option linter.unusedSimpArgs false
namespace Go.Proofs.Ytdgibokmaannjaa
open Go Go.Pv Classical

theorem take_drop_perm {l : List Int} {i : Nat} (h : i < l.length) : l.Perm (l.getD i 0 :: (l.take i ++ l.drop (i + 1))) := by
  have e : l = l.take i ++ l.getD i 0 :: l.drop (i + 1) := by rw [← drop_getD 0 h, List.take_append_drop]
  calc l.Perm (l.take i ++ l.getD i 0 :: l.drop (i + 1)) := by rw [← e]
    _ |>.Perm _ := List.perm_middle
theorem w126_0 (o : List Int) (ho : o.length ≤ 100) : ∀ (m k j : Nat) (cur : List Int), j + m = o.length → m < k → cur.length ≤ 100 →
    (∃ y j', impll126_0 5000 k cur o (o.length : Int) (j : Int) = some (.inl (y, j', ())) ∧ (o.drop j ++ y).Perm cur ∧ y.Sublist cur) ∨
    (∃ y, impll126_0 5000 k cur o (o.length : Int) (j : Int) = some (.inr (y, false, ())) ∧ ¬ ∃ z, (o.drop j ++ z).Perm cur)
  | m, 0, j, cur, _, h, _ => by omega
  | 0, k + 1, j, cur, h1, h2, h3 => by
    refine .inl ⟨cur, (j : Int), ?_, ?_, List.Sublist.refl _⟩
    · rw [impll126_0, implb126_0, cdec, if_neg (by omega)]
    · rw [List.drop_eq_nil_of_le (by omega)]; exact List.Perm.refl _
  | m + 1, k + 1, j, cur, h1, h2, h3 => by
    have hj : j < o.length := by omega
    rw [impll126_0, implb126_0, cdec, if_pos (by omega), if_pos ⟨by omega, by omega⟩, Int.toNat_natCast]
    rcases w100 cur (o.getD j 0) (by omega) with ⟨e, hn⟩ | ⟨i, hi, ei, e⟩
    · refine .inr ⟨[], ?_, ?_⟩
      · rw [e, obS, cdec, if_pos (by omega)]
      · rintro ⟨z, hz⟩
        exact hn (hz.mem_iff.1 (by rw [drop_getD 0 hj]; simp))
    · have hdel : implf141 5000 cur (i : Int) (IntKind.i64.wrap ((i : Int) + 1)) = some (cur.take i ++ cur.drop (i + 1)) := by
        unfold implf141
        rw [wrapS (by omega), if_pos ⟨by omega, by omega, by omega⟩, Int.toNat_natCast, Int.toNat_natCast]
      have hp := take_drop_perm hi
      rw [ei] at hp
      have hsub : (cur.take i ++ cur.drop (i + 1)).Sublist cur := by
        have h := (List.Sublist.refl (cur.take i)).append (List.drop_sublist 1 (cur.drop i))
        rw [List.drop_drop, List.take_append_drop] at h
        exact h
      have hlen : (cur.take i ++ cur.drop (i + 1)).length ≤ 100 := Nat.le_trans hsub.length_le h3
      rw [e, obS, cdec, if_neg (by omega), hdel, obS, wrapS (by omega)]
      rcases w126_0 o ho m k (j + 1) _ (by omega) (by omega) hlen with ⟨y, j', g1, g2, g3⟩ | ⟨y, g1, g2⟩
      · refine .inl ⟨y, j', g1, ?_, g3.trans hsub⟩
        rw [drop_getD 0 hj, List.cons_append]
        exact (g2.cons _).trans hp.symm
      · refine .inr ⟨y, g1, ?_⟩
        rintro ⟨z, hz⟩
        rw [drop_getD 0 hj, List.cons_append] at hz
        exact g2 ⟨z, (hz.trans hp).cons_inv⟩
theorem w126 (l o : List Int) (hl : l.length ≤ 100) (ho : o.length ≤ 100) :
    (∃ y, implf126 5000 l o = some (y, true) ∧ (o ++ y).Perm l ∧ y.Sublist l) ∨ (∃ y, implf126 5000 l o = some (y, false) ∧ ¬ ∃ z, (o ++ z).Perm l) := by
  unfold implf126
  rw [w83 l (by omega), obS]
  rcases w126_0 o ho o.length 5000 0 l (by omega) (by omega) hl with ⟨y, j', g1, g2, g3⟩ | ⟨y, g1, g2⟩
  · have g1 : impll126_0 5000 5000 l o (o.length : Int) 0 = _ := g1
    rw [g1, obS]
    exact .inl ⟨y, rfl, by simpa using g2, g3⟩
  · have g1 : impll126_0 5000 5000 l o (o.length : Int) 0 = _ := g1
    rw [g1, obS]
    exact .inr ⟨y, rfl, by simpa using g2⟩

theorem sub_perm : ∀ {c z : List Int}, c.Nodup → (∀ x ∈ c, x ∈ z) → ∃ q, z.Perm (c ++ q)
  | [], z, _, _ => ⟨z, List.Perm.refl _⟩
  | x :: c, z, hn, hs => by
    obtain ⟨h1, h2⟩ := List.nodup_cons.1 hn
    obtain ⟨q, hq⟩ := sub_perm (z := z.erase x) h2 fun y hy => by
      have hne : y ≠ x := fun e => h1 (e ▸ hy)
      exact (List.mem_erase_of_ne hne).2 (hs y (by simp [hy]))
    exact ⟨q, (List.perm_cons_erase (hs x (by simp))).trans (hq.cons x)⟩
theorem posD_more : ∀ (q c : List Int), (c ++ q).Nodup → ∃ R, (posD (c ++ q)).Perm (posD c ++ R) ∧ (∀ y ∈ R, ∃ p ∈ q, ∃ x ∈ c ++ q, y = dis p x) ∧ ∀ p ∈ q, ∀ x ∈ c, dis p x ∈ R
  | [], c, _ => ⟨[], by simp, (fun y hy => by cases hy), (fun p hp => by cases hp)⟩
  | p :: q, c, h => by
    have e : c ++ p :: q = (c ++ [p]) ++ q := by simp
    rw [e] at h
    obtain ⟨R, h1, h2, h3⟩ := posD_more q (c ++ [p]) h
    have hp : p ∉ c := fun hp => (List.nodup_append.1 (List.nodup_append.1 h).1).2.2 p hp p (by simp) rfl
    refine ⟨c.map (dis p) ++ R, ?_, ?_, ?_⟩
    · rw [e, ← List.append_assoc]
      exact h1.trans ((posD_snoc c p hp).append_right _)
    · intro y hy
      rcases List.mem_append.1 hy with hy | hy
      · obtain ⟨x, hx, rfl⟩ := List.mem_map.1 hy
        exact ⟨p, by simp, x, by simp [hx], rfl⟩
      · obtain ⟨p', hp', x, hx, rfl⟩ := h2 y hy
        exact ⟨p', by simp [hp'], x, by rw [e]; exact hx, rfl⟩
    · intro p' hp' x hx
      rcases List.mem_cons.1 hp' with rfl | hp'
      · exact List.mem_append.2 (.inl (List.mem_map.2 ⟨x, hx, rfl⟩))
      · exact List.mem_append.2 (.inr (h3 p' hp' x (by simp [hx])))
theorem rawN_two (c : List Int) : ∀ n, n ≤ c.length → 2 * (rawN c n).length + n = n * n
  | 0, _ => rfl
  | n + 1, h => by
    have ih := rawN_two c n (by omega)
    rw [rawN, List.length_append, List.length_map, List.length_take, Nat.min_eq_left (by omega)]
    have e : (n + 1) * (n + 1) = n * n + 2 * n + 1 := by rw [Nat.succ_mul, Nat.mul_succ]; omega
    omega
theorem D_two (c : List Int) : 2 * (D c).length + c.length = c.length * c.length := by
  unfold D
  rw [(isort_perm _).length_eq]
  exact rawN_two c _ (Nat.le_refl _)
theorem six {c : List Int} (h : (D c).length ≤ 15) : c.length ≤ 6 := by
  have h2 := D_two c
  apply Classical.byContradiction
  intro h6
  have : 7 * c.length ≤ c.length * c.length := Nat.mul_le_mul_right _ (by omega)
  omega
theorem D_pos {c : List Int} (h : c.Pairwise fun a b => a < b) : (D c).Perm (posD c) := (isort_perm _).trans (raw_pos c h)

/-- A state of the search. -/
structure Gd (L : Int) (c rest : List Int) : Prop where
  inc : inc2 c
  two : 2 ≤ c.length
  fst : c.getD 0 0 = 0
  lst : c.getD (c.length - 1) 0 = L
  hL : 1 ≤ L ∧ L ≤ 60
  srt : Srt rest
  rb : ∀ y ∈ rest, 1 ≤ y ∧ y ≤ 60
  sz : (D c).length + rest.length ≤ 15
theorem inc2_lo {c : List Int} (h : inc2 c) {x : Int} (hx : x ∈ c) : c.getD 0 0 ≤ x ∧ x ≤ c.getD (c.length - 1) 0 := by
  obtain ⟨i, hi, rfl⟩ := List.mem_iff_getElem.1 hx
  have gd : c.getD i 0 = c[i] := by simp [List.getD, hi]
  rw [← gd]
  constructor
  · by_cases e : i = 0
    · subst e; exact Int.le_refl _
    · have := h 0 i (by omega) hi; omega
  · by_cases e : i = c.length - 1
    · rw [← e]; exact Int.le_refl _
    · have := h i (c.length - 1) (by omega) (by omega); omega
theorem Gd.v {L : Int} {c rest : List Int} (h : Gd L c rest) : V c := by
  have h6 : c.length ≤ 6 := six (by have := h.sz; omega)
  have h2 := h.two
  have hL := h.hL
  refine ⟨⟨by omega, h6⟩, fun i _ hi => ⟨?_, fun h0 => h.inc _ _ (by omega) hi⟩, by rw [h.lst, h.fst]; omega⟩
  have := inc2_lo h.inc (getD_mem 0 hi)
  rw [h.fst, h.lst] at this
  omega
/-- What is looked for. -/
structure Tg (L : Int) (z c rest : List Int) : Prop where
  v : V z
  fst : z.getD 0 0 = 0
  lst : z.getD (z.length - 1) 0 = L
  sub : ∀ x ∈ c, x ∈ z
  all : (D c ++ rest).Perm (D z)
theorem inc_eq {c z : List Int} (hc : c.Pairwise fun a b => a < b) (hz : z.Pairwise fun a b => a < b) (h : z.Perm c) : z = c :=
  sorted_unique' leI_an h (hz.imp fun h => decide_eq_true (Int.le_of_lt h)) (hc.imp fun h => decide_eq_true (Int.le_of_lt h))
/-- Nothing is left: it is found. -/
theorem Tg.done {L : Int} {z c : List Int} (hg : Gd L c []) (h : Tg L z c []) : z = c := by
  have hci := srt_inc2 hg.inc
  obtain ⟨q, hq⟩ := sub_perm (inc_nodup hci) h.sub
  have hnd := hq.nodup_iff.1 (inc_nodup h.v.inc)
  obtain ⟨R, h1, h2, h3⟩ := posD_more q c hnd
  have hall := h.all
  rw [List.append_nil] at hall
  have hl := ((D_pos hci).symm.trans (hall.trans ((D_pos h.v.inc).trans ((posD_perm (prs_perm hq)).trans h1)))).length_eq
  rw [List.length_append] at hl
  have hR : R = [] := List.length_eq_zero_iff.1 (by omega)
  have hq0 : q = [] := by
    cases q with
    | nil => rfl
    | cons p q =>
      have := h3 p (by simp) _ (getD_mem 0 (show 0 < c.length by have := hg.two; omega))
      rw [hR] at this; cases this
  rw [hq0, List.append_nil] at hq
  exact inc_eq hci h.v.inc hq
/-- A new place takes its distances out of the rest. -/
theorem Tg.own {L : Int} {z c rest : List Int} (hg : Gd L c rest) (h : Tg L z c rest) {n : Int} (hn : n ∈ z) (hc : n ∉ c) : ∃ r, (c.map (dis n) ++ r).Perm rest := by
  have hci := srt_inc2 hg.inc
  have hnd0 : (c ++ [n]).Nodup := by
    rw [List.nodup_append]
    refine ⟨inc_nodup hci, by simp, fun a ha b hb e => ?_⟩
    have hb : b = n := by simpa using hb
    rw [e, hb] at ha; exact hc ha
  obtain ⟨q, hq⟩ := sub_perm (z := z) hnd0 (fun x hx => by
    rcases List.mem_append.1 hx with hx | hx
    · exact h.sub x hx
    · have : x = n := by simpa using hx
      rw [this]; exact hn)
  obtain ⟨R, h1, _, _⟩ := posD_more q (c ++ [n]) (hq.nodup_iff.1 (inc_nodup h.v.inc))
  refine ⟨R, ?_⟩
  have a1 : (posD c ++ rest).Perm (posD c ++ (c.map (dis n) ++ R)) :=
    ((D_pos hci).symm.append_right _).trans (h.all.trans ((D_pos h.v.inc).trans ((posD_perm (prs_perm hq)).trans (h1.trans (by
      rw [← List.append_assoc]
      exact (posD_snoc c n hc).append_right _)))))
  exact ((List.perm_append_left_iff _).1 a1).symm
/-- The greatest delay is that of a new place to an end. -/
theorem Tg.far {L : Int} {z c rest : List Int} (hg : Gd L c rest) (h : Tg L z c rest) {far : Int} (hf : far ∈ rest) (hm : ∀ y ∈ rest, y ≤ far) : ∃ p ∈ z, p ∉ c ∧ (p = far ∨ p = L - far) := by
  have hci := srt_inc2 hg.inc
  obtain ⟨q, hq⟩ := sub_perm (inc_nodup hci) h.sub
  have hnd := hq.nodup_iff.1 (inc_nodup h.v.inc)
  obtain ⟨R, h1, h2, h3⟩ := posD_more q c hnd
  have a1 : (posD c ++ rest).Perm (posD c ++ R) :=
    ((D_pos hci).symm.append_right _).trans (h.all.trans ((D_pos h.v.inc).trans ((posD_perm (prs_perm hq)).trans h1)))
  have hR := (List.perm_append_left_iff _).1 a1
  obtain ⟨p, hp, x, hx, e⟩ := h2 far (hR.mem_iff.1 hf)
  have hpz : p ∈ z := hq.mem_iff.2 (List.mem_append.2 (.inr hp))
  have hxz : x ∈ z := hq.mem_iff.2 hx
  have hpc : p ∉ c := fun hc => (List.nodup_append.1 hnd).2.2 p hc p hp rfl
  have b1 := h.v.lo hpz
  have b2 := h.v.lo hxz
  rw [h.fst, h.lst] at b1 b2
  have m0 := hm _ (hR.mem_iff.2 (h3 p hp _ (getD_mem 0 (show 0 < c.length by have := hg.two; omega))))
  have m1 := hm _ (hR.mem_iff.2 (h3 p hp _ (getD_mem 0 (show c.length - 1 < c.length by have := hg.two; omega))))
  rw [hg.fst] at m0
  rw [hg.lst] at m1
  refine ⟨p, hpz, hpc, ?_⟩
  unfold dis at e m0 m1
  omega
end Go.Proofs.Ytdgibokmaannjaa
