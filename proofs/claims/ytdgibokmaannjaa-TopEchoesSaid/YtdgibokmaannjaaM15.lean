/- TopEchoes: the plain part. -/
import Derived.Test.YtdgibokmaannjaaM14
set_option linter.unusedVariables false
set_option linter.unusedSimpArgs false
namespace Go.Proofs.Ytdgibokmaannjaa
open Go Go.Pv Classical

theorem V.nrm {c : List Int} (h : V c) : V (nrm c) := by
  unfold Go.Proofs.Ytdgibokmaannjaa.nrm
  split
  · exact h.zer.mir
  · exact h.zer
theorem nrm_nrm {c : List Int} (h : V c) : nrm (nrm c) = nrm c := by
  have hz := h.zer
  have e : nrm c = mir (zer c) ∨ nrm c = zer c := by
    unfold nrm
    split
    · exact .inl rfl
    · exact .inr rfl
  rcases e with e | e
  · rw [e, nrm_mir hz.pos, nrm_zer h.pos, e]
  · rw [e, nrm_zer h.pos, e]
theorem cnt_one : ∀ {l : List (List Int)} {x : List Int}, l.Nodup → x ∈ l → (l.filter fun y => decide (x = y)).length = 1
  | y :: l, x, hn, hx => by
    obtain ⟨h1, h2⟩ := List.nodup_cons.1 hn
    by_cases e : x = y
    · subst e
      have : (l.filter fun y => decide (x = y)) = [] := by
        rw [List.filter_eq_nil_iff]
        intro z hz hd
        have : x = z := of_decide_eq_true hd
        exact h1 (this ▸ hz)
      rw [List.filter_cons, if_pos (decide_eq_true rfl), this]; rfl
    · rw [List.filter_cons, if_neg (by simpa using e)]
      exact cnt_one h2 ((List.mem_cons.1 hx).resolve_left e)
theorem top0 (c d own : List Int) (p : Int) (all : List (List Int)) (h : V c) (hl : all.length ≤ 1000) (hown : own = nrm c) (hn : all.Nodup) (hm : nrm c ∈ all) (ha : ∀ r ∈ all, ∃ x, V x ∧ r = nrm x ∧ D x = D c) :
    impll17_0 5000 5000 c d p all own 0 0 = some (.inl (1, (all.length : Int), ())) := by
  subst hown
  have hh := upto (fun k (s : Nat × Nat) => impll17_0 5000 k c d p all (nrm c) (s.1 : Int) (s.2 : Int)) (fun j => (((all.take j).filter fun y => decide (nrm c = y)).length, j)) all.length (.inl (((all.filter fun y => decide (nrm c = y)).length : Int), (all.length : Int), ()))
    (fun k j hj => by
      show impll17_0 5000 (k + 1) c d p all (nrm c) (((all.take j).filter fun y => decide (nrm c = y)).length : Int) (j : Int) = impll17_0 5000 k c d p all (nrm c) (((all.take (j + 1)).filter fun y => decide (nrm c = y)).length : Int) ((j + 1 : Nat) : Int)
      obtain ⟨x, x1, x2, x3⟩ := ha _ (getD_mem [] hj)
      have hle : ((all.take j).filter fun y => decide (nrm c = y)).length ≤ 1000 := Nat.le_trans (List.length_filter_le _ _) (by rw [List.length_take]; omega)
      have hVr := x1.nrm
      have h6 := h.1.2
      have hx6 := x1.1.2
      rw [take_getD [] hj, List.filter_append, x2]
      rw [impll17_0, implb17_0, cdec, if_pos (by omega), if_pos ⟨by omega, by omega⟩, Int.toNat_natCast, x2, w28 c (nrm x) (by omega) (by rw [nrm_len]; omega), obS, if_pos ⟨by omega, by omega⟩, w40 c (nrm x) (by omega) (by rw [nrm_len]; omega), obS, if_pos ⟨h, hVr⟩, if_pos ⟨h, hVr⟩, b_err.2 ⟨h, hVr⟩, D_nrm x1, x3, nrm_nrm x1, if_pos ⟨by omega, by omega⟩, w24 (nrm c) (nrm x) (by rw [nrm_len]; omega), obS]
      simp only [ibne, decide_true, Bool.not_true, cond_false]
      by_cases g : nrm c = nrm x
      · rw [decide_eq_true g]
        rw [show (!(true == true)) = false from rfl, cond_false, cond_true, wrapS (by omega), wrapS (by omega)]
        rw [List.filter_cons, if_pos (decide_eq_true g), List.length_append]
        rfl
      · rw [decide_eq_false g]
        rw [show (!(false == false)) = false from rfl, cond_false, cond_false, wrapS (by omega)]
        rw [List.filter_cons, if_neg (by simpa using g), List.filter_nil, List.append_nil])
    (fun k => by
      show impll17_0 5000 (k + 1) c d p all (nrm c) (((all.take all.length).filter fun y => decide (nrm c = y)).length : Int) (all.length : Int) = _
      rw [impll17_0, implb17_0, cdec, if_neg (by omega), List.take_length]) 5000 0 (by omega) (Nat.zero_le _)
  have hh : impll17_0 5000 5000 c d p all (nrm c) 0 0 = _ := hh
  rw [hh, cnt_one hn hm]; rfl

theorem top2 (c d n : List Int) (p : Int) (all : List (List Int)) (s1 : Bool) (e1 e2 : Int) (hl : all.length ≤ 1000) (h6 : ∀ r ∈ all, r.length ≤ 1000) :
    impll17_2 5000 5000 c d p all s1 e1 false n e2 0 = some (decide (n ∈ all), (all.length : Int), ()) := by
  have hh := upto (fun k (s : Bool × Nat) => impll17_2 5000 k c d p all s1 e1 s.1 n e2 (s.2 : Int)) (fun j => (decide (n ∈ all.take j), j)) all.length (decide (n ∈ all), (all.length : Int), ())
    (fun k j hj => by
      show impll17_2 5000 (k + 1) c d p all s1 e1 (decide (n ∈ all.take j)) n e2 (j : Int) = impll17_2 5000 k c d p all s1 e1 (decide (n ∈ all.take (j + 1))) n e2 ((j + 1 : Nat) : Int)
      have e : n ∈ all.take (j + 1) ↔ n ∈ all.take j ∨ n = all.getD j [] := by rw [take_getD [] hj, List.mem_append, List.mem_singleton]
      rw [impll17_2, implb17_2, cdec, if_pos (by omega), cdec]
      by_cases g : n ∈ all.take j
      · rw [if_pos g, wrapS (by omega), decide_eq_true (e.2 (.inl g))]
      · rw [if_neg g, if_pos ⟨by omega, by omega⟩, Int.toNat_natCast, w24 _ _ (h6 _ (getD_mem [] hj)), obS, wrapS (by omega)]
        congr 1
        rw [Bool.eq_iff_iff]
        simp only [decide_eq_true_eq]
        rw [e]
        exact ⟨fun h => .inr h.symm, fun h => (h.resolve_left g).symm⟩)
    (fun k => by
      show impll17_2 5000 (k + 1) c d p all s1 e1 (decide (n ∈ all.take all.length)) n e2 (all.length : Int) = _
      rw [impll17_2, implb17_2, cdec, if_neg (by omega), List.take_length]) 5000 0 (by omega) (Nat.zero_le _)
  have hh : impll17_2 5000 5000 c d p all s1 e1 (decide (n ∈ ([] : List (List Int)))) n e2 0 = _ := hh
  rw [decide_eq_false (by simp)] at hh
  exact hh
/-- What comes last: one more place. -/
theorem topW (c : List Int) (p : Int) (h : V c) (hc : c.length ≤ 100) :
    (ob (implf52 5000 c p) fun y26 => (bif y26.2 != (0 : Int) then some ((y26.1.length : Int) == (0 : Int)) else (ob (implf27 5000 y26.1) fun y27 => (ob (implf27 5000 c) fun y28 => (bif y27.2 == (0 : Int) then (bif y28.2 == (0 : Int) then (bif !y27.1 then some true else some y28.1) else some false) else some false))))) = some true := by
  rw [w52 c p (by omega), obS, ibne, cnot, cdec]
  unfold wR mdR
  rw [if_pos h]
  by_cases h4 : Adj (isort leI (c ++ [p]))
  · rw [if_pos h4]
    by_cases h2 : V (isort leI (c ++ [p]))
    · have hp : p ∉ c := by
        have hnd := (isort_perm (le := leI) (c ++ [p])).nodup_iff.1 ((adj_nodup (isort_sorted leI_tr leI_to _)).1 h4)
        intro hp
        exact (List.nodup_append.1 hnd).2.2 p hp p (by simp) rfl
      have hl6 := h2.1.2
      rw [if_pos h2, if_pos rfl]
      show (ob (implf27 5000 (isort leI (c ++ [p]))) fun y27 => _) = _
      rw [w27 _ (by omega), obS, w27 c (by omega), obS, if_pos h2, if_pos h, v_err.2 h2, v_err.2 h]
      simp only [ibeq, decide_true, cond_true]
      rw [cnot, cdec]
      by_cases g : Adj (D (isort leI (c ++ [p])))
      · have g1 := (adj_nodup (isort_sorted leI_tr leI_to (rawD (isort leI (c ++ [p]))))).1 g
        have g2 := (List.nodup_append.1 ((D_with h h2 hp).nodup_iff.1 g1)).1
        rw [if_pos g, decide_eq_true (show Adj (D c) from (adj_nodup (isort_sorted leI_tr leI_to (rawD c))).2 g2)]
      · rw [if_neg g]
    · rw [if_neg h2, if_neg (fun e => h2 (v_err.1 e))]; rfl
  · rw [if_neg h4, if_neg (by decide)]; rfl

set_option maxRecDepth 1000000 in
theorem hear2 : implf48 5000 (((List.replicate 2 (0 : Int)).set 0 0).set 1 5) 2 = some ([4, 6], 0) := by kernel_rfl
theorem top_all (c d : List Int) (p : Int) : implf17 5000 c d p = some true := by
  unfold implf17
  rw [hear2, obS]
  simp only [ibne, decide_true, Bool.not_true, cond_false]
  rw [w24 _ _ (by simp), obS, decide_eq_true (show ([4, 6] : List Int) = ((List.replicate 2 (0 : Int)).set 0 4).set 1 6 from rfl)]
  simp only [Bool.not_true, cond_false]
  rw [long2, obS, cdec]
  by_cases hl : 100 < c.length ∨ 100 < d.length
  · rw [if_pos hl]
  · rw [if_neg hl, w29 c (by omega), obS, cnot, cdec]
    by_cases h : V c
    · have hdl := D_small h
      obtain ⟨all, a1, a2, a3, a4, a5, a6, out, o1, o2⟩ := all2 c h
      have hr6 : ∀ r ∈ all, r.length ≤ 1000 := fun r hr => by obtain ⟨x, x1, rfl, _⟩ := a5 r hr; rw [nrm_len]; have := x1.1.2; omega
      have hmem := a6 c h rfl
      have hpos := List.length_pos_of_mem hmem
      have h34 : implf34 5000 (D c) c = some 0 := by
        unfold implf34
        rw [w72 _ (by omega), obS, dErr_D h]
        simp only [ibne, decide_true, Bool.not_true, cond_false]
        rw [w32 c (by omega), obS, v_err.2 h]
        simp only [decide_true, Bool.not_true, cond_false]
        rw [w70 c h.1.2 h.B, obS, w69 _ _ (by omega), obS, decide_eq_true rfl]; rfl
      have h55 : implf55 5000 (D c) = some (all.getD 0 [], true, 0) := by
        unfold implf75 at a2
        unfold implf55 implf88
        rw [w72 _ (by omega), obS, dErr_D h]
        simp only [ibne, decide_true, Bool.not_true, cond_false]
        rw [o1, obS] at a2 ⊢
        rw [obS, obS, decide_eq_true o2]
        simp only [Bool.not_true, cond_false]
        cases h97 : implf97 5000 (out, ()).1 with
        | none => rw [h97] at a2; cases a2
        | some s =>
          rw [h97, obS] at a2
          rw [obS]
          cases h98 : implf98 5000 s with
          | none => rw [h98] at a2; cases a2
          | some t =>
            rw [h98, obS] at a2
            cases a2
            rw [obS, if_pos ⟨by omega, by omega⟩]
      rw [if_pos (v_err.2 h), if_pos h, h34, obS]
      simp only [decide_true, Bool.not_true, cond_false]
      rw [a1, obS, h55, obS, w36 c (by omega), obS, if_pos h, v_err.2 h]
      simp only [decide_true, Bool.not_true, cond_false]
      rw [ibeq, cdec, if_neg (by omega), if_pos ⟨by omega, by omega⟩, w24 _ _ (hr6 _ (getD_mem [] hpos)), obS, decide_eq_true rfl]
      simp only [Bool.not_true, cond_false]
      rw [top0 c d (nrm c) p all h a3 rfl a4 hmem a5, obS]
      simp only [decide_true, Bool.not_true, cond_false]
      rw [w32 d (by omega), obS, ibeq, cdec]
      have hW := topW c p h (by omega)
      by_cases hd : V d
      · rw [if_pos (v_err.2 hd), w28 c d (by omega) (by omega), obS, w36 d (by omega), obS, if_pos ⟨h, hd⟩, if_pos hd, b_err.2 ⟨h, hd⟩, v_err.2 hd, top2 _ _ _ _ _ _ _ _ a3 hr6, obS]
        have he : D c = D d ↔ nrm d ∈ all := by
          constructor
          · intro e; exact a6 d hd e.symm
          · intro hm
            obtain ⟨x, x1, x2, x3⟩ := a5 _ hm
            rw [← D_nrm hd, x2, D_nrm x1, x3]
        have hb : (!(decide (D c = D d) == decide (nrm d ∈ all))) = false := by
          by_cases g : D c = D d
          · rw [decide_eq_true g, decide_eq_true (he.1 g)]; rfl
          · rw [decide_eq_false g, decide_eq_false (fun e => g (he.2 e))]; rfl
        simp only [decide_true, Bool.not_true, cond_false]
        rw [hb, cond_false, w58 c d 1 (by omega) (by omega) (.inl rfl), w58 c d (-1) (by omega) (by omega) (.inr rfl), obS, obS, ibeq, cdec]
        by_cases h1 : (cmR c d 1).2 = 0
        · rw [if_pos h1, ibeq, cdec]
          by_cases h2 : (cmR c d (-1)).2 = 0
          · have key : ∀ s, (cmR c d s).2 = 0 → V (isort leI (sums c d s)) ∧ cmR c d s = (isort leI (sums c d s), 0) := by
              intro s h
              unfold cmR at h ⊢
              rw [if_pos (b_err.2 ⟨‹V c›, hd⟩)] at h ⊢
              unfold mdR at h ⊢
              by_cases hA : Adj (isort leI (sums c d s))
              · rw [if_pos hA] at h ⊢
                by_cases hV : V (isort leI (sums c d s))
                · rw [if_pos hV]; exact ⟨hV, rfl⟩
                · rw [if_neg hV] at h; exact absurd (v_err.1 h) hV
              · rw [if_neg hA] at h; exact absurd h (by decide)
            obtain ⟨hV1, e1⟩ := key 1 h1
            obtain ⟨hV2, e2⟩ := key (-1) h2
            have hD : D (isort leI (sums c d 1)) = D (isort leI (sums c d (-1))) :=
              D_of hV1.inc hV2.inc (posD_perm ((prs_perm (isort_perm _)).trans ((prs_home c d).trans (prs_perm (isort_perm _).symm))))
            rw [if_pos h2, e1, e2, w28 (isort leI (sums c d 1)) (isort leI (sums c d (-1))) (by have := hV1.1.2; omega) (by have := hV2.1.2; omega), obS, if_pos ⟨hV1, hV2⟩, decide_eq_true hD, b_err.2 ⟨hV1, hV2⟩]
            simp only [decide_true, Bool.not_true, cond_false]
            exact hW
          · rw [if_neg h2]; exact hW
        · rw [if_neg h1]; exact hW
      · rw [if_neg (fun e => hd (v_err.1 e))]; exact hW
    · rw [if_neg (fun e => h (v_err.1 e)), if_neg h, w32 c (by omega), obS, ibeq, decide_eq_true rfl]; rfl
end Go.Proofs.Ytdgibokmaannjaa
