/- The normal form is among all. -/
import Derived.Test.YtdgibokmaannjaaM12
set_option linter.unusedVariables false
set_option linter.unusedSimpArgs false
namespace Go.Proofs.Ytdgibokmaannjaa
open Go Go.Pv Classical

theorem V.zer {c : List Int} (h : V c) : V (zer c) := by
  have hp := h.pos
  have h2 := h.2.2
  refine ⟨by rw [zer_len]; exact h.1, fun i _ hi => ?_, ?_⟩
  · rw [zer_len] at hi
    have b1 := h.lo (getD_mem 0 hi)
    refine ⟨by rw [zer_get hi]; omega, fun h0 => ?_⟩
    rw [zer_get hi, zer_get (show i - 1 < c.length by omega)]
    have := (h.2.1 i (Nat.zero_le _) hi).2 h0
    omega
  · rw [zer_len, zer_get hp, zer_get (show c.length - 1 < c.length by omega)]
    omega
theorem nrm_zer {c : List Int} (hp : 0 < c.length) : nrm (zer c) = nrm c := nrm_sh hp
theorem D_zer {c : List Int} (h : V c) : D (zer c) = D c := D_sh _ h.inc
theorem D_small {c : List Int} (h : V c) : (D c).length ≤ 15 := by
  have h2 := D_two c
  have h6 := h.1.2
  have : c.length * c.length ≤ 6 * c.length := Nat.mul_le_mul_right _ h6
  omega
theorem tri_D {c : List Int} (h : V c) : tri (D c).length = true := by
  have h2 := D_two c
  have h6 := h.1
  generalize (D c).length = m at h2 ⊢
  generalize c.length = n at h2 h6
  have hn : n = 1 ∨ n = 2 ∨ n = 3 ∨ n = 4 ∨ n = 5 ∨ n = 6 := by omega
  rcases hn with rfl | rfl | rfl | rfl | rfl | rfl
  · obtain rfl : m = 0 := by omega
    rfl
  · obtain rfl : m = 1 := by omega
    rfl
  · obtain rfl : m = 3 := by omega
    rfl
  · obtain rfl : m = 6 := by omega
    rfl
  · obtain rfl : m = 10 := by omega
    rfl
  · obtain rfl : m = 15 := by omega
    rfl
theorem dErr_D {c : List Int} (h : V c) : dErr (D c) = 0 := by
  have hs := sp_b h
  have hd := (D_sp h).1
  have hl := D_small h
  unfold dErr
  rw [if_neg (by omega), if_pos]
  refine ⟨tri_D h, fun i h1 h2 => ?_, fun s hs => by have := hd s hs; omega⟩
  have hDs : (D c).Pairwise (fun a b => a ≤ b) := leI_sorted (rawD c)
  have hp := List.pairwise_iff_getElem.1 hDs
  have := hp (i - 1) i (by omega) h2 (by omega)
  have gd : ∀ j (hj : j < (D c).length), (D c).getD j 0 = (D c)[j] := fun j hj => by simp [List.getD, hj]
  rw [gd i h2, gd (i - 1) (by omega)]
  omega
theorem begin_ok (c : List Int) (h : V c) : ∃ out, implf95 5000 (D c) ([], ()) = some (out, ()) ∧ out.length ≤ 1000 ∧ (∀ r ∈ out, r.length ≤ 6) ∧ nrm c ∈ out := by
  have hp := h.pos
  have hl := D_small h
  have hs := sp_b h
  obtain ⟨d1, d2⟩ := D_sp h
  unfold implf95
  rw [ibeq, cdec]
  by_cases h0 : (D c).length = 0
  · have h2 := D_two c
    have h1 : c.length = 1 := by
      rw [h0] at h2
      have h6 := h.1
      have hn : c.length = 1 ∨ c.length = 2 ∨ c.length = 3 ∨ c.length = 4 ∨ c.length = 5 ∨ c.length = 6 := by omega
      rcases hn with e | e | e | e | e | e <;> rw [e] at h2 <;> omega
    have hz : zer c = [0] := by
      refine ext_getD (by rw [zer_len, h1]; rfl) fun i hi => ?_
      rw [zer_len] at hi
      obtain rfl : i = 0 := by omega
      rw [zer_get hp, Int.sub_self]; rfl
    have hV0 : V [0] := hz ▸ h.zer
    rw [if_pos (by omega), one1, w96 [0] [] hV0 (by simp), obS]
    refine ⟨[nrm [0]], rfl, by simp, fun r hr => ?_, ?_⟩
    · have : r = nrm [0] := by simpa using hr
      rw [this, nrm_len]; simp
    · rw [← hz, nrm_zer hp]; simp
  · have hlast : (D c).getD ((D c).length - 1) 0 = sp c := by
      have hm := getD_mem (l := D c) 0 (show (D c).length - 1 < (D c).length by omega)
      have b1 := d1 _ hm
      have hin := d2 (by omega)
      obtain ⟨t, ht, e⟩ := List.mem_iff_getElem.1 hin
      have gd : (D c).getD ((D c).length - 1) 0 = (D c)[(D c).length - 1]'(by omega) := by simp [List.getD, show (D c).length - 1 < (D c).length by omega]
      have hDs : (D c).Pairwise (fun a b => a ≤ b) := leI_sorted (rawD c)
      have hpw := List.pairwise_iff_getElem.1 hDs
      by_cases e2 : t = (D c).length - 1
      · subst e2; rw [gd]; exact e
      · have h3 : (D c)[t] ≤ (D c)[(D c).length - 1]'(by omega) := hpw t ((D c).length - 1) ht (by omega) (by omega)
        rw [gd] at b1 ⊢
        omega
    have hpos : 1 ≤ sp c := by
      have := d1 _ (getD_mem (l := D c) 0 (show 0 < (D c).length by omega))
      omega
    have hsp2 : ((List.replicate 2 (0 : Int)).set 0 0).set 1 (sp c) = [0, sp c] := rfl
    rw [if_neg (by omega), wrapP (by omega) (by omega), if_pos ⟨by omega, by omega⟩, if_pos ⟨by omega, by omega, by omega⟩, Int.toNat_natCast, hlast, hsp2]
    have hD2 : D [0, sp c] = [sp c] := by
      show isort leI [sp c - 0] = [sp c]
      rw [Int.sub_zero]; rfl
    have hrest : ((D c).take ((D c).length - 1)) ++ [sp c] = D c := by
      have e := take_getD (w := D c) 0 (show (D c).length - 1 < (D c).length by omega)
      rw [hlast, show (D c).length - 1 + 1 = (D c).length by omega, List.take_length] at e
      exact e.symm
    have hsrt : Srt ((D c).take ((D c).length - 1)) := List.Pairwise.sublist (List.take_sublist _ _) (isort_sorted leI_tr leI_to (rawD c))
    have hG : Gd (sp c) [0, sp c] ((D c).take ((D c).length - 1)) := by
      refine ⟨fun i j hij hj => ?_, by simp, rfl, rfl, ⟨hpos, hs.2⟩, hsrt, fun y hy => ?_, ?_⟩
      · have hj : j < 2 := hj
        obtain rfl : i = 0 := by omega
        obtain rfl : j = 1 := by omega
        show (0 : Int) < sp c
        omega
      · have := d1 y (List.mem_of_mem_take hy)
        omega
      · rw [hD2, List.length_take]
        simp only [List.length_singleton]
        omega
    have hT : Tg (sp c) (zer c) [0, sp c] ((D c).take ((D c).length - 1)) := by
      have hzl : (zer c).getD ((zer c).length - 1) 0 = sp c := by
        rw [zer_len, zer_get (show c.length - 1 < c.length by omega)]; rfl
      have hz0 : (zer c).getD 0 0 = 0 := by rw [zer_get hp, Int.sub_self]
      refine ⟨h.zer, hz0, hzl, fun x hx => ?_, ?_⟩
      · have hx : x = 0 ∨ x = sp c := by simpa using hx
        rcases hx with rfl | rfl
        · have := getD_mem (l := zer c) 0 (show 0 < (zer c).length by rw [zer_len]; exact hp)
          rwa [hz0] at this
        · have := getD_mem (l := zer c) 0 (show (zer c).length - 1 < (zer c).length by rw [zer_len]; omega)
          rwa [hzl] at this
      · rw [hD2, D_zer h]
        have e : ([sp c] ++ (D c).take ((D c).length - 1)).Perm (((D c).take ((D c).length - 1)) ++ [sp c]) := List.perm_append_comm
        rwa [hrest] at e
    have htl : ((D c).take ((D c).length - 1)).length ≤ 14 := by rw [List.length_take]; omega
    have hpw : 2 ^ (((D c).take ((D c).length - 1)).length / 2) ≤ 2 ^ 7 := Nat.pow_le_pow_right (by omega) (by omega)
    obtain ⟨out, o1, o2, o3, o4⟩ := search (sp c) 5000 [0, sp c] ((D c).take ((D c).length - 1)) [] hG (by omega) (by simp only [List.length_nil]; omega)
    have o1 : implf111 5000 [0, sp c] ((D c).take ((D c).length - 1)) ([], ()) = some ([] ++ out, ()) := o1
    rw [o1, obS]
    have := o4 _ hT
    rw [nrm_zer hp] at this
    exact ⟨out, rfl, by omega, o3, this⟩
theorem cmpGoL_mem : ∀ (l : List (List Int)) (p x : List Int), x ∈ l → x = p ∨ x ∈ cmpGoL p l
  | y :: r, p, x, h => by
    rw [cmpGoL]
    by_cases e : y = p
    · subst e
      rw [if_pos rfl]
      rcases List.mem_cons.1 h with rfl | h
      · exact .inl rfl
      · exact cmpGoL_mem r y x h
    · rw [if_neg e]
      rcases List.mem_cons.1 h with rfl | h
      · exact .inr (by simp)
      · rcases cmpGoL_mem r y x h with rfl | h
        · exact .inr (by simp)
        · exact .inr (by simp [h])
theorem compactL_mem {l : List (List Int)} {x : List Int} (h : x ∈ l) : x ∈ compactL l := by
  cases l with
  | nil => cases h
  | cons p r =>
    rw [compactL]
    rcases List.mem_cons.1 h with rfl | h
    · simp
    · rcases cmpGoL_mem r p x h with rfl | h
      · simp
      · simp [h]
theorem cmpGoL_sub : ∀ (l : List (List Int)) (p : List Int), (cmpGoL p l).Sublist l
  | [], p => List.Sublist.refl _
  | y :: r, p => by
    rw [cmpGoL]
    by_cases e : y = p
    · rw [if_pos e]; exact (cmpGoL_sub r p).trans (List.sublist_cons_self _ _)
    · rw [if_neg e]; exact (cmpGoL_sub r y).cons_cons y
theorem compactL_sub (l : List (List Int)) : (compactL l).Sublist l := by
  cases l with
  | nil => exact List.Sublist.refl _
  | cons p r => rw [compactL]; exact (cmpGoL_sub r p).cons_cons p
theorem w37 (c : List Int) (h : V c) : ∃ all, implf37 5000 (D c) = some (all, 0) ∧ all.length ≤ 1000 ∧ (∀ r ∈ all, r.length ≤ 6) ∧ nrm c ∈ all := by
  have hl := D_small h
  obtain ⟨out, o1, o2, o3, o4⟩ := begin_ok c h
  have hp := isort_perm (le := leL) out
  unfold implf37
  rw [w72 _ (by omega), obS, dErr_D h, ibne, cnot, cdec, if_pos rfl, o1, obS]
  have h97 : implf97 5000 out = some (isort leL out) := by
    unfold implf97
    rw [if_pos ⟨o2, fun x hx => by have := o3 x hx; omega⟩]
  have h98 : implf98 5000 (isort leL out) = some (compactL (isort leL out)) := by
    unfold implf98
    rw [if_pos ⟨by rw [hp.length_eq]; exact o2, fun x hx => by have := o3 x (hp.mem_iff.1 hx); omega⟩]
  rw [h97, obS, h98, obS]
  refine ⟨compactL (isort leL out), rfl, ?_, fun r hr => o3 r (hp.mem_iff.1 ((compactL_sub _).subset hr)), compactL_mem (hp.mem_iff.2 o4)⟩
  have := (compactL_sub (isort leL out)).length_le
  rw [hp.length_eq] at this
  omega
theorem among_all (c : List Int) : implf8 5000 c = some true := by
  unfold implf8
  rw [long1, obS, cdec]
  by_cases hl : 100 < c.length
  · rw [if_pos hl, sane5]; rfl
  · rw [if_neg hl, w36 c (by omega), w29 c (by omega), obS, obS]
    simp only [ibne, ibeq, cnot, cdec, if_true]
    by_cases h : V c
    · rw [if_pos (v_err.2 h), if_pos (v_err.2 h), if_pos h, if_pos h]
      obtain ⟨all, a1, a2, a3, a4⟩ := w37 c h
      rw [a1, obS]
      have hrl : ∀ j, j < all.length → (all.getD j []).length ≤ 1000 := fun j hj => by have := a3 _ (getD_mem [] hj); omega
      rcases uptoFind (fun k (j : Nat) => impll8_0 5000 k (nrm c) all 0 (j : Int)) (fun j => j) all.length (fun j => ¬ all.getD j [] = nrm c) (.inl ((all.length : Int), ())) (fun j => .inr true)
        (fun k j hj hp => by
          show impll8_0 5000 (k + 1) (nrm c) all 0 (j : Int) = _
          rw [impll8_0, implb8_0, cdec, if_pos (by omega), if_pos ⟨by omega, by omega⟩, Int.toNat_natCast, w24 _ _ (hrl j hj), obS, cdec, if_neg hp, wrapS (by omega)])
        (fun k j hj hp => by
          show impll8_0 5000 (k + 1) (nrm c) all 0 (j : Int) = _
          rw [impll8_0, implb8_0, cdec, if_pos (by omega), if_pos ⟨by omega, by omega⟩, Int.toNat_natCast, w24 _ _ (hrl j hj), obS, cdec, if_pos (Classical.not_not.1 hp), ibeq, cdec, if_pos rfl, sane5]
          rfl)
        (fun k => by
          show impll8_0 5000 (k + 1) (nrm c) all 0 (all.length : Int) = _
          rw [impll8_0, implb8_0, cdec, if_neg (by omega)]) 5000 0 (by omega) (Nat.zero_le _) with ⟨h1, h2⟩ | ⟨i, h1, h2, h3, h4, h5⟩
      · exact absurd rfl ((all_getD [] (fun y => ¬ y = nrm c)).1 h2 _ a4)
      · have h5 : impll8_0 5000 5000 (nrm c) all 0 0 = _ := h5
        rw [h5, obS]
    · have : ¬ vErr c = 0 := fun e => h (v_err.1 e)
      rw [if_neg this, sane5]; rfl
end Go.Proofs.Ytdgibokmaannjaa
