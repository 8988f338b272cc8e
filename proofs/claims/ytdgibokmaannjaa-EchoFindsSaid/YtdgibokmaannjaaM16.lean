/- All cliffs with claimed delays: what the program finds. -/
import Derived.Test.YtdgibokmaannjaaM15
set_option linter.unusedVariables false
set_option linter.unusedSimpArgs false
namespace Go.Proofs.Ytdgibokmaannjaa
open Go Go.Pv Classical

theorem dErr_ok {l : List Int} (h : dErr l = 0) : l.length ≤ 15 ∧ tri l.length = true ∧ SrtA l ∧ ok60 l := by
  unfold dErr at h
  by_cases h1 : 15 < l.length
  · rw [if_pos h1] at h; exact absurd h (by decide)
  · rw [if_neg h1] at h
    by_cases h2 : tri l.length = true ∧ SrtA l ∧ ok60 l
    · exact ⟨by omega, h2⟩
    · rw [if_neg h2] at h; exact absurd h (by decide)
theorem srtA_step {l : List Int} (h : SrtA l) : ∀ i, i + 1 < l.length → l.getD i 0 ≤ l.getD (i + 1) 0 := by
  intro i hi
  have := h (i + 1) (by omega) hi
  rw [Nat.add_sub_cancel] at this
  omega
theorem srtA_srt {l : List Int} (h : SrtA l) : Srt l := by
  unfold Srt
  rw [List.pairwise_iff_getElem]
  intro i j hi hj hij
  have := mono_le (srtA_step h) (i := i) (k := j - i) (by omega)
  rw [show i + (j - i) = j by omega, List.getD_eq_getElem?_getD, List.getD_eq_getElem?_getD, List.getElem?_eq_getElem hi, List.getElem?_eq_getElem hj] at this
  exact decide_eq_true this
theorem V0 : V [0] := by
  refine ⟨⟨by decide, by decide⟩, fun i _ hi => ?_, by decide⟩
  have hi : i < 1 := hi
  obtain rfl : i = 0 := by omega
  exact ⟨⟨by decide, by decide⟩, fun h => absurd h (by decide)⟩
theorem D0 : D [0] = [] := List.eq_nil_of_length_eq_zero (by have := D_two [0]; have e : ([0] : List Int).length = 1 := rfl; rw [e] at this; omega)
/-- What the search tells out of claimed delays. -/
theorem begin3 (l : List Int) (h : dErr l = 0) : ∃ out, implf95 5000 l ([], ()) = some (out, ()) ∧ out.length ≤ 1000 ∧ (∀ r ∈ out, ∃ x, V x ∧ r = nrm x ∧ D x = l) ∧ ∀ z, V z → D z = l → nrm z ∈ out := by
  obtain ⟨hl, ht, hA, h6⟩ := dErr_ok h
  unfold implf95
  rw [ibeq, cdec]
  by_cases h0 : l.length = 0
  · obtain rfl : l = [] := List.eq_nil_of_length_eq_zero h0
    rw [if_pos (show (([] : List Int).length : Int) = 0 from rfl), one1, w96 [0] [] V0 (by simp), obS]
    refine ⟨[nrm [0]], rfl, by simp, fun r hr => ⟨[0], V0, by simpa using hr, D0⟩, fun z hz1 hz2 => ?_⟩
    rw [← nrm_zer hz1.pos, zer_one (one_D hz1 (by rw [hz2]; rfl))]; simp
  · obtain ⟨L, hL⟩ : ∃ L, L = l.getD (l.length - 1) 0 := ⟨_, rfl⟩
    have hsp2 : ((List.replicate 2 (0 : Int)).set 0 0).set 1 L = [0, L] := rfl
    rw [if_neg (by omega), wrapP (by omega) (by omega), if_pos ⟨by omega, by omega⟩, if_pos ⟨by omega, by omega, by omega⟩, Int.toNat_natCast, ← hL, hsp2]
    have hLb : 1 ≤ L ∧ L ≤ 60 := h6 L (by rw [hL]; exact getD_mem 0 (by omega))
    have hD2 : D [0, L] = [L] := by
      show isort leI [L - 0] = [L]
      rw [Int.sub_zero]; rfl
    have hrest : (l.take (l.length - 1)) ++ [L] = l := by
      have e := take_getD (w := l) 0 (show l.length - 1 < l.length by omega)
      rw [← hL, show l.length - 1 + 1 = l.length by omega, List.take_length] at e
      exact e.symm
    have hall : (D [0, L] ++ l.take (l.length - 1)).Perm l := by
      rw [hD2]
      have e : ([L] ++ l.take (l.length - 1)).Perm ((l.take (l.length - 1)) ++ [L]) := List.perm_append_comm
      rwa [hrest] at e
    have hsrt : Srt (l.take (l.length - 1)) := List.Pairwise.sublist (List.take_sublist _ _) (srtA_srt hA)
    have hG : Gd L [0, L] (l.take (l.length - 1)) := by
      refine ⟨fun i j hij hj => ?_, by simp, rfl, rfl, hLb, hsrt, fun y hy => h6 y (List.mem_of_mem_take hy), ?_⟩
      · have hj : j < 2 := hj
        obtain rfl : i = 0 := by omega
        obtain rfl : j = 1 := by omega
        show (0 : Int) < L
        omega
      · rw [hD2, List.length_take]
        simp only [List.length_singleton]
        omega
    have hT : ∀ z, V z → D z = l → Tg L (zer z) [0, L] (l.take (l.length - 1)) := by
      intro z hz e
      have hpz := hz.pos
      have hs := (D_last hz (by rw [e]; exact h0)).1
      rw [e, ← hL] at hs
      have hzl : (zer z).getD ((zer z).length - 1) 0 = L := by
        rw [zer_len, zer_get (show z.length - 1 < z.length by omega), hs]; rfl
      have hz0 : (zer z).getD 0 0 = 0 := by rw [zer_get hpz, Int.sub_self]
      refine ⟨hz.zer, hz0, hzl, fun x hx => ?_, by rw [D_zer hz, e]; exact hall⟩
      have hx : x = 0 ∨ x = L := by simpa using hx
      rcases hx with rfl | rfl
      · have := getD_mem (l := zer z) 0 (show 0 < (zer z).length by rw [zer_len]; exact hpz)
        rwa [hz0] at this
      · have := getD_mem (l := zer z) 0 (show (zer z).length - 1 < (zer z).length by rw [zer_len]; omega)
        rwa [hzl] at this
    have htl : (l.take (l.length - 1)).length ≤ 14 := by rw [List.length_take]; omega
    have hpw : 2 ^ ((l.take (l.length - 1)).length / 2) ≤ 2 ^ 7 := Nat.pow_le_pow_right (by omega) (by omega)
    obtain ⟨out, o1, o2, o3, o4⟩ := search2 L 5000 [0, L] (l.take (l.length - 1)) [] hG (by omega) (by simp only [List.length_nil]; omega)
    have o1 : implf111 5000 [0, L] (l.take (l.length - 1)) ([], ()) = some ([] ++ out, ()) := o1
    rw [o1, obS]
    refine ⟨out, rfl, by omega, fun r hr => ?_, fun z hz e => ?_⟩
    · obtain ⟨x, x1, x2, x3⟩ := o3 r hr
      exact ⟨x, x1, x2, sorted_unique' leI_an (x3.trans hall) (isort_sorted leI_tr leI_to (rawD x)) (srtA_srt hA)⟩
    · have := o4 _ (hT z hz e)
      rwa [nrm_zer hz.pos] at this
/-- All, and the first one. -/
theorem all3 (l : List Int) (h : dErr l = 0) : ∃ all, implf37 5000 l = some (all, 0) ∧ implf55 5000 l = some (all.getD 0 [], decide (0 < all.length), 0) ∧ all.length ≤ 1000 ∧ all.Pairwise (fun a b => leL a b = true) ∧ all.Nodup ∧ (∀ r ∈ all, ∃ x, V x ∧ r = nrm x ∧ D x = l) ∧ ∀ z, V z → D z = l → nrm z ∈ all := by
  have hl := (dErr_ok h).1
  obtain ⟨out, o1, o2, o3, o4⟩ := begin3 l h
  have hp := isort_perm (le := leL) out
  have hsix : ∀ r ∈ out, r.length ≤ 6 := fun r hr => by obtain ⟨x, x1, rfl, _⟩ := o3 r hr; rw [nrm_len]; exact x1.1.2
  have h97 : implf97 5000 out = some (isort leL out) := by
    unfold implf97
    rw [if_pos ⟨o2, fun x hx => by have := hsix x hx; omega⟩]
  have h98 : implf98 5000 (isort leL out) = some (compactL (isort leL out)) := by
    unfold implf98
    rw [if_pos ⟨by rw [hp.length_eq]; exact o2, fun x hx => by have := hsix x (hp.mem_iff.1 hx); omega⟩]
  have hsub := compactL_sub (isort leL out)
  have hm : ∀ r, r ∈ out → r ∈ compactL (isort leL out) := fun r hr => compactL_mem (hp.mem_iff.2 hr)
  refine ⟨compactL (isort leL out), ?_, ?_, ?_, (isort_sorted leL_tr leL_to out).sublist hsub, compactL_nodup (isort_sorted leL_tr leL_to out), fun r hr => o3 r (hp.mem_iff.1 (hsub.subset hr)), fun z hz e => hm _ (o4 z hz e)⟩
  · unfold implf37
    rw [w72 _ (by omega), obS, h, ibne, cnot, cdec, if_pos rfl, o1, obS, h97, obS, h98, obS]
  · unfold implf55 implf88
    rw [w72 _ (by omega), obS, h]
    simp only [ibne, decide_true, Bool.not_true, cond_false]
    rw [o1, obS, obS]
    cases hout : out with
    | nil => rfl
    | cons r rs =>
      have hpos : 0 < (compactL (isort leL out)).length := List.length_pos_of_mem (hm r (by rw [hout]; simp))
      rw [hout] at h97 h98 hpos
      rw [decide_eq_true (show 0 < (r :: rs).length from Nat.succ_pos _)]
      simp only [Bool.not_true, cond_false]
      rw [obS, h97, obS, h98, obS, if_pos ⟨by omega, by omega⟩, decide_eq_true hpos]
  · have := hsub.length_le
    rw [hp.length_eq] at this
    omega
end Go.Proofs.Ytdgibokmaannjaa
