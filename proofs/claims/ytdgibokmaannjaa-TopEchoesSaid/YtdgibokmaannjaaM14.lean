/- The search tells nothing else, and nothing twice. -/
import Derived.Test.YtdgibokmaannjaaM13
set_option linter.unusedVariables false
set_option linter.unusedSimpArgs false
namespace Go.Proofs.Ytdgibokmaannjaa
open Go Go.Pv Classical

/-- What the search tells out of a state. -/
def Fd (c rest r : List Int) : Prop := ∃ x, V x ∧ r = nrm x ∧ (D x).Perm (D c ++ rest)
/-- What is asked of the search further on. -/
def RsOk2 (L : Int) (rs : List Int → List Int → Acc → Option Acc) (R : Nat) : Prop :=
  ∀ c less acc, Gd L c less → less.length + 2 ≤ R → acc.length + 2 ^ (less.length / 2) ≤ 1000 →
    ∃ out, rs c less (acc, ()) = some (acc ++ out, ()) ∧ out.length ≤ 2 ^ (less.length / 2) ∧ (∀ r ∈ out, Fd c less r) ∧ ∀ z, Tg L z c less → nrm z ∈ out
theorem branch2 {L : Int} {rs : List Int → List Int → Acc → Option Acc} {c rest : List Int} (hg : Gd L c rest) (hrs : RsOk2 L rs rest.length) (ns : List Int) (idx : Nat) (hi2 : idx < 2) (hns : ns.length = 2) (n : Int) (hn : ns.getD idx 0 = n)
    (hnb : -100 ≤ n ∧ n ≤ 100) (acc : List (List Int)) (hacc : 2 * acc.length + 2 ^ (rest.length / 2) ≤ 2000) :
    ∃ out, (∀ k, impll111_0 5000 rs (k + 1) c rest (acc, ()) ns 2 (idx : Int) = impll111_0 5000 rs k c rest (acc ++ out, ()) ns 2 ((idx + 1 : Nat) : Int)) ∧ 2 * out.length ≤ 2 ^ (rest.length / 2) ∧ (∀ r ∈ out, Fd c rest r) ∧ ∀ z, Tg L z c rest → n ∈ z → n ∉ c → nrm z ∈ out := by
  have hV := hg.v
  have h6 := hV.1.2
  have hrl : rest.length ≤ 15 := by have := hg.sz; omega
  have h2 := hg.two
  have hcb : ∀ x ∈ c, 0 ≤ x ∧ x ≤ 60 := fun x hx => by
    have := inc2_lo hg.inc hx
    rw [hg.fst, hg.lst] at this
    have := hg.hL
    omega
  obtain ⟨i, b, hb, hi, hbm, g1, g2⟩ := w84 c n h6 hg.inc
  have nothing : (∀ k, impll111_0 5000 rs (k + 1) c rest (acc, ()) ns 2 (idx : Int) = impll111_0 5000 rs k c rest (acc, ()) ns 2 ((idx + 1 : Nat) : Int)) → (∀ z, Tg L z c rest → n ∈ z → n ∉ c → False) →
      ∃ out, (∀ k, impll111_0 5000 rs (k + 1) c rest (acc, ()) ns 2 (idx : Int) = impll111_0 5000 rs k c rest (acc ++ out, ()) ns 2 ((idx + 1 : Nat) : Int)) ∧ 2 * out.length ≤ 2 ^ (rest.length / 2) ∧ (∀ r ∈ out, Fd c rest r) ∧ ∀ z, Tg L z c rest → n ∈ z → n ∉ c → nrm z ∈ out :=
    fun h1 h2 => ⟨[], fun k => by rw [List.append_nil]; exact h1 k, by simp, (fun r hr => by cases hr), fun z hz h3 h4 => (h2 z hz h3 h4).elim⟩
  cases b with
  | true =>
    refine nothing (fun k => ?_) (fun z _ _ h => h (hbm.1 rfl))
    rw [impll111_0, implb111_0, cdec, if_pos (by omega), if_pos ⟨by omega, by omega⟩, Int.toNat_natCast, hn, hb, obS, wrapS (by omega)]
    rfl
  | false =>
    have hnc : n ∉ c := fun e => by have := hbm.2 e; cases this
    by_cases hi0 : i = 0
    · subst hi0
      refine nothing (fun k => ?_) (fun z hz h3 h4 => ?_)
      · rw [impll111_0, implb111_0, cdec, if_pos (by omega), if_pos ⟨by omega, by omega⟩, Int.toNat_natCast, hn, hb, obS, wrapS (by omega)]
        rfl
      · have b1 := hz.v.lo h3
        rw [hz.fst, hz.lst] at b1
        have b2 := g2 0 (Nat.le_refl _) (by omega)
        have b3 : n ≠ c.getD 0 0 := fun e => hnc (e ▸ getD_mem 0 (by omega))
        rw [hg.fst] at b2 b3
        omega
    · by_cases hil : i = c.length
      · refine nothing (fun k => ?_) (fun z hz h3 h4 => ?_)
        · rw [impll111_0, implb111_0, cdec, if_pos (by omega), if_pos ⟨by omega, by omega⟩, Int.toNat_natCast, hn, hb, obS, wrapS (by omega), ibeq, ibeq]
          simp only [cond_false]
          rw [cdec, if_neg (by omega), cdec, if_pos (by omega)]
        · have b1 := hz.v.lo h3
          rw [hz.fst, hz.lst] at b1
          have b2 := g1 (c.length - 1) (by omega)
          rw [hg.lst] at b2
          omega
      · have hown := w111_2 rs c rest ns acc n (i : Int) 2 (idx : Int) h6 (fun x hx => by have := hcb x hx; omega)
        have hstep : ∀ k, impll111_0 5000 rs (k + 1) c rest (acc, ()) ns 2 (idx : Int) = ob (implf126 5000 rest (c.map (dis n))) fun y3 => (bif y3.2 then (ob (implf83 5000 c) fun y4 => (ob (implf86 5000 y4 (i : Int) ((List.replicate 1 0).set 0 n)) fun y5 => (ob (rs y5 y3.1 (acc, ())) fun y6 => (impll111_0 5000 rs k c rest (y6.1, ()) ns 2 ((idx + 1 : Nat) : Int))))) else (impll111_0 5000 rs k c rest (acc, ()) ns 2 ((idx + 1 : Nat) : Int))) := by
          intro k
          rw [impll111_0, implb111_0, cdec, if_pos (by omega), if_pos ⟨by omega, by omega⟩, Int.toNat_natCast, hn, hb, obS, wrapS (by omega), ibeq, ibeq]
          simp only [cond_false]
          rw [cdec, if_neg (by omega), cdec, if_neg (by omega), hown, obS]
        rcases w126 rest (c.map (dis n)) (by omega) (by simp; omega) with ⟨y, e, hy, hys⟩ | ⟨y, e, hy⟩
        · obtain ⟨hG, hpm, hDp⟩ := hg.put (by omega) (by omega) hnc g1 g2 hy hys
          have hyl := hy.length_eq
          rw [List.length_append, List.length_map] at hyl
          have hpow : 2 * 2 ^ (y.length / 2) ≤ 2 ^ (rest.length / 2) := by
            have : 2 * 2 ^ (y.length / 2) = 2 ^ (y.length / 2 + 1) := by rw [Nat.pow_succ, Nat.mul_comm]
            rw [this]
            exact Nat.pow_le_pow_right (by omega) (by omega)
          obtain ⟨out, o1, o2, o3, o4⟩ := hrs _ y acc hG (by omega) (by omega)
          refine ⟨out, fun k => ?_, by omega, fun r hr => ?_, fun z hz h3 h4 => o4 z ⟨hz.v, hz.fst, hz.lst, fun x hx => ?_, ?_⟩⟩
          · have h86 : implf86 5000 c (i : Int) [n] = some (c.take i ++ [n] ++ c.drop i) := by
              unfold implf86
              rw [if_pos ⟨by omega, by omega, by omega, rfl⟩, Int.toNat_natCast]
            rw [hstep k, e, obS, w83 c (by omega), obS, one1, h86, obS, o1, obS]
            rfl
          · obtain ⟨x, x1, x2, x3⟩ := o3 r hr
            refine ⟨x, x1, x2, x3.trans ((hDp.append_right y).trans ?_)⟩
            rw [List.append_assoc]
            exact (List.Perm.append_left _ hy).trans ((D_pos (srt_inc2 hg.inc)).symm.append_right _)
          · rcases List.mem_append.1 (hpm.mem_iff.1 hx) with hx | hx
            · exact hz.sub x hx
            · have : x = n := by simpa using hx
              rw [this]; exact h3
          · refine (hDp.append_right y).trans ?_
            rw [List.append_assoc]
            refine (List.Perm.append_left _ hy).trans ?_
            exact ((D_pos (srt_inc2 hg.inc)).symm.append_right _).trans hz.all
        · refine nothing (fun k => ?_) (fun z hz h3 h4 => hy (hz.own hg h3 h4))
          rw [hstep k, e, obS]
          rfl

theorem search2 (L : Int) : ∀ (k : Nat) (c rest : List Int) (acc : List (List Int)), Gd L c rest → rest.length < k → acc.length + 2 ^ (rest.length / 2) ≤ 1000 →
    ∃ out, implr111 5000 k c rest (acc, ()) = some (acc ++ out, ()) ∧ out.length ≤ 2 ^ (rest.length / 2) ∧ (∀ r ∈ out, Fd c rest r) ∧ ∀ z, Tg L z c rest → nrm z ∈ out
  | 0, c, rest, acc, _, h, _ => by omega
  | k + 1, c, rest, acc, hg, hk, hacc => by
    have hV := hg.v
    have h6 := hV.1.2
    have h2 := hg.two
    have hrl : rest.length ≤ 15 := by have := hg.sz; omega
    rw [implr111, implg111, ibeq, cdec]
    by_cases h0 : rest.length = 0
    · obtain rfl : rest = [] := List.length_eq_zero_iff.1 h0
      have hp : 2 ^ (([] : List Int).length / 2) = 1 := rfl
      rw [if_pos (by simp), w96 c acc hV (by omega), obS]
      refine ⟨[nrm c], rfl, by simp, fun r hr => ?_, fun z hz => ?_⟩
      · have : r = nrm c := by simpa using hr
        exact ⟨c, hV, this, by rw [List.append_nil]⟩
      · rw [hz.done hg]; simp
    · have hfm : rest.getD (rest.length - 1) 0 ∈ rest := getD_mem 0 (by omega)
      have hfb := hg.rb _ hfm
      have hL := hg.hL
      have hmax : ∀ y ∈ rest, y ≤ rest.getD (rest.length - 1) 0 := by
        intro y hy
        obtain ⟨t, ht, rfl⟩ := List.mem_iff_getElem.1 hy
        have gd : rest.getD (rest.length - 1) 0 = rest[rest.length - 1] := by simp [List.getD, show rest.length - 1 < rest.length by omega]
        rw [gd]
        by_cases e : t = rest.length - 1
        · subst e; exact Int.le_refl _
        · exact of_decide_eq_true (List.pairwise_iff_getElem.1 hg.srt t (rest.length - 1) ht (by omega) (by omega))
      generalize hfar : rest.getD (rest.length - 1) 0 = far at hfm hfb hmax
      have hns : ((List.replicate 2 (0 : Int)).set 0 far).set 1 (L - far) = [far, L - far] := rfl
      rw [if_neg (by omega), wrapP (by omega) (by omega), if_pos ⟨by omega, by omega⟩, wrapP (by omega) (by omega), if_pos ⟨by omega, by omega⟩, Int.toNat_natCast, Int.toNat_natCast, hfar, hg.lst, wrapI (by omega) (by omega), hns]
      have hRs : RsOk2 L (implr111 5000 k) rest.length := fun c' less acc' hG hl ha => search2 L k c' less acc' hG (by omega) ha
      have hE : 1 ≤ 2 ^ (rest.length / 2) := Nat.one_le_two_pow
      obtain ⟨o1, p1, q1, r1, s1⟩ := branch2 hg hRs [far, L - far] 0 (by omega) rfl far rfl (by omega) acc (by omega)
      obtain ⟨o2, p2, q2, r2, s2⟩ := branch2 hg hRs [far, L - far] 1 (by omega) rfl (L - far) rfl (by omega) (acc ++ o1) (by rw [List.length_append]; omega)
      have hrun : impll111_0 5000 (implr111 5000 k) 5000 c rest (acc, ()) [far, L - far] (Int.ofNat [far, L - far].length) 0 = some ((acc ++ o1 ++ o2, ()), 2, ()) := by
        have a1 := p1 4999
        have a2 := p2 4998
        have a3 : impll111_0 5000 (implr111 5000 k) (4997 + 1) c rest (acc ++ o1 ++ o2, ()) [far, L - far] 2 ((1 + 1 : Nat) : Int) = some ((acc ++ o1 ++ o2, ()), 2, ()) := by
          rw [impll111_0, implb111_0, cdec, if_neg (by omega)]; rfl
        exact a1.trans (a2.trans a3)
      rw [hrun, obS]
      refine ⟨o1 ++ o2, by rw [List.append_assoc], by rw [List.length_append]; omega, fun r hr => ?_, fun z hz => ?_⟩
      · rcases List.mem_append.1 hr with hr | hr
        · exact r1 r hr
        · exact r2 r hr
      · obtain ⟨p, hp1, hp2, hp3⟩ := hz.far hg hfm hmax
        rcases hp3 with rfl | rfl
        · exact List.mem_append.2 (.inl (s1 z hz hp1 hp2))
        · exact List.mem_append.2 (.inr (s2 z hz hp1 hp2))

theorem D_same {x y : List Int} (h : (D x).Perm (D y)) : D x = D y :=
  sorted_unique' leI_an h (isort_sorted leI_tr leI_to (rawD x)) (isort_sorted leI_tr leI_to (rawD y))
theorem one_D {c : List Int} (h : V c) (h0 : (D c).length = 0) : c.length = 1 := by
  have h2 := D_two c
  rw [h0] at h2
  have h6 := h.1
  have hn : c.length = 1 ∨ c.length = 2 ∨ c.length = 3 ∨ c.length = 4 ∨ c.length = 5 ∨ c.length = 6 := by omega
  rcases hn with e | e | e | e | e | e <;> rw [e] at h2 <;> omega
theorem zer_one {c : List Int} (h1 : c.length = 1) : zer c = [0] := by
  refine ext_getD (by rw [zer_len, h1]; rfl) fun i hi => ?_
  rw [zer_len] at hi
  obtain rfl : i = 0 := by omega
  rw [zer_get (by omega), Int.sub_self]; rfl
theorem D_last {c : List Int} (h : V c) (h0 : ¬ (D c).length = 0) : (D c).getD ((D c).length - 1) 0 = sp c ∧ 1 ≤ sp c := by
  obtain ⟨d1, d2⟩ := D_sp h
  have hm := getD_mem (l := D c) 0 (show (D c).length - 1 < (D c).length by omega)
  have b1 := d1 _ hm
  have hin := d2 (by omega)
  obtain ⟨t, ht, e⟩ := List.mem_iff_getElem.1 hin
  have gd : (D c).getD ((D c).length - 1) 0 = (D c)[(D c).length - 1]'(by omega) := by simp [List.getD, show (D c).length - 1 < (D c).length by omega]
  have hDs : (D c).Pairwise (fun a b => a ≤ b) := leI_sorted (rawD c)
  have hpw := List.pairwise_iff_getElem.1 hDs
  refine ⟨?_, by omega⟩
  by_cases e2 : t = (D c).length - 1
  · subst e2; rw [gd]; exact e
  · have h3 : (D c)[t] ≤ (D c)[(D c).length - 1]'(by omega) := hpw t ((D c).length - 1) ht (by omega) (by omega)
    rw [gd] at b1 ⊢
    omega
theorem sp_same {c z : List Int} (h : V c) (hz : V z) (e : D z = D c) : sp z = sp c := by
  by_cases h0 : (D c).length = 0
  · have h1 := one_D h h0
    have h2 := one_D hz (by rw [e]; exact h0)
    unfold sp
    rw [h1, h2, Nat.sub_self, Int.sub_self, Int.sub_self]
  · have a := (D_last h h0).1
    have b := (D_last hz (by rw [e]; exact h0)).1
    rw [← a, ← b, e]
theorem begin2 (c : List Int) (h : V c) : ∃ out, implf95 5000 (D c) ([], ()) = some (out, ()) ∧ out.length ≤ 1000 ∧ (∀ r ∈ out, ∃ x, V x ∧ r = nrm x ∧ D x = D c) ∧ ∀ z, V z → D z = D c → nrm z ∈ out := by
  have hp := h.pos
  have hl := D_small h
  have hs := sp_b h
  obtain ⟨d1, d2⟩ := D_sp h
  unfold implf95
  rw [ibeq, cdec]
  by_cases h0 : (D c).length = 0
  · have hz := zer_one (one_D h h0)
    have hV0 : V [0] := hz ▸ h.zer
    have hD0 : D [0] = D c := by rw [← hz]; exact D_zer h
    rw [if_pos (by omega), one1, w96 [0] [] hV0 (by simp), obS]
    refine ⟨[nrm [0]], rfl, by simp, fun r hr => ⟨[0], hV0, by simpa using hr, hD0⟩, fun z hz1 hz2 => ?_⟩
    rw [← nrm_zer hz1.pos, zer_one (one_D hz1 (by rw [hz2]; exact h0))]; simp
  · obtain ⟨hlast, hpos⟩ := D_last h h0
    have hsp2 : ((List.replicate 2 (0 : Int)).set 0 0).set 1 (sp c) = [0, sp c] := rfl
    rw [if_neg (by omega), wrapP (by omega) (by omega), if_pos ⟨by omega, by omega⟩, if_pos ⟨by omega, by omega, by omega⟩, Int.toNat_natCast, hlast, hsp2]
    have hD2 : D [0, sp c] = [sp c] := by
      show isort leI [sp c - 0] = [sp c]
      rw [Int.sub_zero]; rfl
    have hrest : ((D c).take ((D c).length - 1)) ++ [sp c] = D c := by
      have e := take_getD (w := D c) 0 (show (D c).length - 1 < (D c).length by omega)
      rw [hlast, show (D c).length - 1 + 1 = (D c).length by omega, List.take_length] at e
      exact e.symm
    have hall : (D [0, sp c] ++ (D c).take ((D c).length - 1)).Perm (D c) := by
      rw [hD2]
      have e : ([sp c] ++ (D c).take ((D c).length - 1)).Perm (((D c).take ((D c).length - 1)) ++ [sp c]) := List.perm_append_comm
      rwa [hrest] at e
    have hsrt : Srt ((D c).take ((D c).length - 1)) := List.Pairwise.sublist (List.take_sublist _ _) (isort_sorted leI_tr leI_to (rawD c))
    have hG : Gd (sp c) [0, sp c] ((D c).take ((D c).length - 1)) := by
      refine ⟨fun i j hij hj => ?_, by simp, rfl, rfl, ⟨hpos, hs.2⟩, hsrt, fun y hy => ?_, ?_⟩
      · have hj : j < 2 := hj
        obtain rfl : i = 0 := by omega
        obtain rfl : j = 1 := by omega
        show (0 : Int) < sp c
        omega
      · have := d1 y (List.mem_of_mem_take hy)
        omega
      · rw [hD2, List.length_take]
        simp only [List.length_singleton]
        omega
    have hT : ∀ z, V z → D z = D c → Tg (sp c) (zer z) [0, sp c] ((D c).take ((D c).length - 1)) := by
      intro z hz e
      have hpz := hz.pos
      have hzl : (zer z).getD ((zer z).length - 1) 0 = sp c := by
        rw [zer_len, zer_get (show z.length - 1 < z.length by omega)]; exact sp_same h hz e
      have hz0 : (zer z).getD 0 0 = 0 := by rw [zer_get hpz, Int.sub_self]
      refine ⟨hz.zer, hz0, hzl, fun x hx => ?_, by rw [D_zer hz, e]; exact hall⟩
      have hx : x = 0 ∨ x = sp c := by simpa using hx
      rcases hx with rfl | rfl
      · have := getD_mem (l := zer z) 0 (show 0 < (zer z).length by rw [zer_len]; exact hpz)
        rwa [hz0] at this
      · have := getD_mem (l := zer z) 0 (show (zer z).length - 1 < (zer z).length by rw [zer_len]; omega)
        rwa [hzl] at this
    have htl : ((D c).take ((D c).length - 1)).length ≤ 14 := by rw [List.length_take]; omega
    have hpw : 2 ^ (((D c).take ((D c).length - 1)).length / 2) ≤ 2 ^ 7 := Nat.pow_le_pow_right (by omega) (by omega)
    obtain ⟨out, o1, o2, o3, o4⟩ := search2 (sp c) 5000 [0, sp c] ((D c).take ((D c).length - 1)) [] hG (by omega) (by simp only [List.length_nil]; omega)
    have o1 : implf111 5000 [0, sp c] ((D c).take ((D c).length - 1)) ([], ()) = some ([] ++ out, ()) := o1
    rw [o1, obS]
    refine ⟨out, rfl, by omega, fun r hr => ?_, fun z hz e => ?_⟩
    · obtain ⟨x, x1, x2, x3⟩ := o3 r hr
      exact ⟨x, x1, x2, D_same (x3.trans hall)⟩
    · have := o4 _ (hT z hz e)
      rwa [nrm_zer hz.pos] at this
theorem cmpGoL_props : ∀ (l : List (List Int)) (p : List Int), (p :: l).Pairwise (fun a b => leL a b = true) → (cmpGoL p l).Nodup ∧ p ∉ cmpGoL p l
  | [], p, _ => by simp [cmpGoL]
  | y :: r, p, h => by
    obtain ⟨h1, h2⟩ := List.pairwise_cons.1 h
    rw [cmpGoL]
    by_cases e : y = p
    · subst e
      rw [if_pos rfl]
      exact cmpGoL_props r y h2
    · rw [if_neg e]
      obtain ⟨g1, g2⟩ := cmpGoL_props r y h2
      refine ⟨List.nodup_cons.2 ⟨g2, g1⟩, fun hp => ?_⟩
      rcases List.mem_cons.1 hp with rfl | hp
      · exact e rfl
      · have hpr := (cmpGoL_sub r y).subset hp
        exact e (leL_an _ _ ((List.pairwise_cons.1 h2).1 p hpr) (h1 y (by simp)))
theorem compactL_nodup {l : List (List Int)} (h : l.Pairwise fun a b => leL a b = true) : (compactL l).Nodup := by
  cases l with
  | nil => simp [compactL]
  | cons p r =>
    obtain ⟨g1, g2⟩ := cmpGoL_props r p h
    rw [compactL]
    exact List.nodup_cons.2 ⟨g2, g1⟩
/-- All cliffs with these delays: right, normal, no one twice. -/
theorem all2 (c : List Int) (h : V c) : ∃ all, implf37 5000 (D c) = some (all, 0) ∧ implf75 5000 (D c) = some all ∧ all.length ≤ 1000 ∧ all.Nodup ∧ (∀ r ∈ all, ∃ x, V x ∧ r = nrm x ∧ D x = D c) ∧ (∀ z, V z → D z = D c → nrm z ∈ all) ∧ ∃ out, implf95 5000 (D c) ([], ()) = some (out, ()) ∧ 0 < out.length := by
  have hl := D_small h
  obtain ⟨out, o1, o2, o3, o4⟩ := begin2 c h
  have hp := isort_perm (le := leL) out
  have hsix : ∀ r ∈ out, r.length ≤ 6 := fun r hr => by obtain ⟨x, x1, rfl, _⟩ := o3 r hr; rw [nrm_len]; exact x1.1.2
  have h97 : implf97 5000 out = some (isort leL out) := by
    unfold implf97
    rw [if_pos ⟨o2, fun x hx => by have := hsix x hx; omega⟩]
  have h98 : implf98 5000 (isort leL out) = some (compactL (isort leL out)) := by
    unfold implf98
    rw [if_pos ⟨by rw [hp.length_eq]; exact o2, fun x hx => by have := hsix x (hp.mem_iff.1 hx); omega⟩]
  refine ⟨compactL (isort leL out), ?_, ?_, ?_, compactL_nodup (isort_sorted leL_tr leL_to out), fun r hr => o3 r (hp.mem_iff.1 ((compactL_sub _).subset hr)), fun z hz e => compactL_mem (hp.mem_iff.2 (o4 z hz e)), out, o1, ?_⟩
  · unfold implf37
    rw [w72 _ (by omega), obS, dErr_D h, ibne, cnot, cdec, if_pos rfl, o1, obS, h97, obS, h98, obS]
  · unfold implf75
    rw [o1, obS, h97, obS, h98, obS]
  · have := (compactL_sub (isort leL out)).length_le
    rw [hp.length_eq] at this
    omega
  · exact List.length_pos_of_mem (o4 c h rfl)
end Go.Proofs.Ytdgibokmaannjaa
