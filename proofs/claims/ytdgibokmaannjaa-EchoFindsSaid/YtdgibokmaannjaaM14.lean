/- The search tells nothing else, and nothing twice. -/
import Derived.Test.YtdgibokmaannjaaM13
set_option linter.unusedVariables false
set_option linter.unusedSimpArgs false
namespace Go.Proofs.Ytdgibokmaannjaa
open Go Go.Pv Classical

/-- What the search tells out of a state. -/
def Fd (c rest r : List Int) : Prop := ∃ x, V x ∧ r = nrm x ∧ (D x).Perm (D c ++ rest)
/-- What is asked of the search further on. -/
def RsOk2 (L : Int) (rs : List Int → List Int → Acc → Option Acc) (R : Nat) : Prop :=
  ∀ c less acc, Gd L c less → less.length + 2 ≤ R → acc.length + 2 ^ (less.length / 2) ≤ 1000 →
    ∃ out, rs c less (acc, ()) = some (acc ++ out, ()) ∧ out.length ≤ 2 ^ (less.length / 2) ∧ (∀ r ∈ out, Fd c less r) ∧ ∀ z, Tg L z c less → nrm z ∈ out
theorem branch2 {L : Int} {rs : List Int → List Int → Acc → Option Acc} {c rest : List Int} (hg : Gd L c rest) (hrs : RsOk2 L rs rest.length) (ns : List Int) (idx : Nat) (hi2 : idx < 2) (hns : ns.length = 2) (n : Int) (hn : ns.getD idx 0 = n)
    (hnb : -100 ≤ n ∧ n ≤ 100) (acc : List (List Int)) (hacc : 2 * acc.length + 2 ^ (rest.length / 2) ≤ 2000) :
    ∃ out, (∀ k, impll111_0 5000 rs (k + 1) c rest (acc, ()) ns 2 (idx : Int) = impll111_0 5000 rs k c rest (acc ++ out, ()) ns 2 ((idx + 1 : Nat) : Int)) ∧ 2 * out.length ≤ 2 ^ (rest.length / 2) ∧ (∀ r ∈ out, Fd c rest r) ∧ ∀ z, Tg L z c rest → n ∈ z → n ∉ c → nrm z ∈ out := by
  have hV := hg.v
  have h6 := hV.1.2
  have hrl : rest.length ≤ 15 := by have := hg.sz; omega
  have h2 := hg.two
  have hcb : ∀ x ∈ c, 0 ≤ x ∧ x ≤ 60 := fun x hx => by
    have := inc2_lo hg.inc hx
    rw [hg.fst, hg.lst] at this
    have := hg.hL
    omega
  obtain ⟨i, b, hb, hi, hbm, g1, g2⟩ := w84 c n h6 hg.inc
  have nothing : (∀ k, impll111_0 5000 rs (k + 1) c rest (acc, ()) ns 2 (idx : Int) = impll111_0 5000 rs k c rest (acc, ()) ns 2 ((idx + 1 : Nat) : Int)) → (∀ z, Tg L z c rest → n ∈ z → n ∉ c → False) →
      ∃ out, (∀ k, impll111_0 5000 rs (k + 1) c rest (acc, ()) ns 2 (idx : Int) = impll111_0 5000 rs k c rest (acc ++ out, ()) ns 2 ((idx + 1 : Nat) : Int)) ∧ 2 * out.length ≤ 2 ^ (rest.length / 2) ∧ (∀ r ∈ out, Fd c rest r) ∧ ∀ z, Tg L z c rest → n ∈ z → n ∉ c → nrm z ∈ out :=
    fun h1 h2 => ⟨[], fun k => by rw [List.append_nil]; exact h1 k, by simp, (fun r hr => by cases hr), fun z hz h3 h4 => (h2 z hz h3 h4).elim⟩
  cases b with
  | true =>
    refine nothing (fun k => ?_) (fun z _ _ h => h (hbm.1 rfl))
    rw [impll111_0, implb111_0, cdec, if_pos (by omega), if_pos ⟨by omega, by omega⟩, Int.toNat_natCast, hn, hb, obS, wrapS (by omega)]
    rfl
  | false =>
    have hnc : n ∉ c := fun e => by have := hbm.2 e; cases this
    by_cases hi0 : i = 0
    · subst hi0
      refine nothing (fun k => ?_) (fun z hz h3 h4 => ?_)
      · rw [impll111_0, implb111_0, cdec, if_pos (by omega), if_pos ⟨by omega, by omega⟩, Int.toNat_natCast, hn, hb, obS, wrapS (by omega)]
        rfl
      · have b1 := hz.v.lo h3
        rw [hz.fst, hz.lst] at b1
        have b2 := g2 0 (Nat.le_refl _) (by omega)
        have b3 : n ≠ c.getD 0 0 := fun e => hnc (e ▸ getD_mem 0 (by omega))
        rw [hg.fst] at b2 b3
        omega
    · by_cases hil : i = c.length
      · refine nothing (fun k => ?_) (fun z hz h3 h4 => ?_)
        · rw [impll111_0, implb111_0, cdec, if_pos (by omega), if_pos ⟨by omega, by omega⟩, Int.toNat_natCast, hn, hb, obS, wrapS (by omega), ibeq, ibeq]
          simp only [cond_false]
          rw [cdec, if_neg (by omega), cdec, if_pos (by omega)]
        · have b1 := hz.v.lo h3
          rw [hz.fst, hz.lst] at b1
          have b2 := g1 (c.length - 1) (by omega)
          rw [hg.lst] at b2
          omega
      · have hown := w111_2 rs c rest ns acc n (i : Int) 2 (idx : Int) h6 (fun x hx => by have := hcb x hx; omega)
        have hstep : ∀ k, impll111_0 5000 rs (k + 1) c rest (acc, ()) ns 2 (idx : Int) = ob (implf126 5000 rest (c.map (dis n))) fun y3 => (bif y3.2 then (ob (implf83 5000 c) fun y4 => (ob (implf86 5000 y4 (i : Int) ((List.replicate 1 0).set 0 n)) fun y5 => (ob (rs y5 y3.1 (acc, ())) fun y6 => (impll111_0 5000 rs k c rest (y6.1, ()) ns 2 ((idx + 1 : Nat) : Int))))) else (impll111_0 5000 rs k c rest (acc, ()) ns 2 ((idx + 1 : Nat) : Int))) := by
          intro k
          rw [impll111_0, implb111_0, cdec, if_pos (by omega), if_pos ⟨by omega, by omega⟩, Int.toNat_natCast, hn, hb, obS, wrapS (by omega), ibeq, ibeq]
          simp only [cond_false]
          rw [cdec, if_neg (by omega), cdec, if_neg (by omega), hown, obS]
        rcases w126 rest (c.map (dis n)) (by omega) (by simp; omega) with ⟨y, e, hy, hys⟩ | ⟨y, e, hy⟩
        · obtain ⟨hG, hpm, hDp⟩ := hg.put (by omega) (by omega) hnc g1 g2 hy hys
          have hyl := hy.length_eq
          rw [List.length_append, List.length_map] at hyl
          have hpow : 2 * 2 ^ (y.length / 2) ≤ 2 ^ (rest.length / 2) := by
            have : 2 * 2 ^ (y.length / 2) = 2 ^ (y.length / 2 + 1) := by rw [Nat.pow_succ, Nat.mul_comm]
            rw [this]
            exact Nat.pow_le_pow_right (by omega) (by omega)
          obtain ⟨out, o1, o2, o3, o4⟩ := hrs _ y acc hG (by omega) (by omega)
          refine ⟨out, fun k => ?_, by omega, fun r hr => ?_, fun z hz h3 h4 => o4 z ⟨hz.v, hz.fst, hz.lst, fun x hx => ?_, ?_⟩⟩
          · have h86 : implf86 5000 c (i : Int) [n] = some (c.take i ++ [n] ++ c.drop i) := by
              unfold implf86
              rw [if_pos ⟨by omega, by omega, by omega, rfl⟩, Int.toNat_natCast]
            rw [hstep k, e, obS, w83 c (by omega), obS, one1, h86, obS, o1, obS]
            rfl
          · obtain ⟨x, x1, x2, x3⟩ := o3 r hr
            refine ⟨x, x1, x2, x3.trans ((hDp.append_right y).trans ?_)⟩
            rw [List.append_assoc]
            exact (List.Perm.append_left _ hy).trans ((D_pos (srt_inc2 hg.inc)).symm.append_right _)
          · rcases List.mem_append.1 (hpm.mem_iff.1 hx) with hx | hx
            · exact hz.sub x hx
            · have : x = n := by simpa using hx
              rw [this]; exact h3
          · refine (hDp.append_right y).trans ?_
            rw [List.append_assoc]
            refine (List.Perm.append_left _ hy).trans ?_
            exact ((D_pos (srt_inc2 hg.inc)).symm.append_right _).trans hz.all
        · refine nothing (fun k => ?_) (fun z hz h3 h4 => hy (hz.own hg h3 h4))
          rw [hstep k, e, obS]
          rfl

theorem search2 (L : Int) : ∀ (k : Nat) (c rest : List Int) (acc : List (List Int)), Gd L c rest → rest.length < k → acc.length + 2 ^ (rest.length / 2) ≤ 1000 →
    ∃ out, implr111 5000 k c rest (acc, ()) = some (acc ++ out, ()) ∧ out.length ≤ 2 ^ (rest.length / 2) ∧ (∀ r ∈ out, Fd c rest r) ∧ ∀ z, Tg L z c rest → nrm z ∈ out
  | 0, c, rest, acc, _, h, _ => by omega
  | k + 1, c, rest, acc, hg, hk, hacc => by
    have hV := hg.v
    have h6 := hV.1.2
    have h2 := hg.two
    have hrl : rest.length ≤ 15 := by have := hg.sz; omega
    rw [implr111, implg111, ibeq, cdec]
    by_cases h0 : rest.length = 0
    · obtain rfl : rest = [] := List.length_eq_zero_iff.1 h0
      have hp : 2 ^ (([] : List Int).length / 2) = 1 := rfl
      rw [if_pos (by simp), w96 c acc hV (by omega), obS]
      refine ⟨[nrm c], rfl, by simp, fun r hr => ?_, fun z hz => ?_⟩
      · have : r = nrm c := by simpa using hr
        exact ⟨c, hV, this, by rw [List.append_nil]⟩
      · rw [hz.done hg]; simp
    · have hfm : rest.getD (rest.length - 1) 0 ∈ rest := getD_mem 0 (by omega)
      have hfb := hg.rb _ hfm
      have hL := hg.hL
      have hmax : ∀ y ∈ rest, y ≤ rest.getD (rest.length - 1) 0 := by
        intro y hy
        obtain ⟨t, ht, rfl⟩ := List.mem_iff_getElem.1 hy
        have gd : rest.getD (rest.length - 1) 0 = rest[rest.length - 1] := by simp [List.getD, show rest.length - 1 < rest.length by omega]
        rw [gd]
        by_cases e : t = rest.length - 1
        · subst e; exact Int.le_refl _
        · exact of_decide_eq_true (List.pairwise_iff_getElem.1 hg.srt t (rest.length - 1) ht (by omega) (by omega))
      generalize hfar : rest.getD (rest.length - 1) 0 = far at hfm hfb hmax
      have hns : ((List.replicate 2 (0 : Int)).set 0 far).set 1 (L - far) = [far, L - far] := rfl
      rw [if_neg (by omega), wrapP (by omega) (by omega), if_pos ⟨by omega, by omega⟩, wrapP (by omega) (by omega), if_pos ⟨by omega, by omega⟩, Int.toNat_natCast, Int.toNat_natCast, hfar, hg.lst, wrapI (by omega) (by omega), hns]
      have hRs : RsOk2 L (implr111 5000 k) rest.length := fun c' less acc' hG hl ha => search2 L k c' less acc' hG (by omega) ha
      have hE : 1 ≤ 2 ^ (rest.length / 2) := Nat.one_le_two_pow
      obtain ⟨o1, p1, q1, r1, s1⟩ := branch2 hg hRs [far, L - far] 0 (by omega) rfl far rfl (by omega) acc (by omega)
      obtain ⟨o2, p2, q2, r2, s2⟩ := branch2 hg hRs [far, L - far] 1 (by omega) rfl (L - far) rfl (by omega) (acc ++ o1) (by rw [List.length_append]; omega)
      have hrun : impll111_0 5000 (implr111 5000 k) 5000 c rest (acc, ()) [far, L - far] (Int.ofNat [far, L - far].length) 0 = some ((acc ++ o1 ++ o2, ()), 2, ()) := by
        have a1 := p1 4999
        have a2 := p2 4998
        have a3 : impll111_0 5000 (implr111 5000 k) (4997 + 1) c rest (acc ++ o1 ++ o2, ()) [far, L - far] 2 ((1 + 1 : Nat) : Int) = some ((acc ++ o1 ++ o2, ()), 2, ()) := by
          rw [impll111_0, implb111_0, cdec, if_neg (by omega)]; rfl
        exact a1.trans (a2.trans a3)
      rw [hrun, obS]
      refine ⟨o1 ++ o2, by rw [List.append_assoc], by rw [List.length_append]; omega, fun r hr => ?_, fun z hz => ?_⟩
      · rcases List.mem_append.1 hr with hr | hr
        · exact r1 r hr
        · exact r2 r hr
      · obtain ⟨p, hp1, hp2, hp3⟩ := hz.far hg hfm hmax
        rcases hp3 with rfl | rfl
        · exact List.mem_append.2 (.inl (s1 z hz hp1 hp2))
        · exact List.mem_append.2 (.inr (s2 z hz hp1 hp2))

theorem one_D {c : List Int} (h : V c) (h0 : (D c).length = 0) : c.length = 1 := by
  have h2 := D_two c
  rw [h0] at h2
  have h6 := h.1
  have hn : c.length = 1 ∨ c.length = 2 ∨ c.length = 3 ∨ c.length = 4 ∨ c.length = 5 ∨ c.length = 6 := by omega
  rcases hn with e | e | e | e | e | e <;> rw [e] at h2 <;> omega
theorem zer_one {c : List Int} (h1 : c.length = 1) : zer c = [0] := by
  refine ext_getD (by rw [zer_len, h1]; rfl) fun i hi => ?_
  rw [zer_len] at hi
  obtain rfl : i = 0 := by omega
  rw [zer_get (by omega), Int.sub_self]; rfl
theorem D_last {c : List Int} (h : V c) (h0 : ¬ (D c).length = 0) : (D c).getD ((D c).length - 1) 0 = sp c ∧ 1 ≤ sp c := by
  obtain ⟨d1, d2⟩ := D_sp h
  have hm := getD_mem (l := D c) 0 (show (D c).length - 1 < (D c).length by omega)
  have b1 := d1 _ hm
  have hin := d2 (by omega)
  obtain ⟨t, ht, e⟩ := List.mem_iff_getElem.1 hin
  have gd : (D c).getD ((D c).length - 1) 0 = (D c)[(D c).length - 1]'(by omega) := by simp [List.getD, show (D c).length - 1 < (D c).length by omega]
  have hDs : (D c).Pairwise (fun a b => a ≤ b) := leI_sorted (rawD c)
  have hpw := List.pairwise_iff_getElem.1 hDs
  refine ⟨?_, by omega⟩
  by_cases e2 : t = (D c).length - 1
  · subst e2; rw [gd]; exact e
  · have h3 : (D c)[t] ≤ (D c)[(D c).length - 1]'(by omega) := hpw t ((D c).length - 1) ht (by omega) (by omega)
    rw [gd] at b1 ⊢
    omega
theorem cmpGoL_props : ∀ (l : List (List Int)) (p : List Int), (p :: l).Pairwise (fun a b => leL a b = true) → (cmpGoL p l).Nodup ∧ p ∉ cmpGoL p l
  | [], p, _ => by simp [cmpGoL]
  | y :: r, p, h => by
    obtain ⟨h1, h2⟩ := List.pairwise_cons.1 h
    rw [cmpGoL]
    by_cases e : y = p
    · subst e
      rw [if_pos rfl]
      exact cmpGoL_props r y h2
    · rw [if_neg e]
      obtain ⟨g1, g2⟩ := cmpGoL_props r y h2
      refine ⟨List.nodup_cons.2 ⟨g2, g1⟩, fun hp => ?_⟩
      rcases List.mem_cons.1 hp with rfl | hp
      · exact e rfl
      · have hpr := (cmpGoL_sub r y).subset hp
        exact e (leL_an _ _ ((List.pairwise_cons.1 h2).1 p hpr) (h1 y (by simp)))
theorem compactL_nodup {l : List (List Int)} (h : l.Pairwise fun a b => leL a b = true) : (compactL l).Nodup := by
  cases l with
  | nil => simp [compactL]
  | cons p r =>
    obtain ⟨g1, g2⟩ := cmpGoL_props r p h
    rw [compactL]
    exact List.nodup_cons.2 ⟨g2, g1⟩
end Go.Proofs.Ytdgibokmaannjaa
