/- The search for cliffs is complete. -/
import Derived.Test.YtdgibokmaannjaaM11
set_option linter.unusedVariables false
set_option linter.unusedSimpArgs false
namespace Go.Proofs.Ytdgibokmaannjaa
open Go Go.Pv Classical

theorem w111_2 (rs : List Int → List Int → Acc → Option Acc) (c rest ns : List Int) (acc : List (List Int)) (n y1 x5 x6 : Int) (hc : c.length ≤ 6) (hb : ∀ x ∈ c, -1000 ≤ n - x ∧ n - x ≤ 1000) :
    impll111_2 5000 rs 5000 c rest (acc, ()) n y1 [] ns x5 x6 c (c.length : Int) 0 = some ((acc, ()), c.map (dis n), (c.length : Int), ()) := by
  have h := upto (fun k (s : List Int × Nat) => impll111_2 5000 rs k c rest (acc, ()) n y1 s.1 ns x5 x6 c (c.length : Int) (s.2 : Int)) (fun j => ((c.take j).map (dis n), j)) c.length ((acc, ()), c.map (dis n), (c.length : Int), ())
    (fun k j hj => by
      show impll111_2 5000 rs (k + 1) c rest (acc, ()) n y1 ((c.take j).map (dis n)) ns x5 x6 c (c.length : Int) (j : Int) = _
      have hb2 := hb _ (getD_mem 0 hj)
      have hd : max (IntKind.i64.wrap (n - c.getD j 0)) (IntKind.i64.wrap (c.getD j 0 - n)) = dis n (c.getD j 0) := by
        rw [wrapI (by omega) (by omega), wrapI (by omega) (by omega)]
        unfold dis
        omega
      rw [impll111_2, implb111_2, cdec, if_pos (by omega), if_pos ⟨by omega, by omega⟩, if_pos (by simp; omega), Int.toNat_natCast, hd, one1, wrapS (by omega), map_snoc 0 (dis n) hj])
    (fun k => by
      show impll111_2 5000 rs (k + 1) c rest (acc, ()) n y1 ((c.take c.length).map (dis n)) ns x5 x6 c (c.length : Int) (c.length : Int) = _
      rw [impll111_2, implb111_2, cdec, if_neg (by omega), List.take_length]) 5000 0 (by omega) (Nat.zero_le _)
  exact h

/-- What is asked of the search further on. -/
def RsOk (L : Int) (rs : List Int → List Int → Acc → Option Acc) (R : Nat) : Prop :=
  ∀ c less acc, Gd L c less → less.length + 2 ≤ R → acc.length + 2 ^ (less.length / 2) ≤ 1000 →
    ∃ out, rs c less (acc, ()) = some (acc ++ out, ()) ∧ out.length ≤ 2 ^ (less.length / 2) ∧ (∀ r ∈ out, r.length ≤ 6) ∧ ∀ z, Tg L z c less → nrm z ∈ out
theorem pw_inc2 {c : List Int} (h : c.Pairwise fun a b => a < b) : inc2 c := by
  intro i j hij hj
  have := List.pairwise_iff_getElem.1 h i j (by omega) hj hij
  simpa [List.getD, hj, show i < c.length by omega] using this
/-- A place is set in. -/
theorem Gd.put {L : Int} {c rest y : List Int} {n : Int} {i : Nat} (hg : Gd L c rest) (hi0 : 0 < i) (hi : i < c.length) (hn : n ∉ c) (h1 : ∀ t, t < i → c.getD t 0 < n) (h2 : ∀ t, i ≤ t → t < c.length → ¬ c.getD t 0 < n)
    (hy : (c.map (dis n) ++ y).Perm rest) (hys : y.Sublist rest) : Gd L (c.take i ++ [n] ++ c.drop i) y ∧ (c.take i ++ [n] ++ c.drop i).Perm (c ++ [n]) ∧ (D (c.take i ++ [n] ++ c.drop i)).Perm (posD c ++ c.map (dis n)) := by
  have hci := srt_inc2 hg.inc
  have hpm : (c.take i ++ [n] ++ c.drop i).Perm (c ++ [n]) := by
    rw [List.append_assoc]
    show (c.take i ++ n :: c.drop i).Perm _
    refine List.perm_middle.trans ?_
    rw [List.take_append_drop]
    exact (List.perm_append_comm (l₁ := [n]))
  have hpw : (c.take i ++ [n] ++ c.drop i).Pairwise fun a b => a < b := by
    have ht : ∀ a ∈ c.take i, a < n := by
      intro a ha
      obtain ⟨t, ht, rfl⟩ := List.mem_iff_getElem.1 ha
      have hti : t < i := by rw [List.length_take] at ht; omega
      have := h1 t hti
      rw [List.getElem_take]
      simpa [List.getD, show t < c.length by omega] using this
    have hd : ∀ a ∈ c.drop i, n < a := by
      intro a ha
      have hac : a ∈ c := List.mem_of_mem_drop ha
      have hne : a ≠ n := fun e => hn (e ▸ hac)
      obtain ⟨t, ht, rfl⟩ := List.mem_iff_getElem.1 ha
      rw [List.length_drop] at ht
      have := h2 (i + t) (by omega) (by omega)
      rw [List.getElem_drop] at hne ⊢
      have e : c.getD (i + t) 0 = c[i + t] := by simp [List.getD, show i + t < c.length by omega]
      omega
    have hsp : (c.take i ++ c.drop i).Pairwise fun a b => a < b := by rw [List.take_append_drop]; exact hci
    obtain ⟨s1, s2, s3⟩ := List.pairwise_append.1 hsp
    rw [List.append_assoc]
    refine List.pairwise_append.2 ⟨s1, List.pairwise_cons.2 ⟨hd, s2⟩, fun a ha b hb => ?_⟩
    rcases List.mem_cons.1 hb with rfl | hb
    · exact ht a ha
    · exact s3 a ha b hb
  have hD : (D (c.take i ++ [n] ++ c.drop i)).Perm (posD c ++ c.map (dis n)) := (D_pos hpw).trans ((posD_perm (prs_perm hpm)).trans (posD_snoc c n hn))
  have hin2 := pw_inc2 hpw
  have hlen : (c.take i ++ [n] ++ c.drop i).length = c.length + 1 := by rw [hpm.length_eq]; simp
  have hb : ∀ x ∈ c.take i ++ [n] ++ c.drop i, 0 ≤ x ∧ x ≤ L := by
    intro x hx
    rcases List.mem_append.1 (hpm.mem_iff.1 hx) with hx | hx
    · have := inc2_lo hg.inc hx
      rw [hg.fst, hg.lst] at this; exact this
    · have hx : x = n := by simpa using hx
      have g1 := h1 0 hi0
      have g2 := h2 i (Nat.le_refl _) hi
      have g3 := inc2_lo hg.inc (getD_mem 0 hi)
      rw [hg.fst] at g1
      rw [hg.fst, hg.lst] at g3
      omega
  have hm0 : (0 : Int) ∈ c.take i ++ [n] ++ c.drop i := hpm.mem_iff.2 (List.mem_append.2 (.inl (by have := getD_mem 0 (show 0 < c.length by omega); rwa [hg.fst] at this)))
  have hmL : L ∈ c.take i ++ [n] ++ c.drop i := hpm.mem_iff.2 (List.mem_append.2 (.inl (by have := getD_mem 0 (show c.length - 1 < c.length by omega); rwa [hg.lst] at this)))
  have e0 := inc2_lo hin2 hm0
  have eL := inc2_lo hin2 hmL
  have f0 := hb _ (getD_mem 0 (show 0 < (c.take i ++ [n] ++ c.drop i).length by omega))
  have fL := hb _ (getD_mem 0 (show (c.take i ++ [n] ++ c.drop i).length - 1 < (c.take i ++ [n] ++ c.drop i).length by omega))
  have hDl := hD.length_eq
  have hrl := hy.length_eq
  rw [List.length_append, List.length_map] at hDl hrl
  have hDc := (D_pos hci).length_eq
  have hsz := hg.sz
  exact ⟨⟨hin2, by have := hg.two; omega, by omega, by omega, hg.hL, List.Pairwise.sublist hys hg.srt, fun x hx => hg.rb x (hys.subset hx), by omega⟩, hpm, hD⟩

theorem branch {L : Int} {rs : List Int → List Int → Acc → Option Acc} {c rest : List Int} (hg : Gd L c rest) (hrs : RsOk L rs rest.length) (ns : List Int) (idx : Nat) (hi2 : idx < 2) (hns : ns.length = 2) (n : Int) (hn : ns.getD idx 0 = n)
    (hnb : -100 ≤ n ∧ n ≤ 100) (acc : List (List Int)) (hacc : 2 * acc.length + 2 ^ (rest.length / 2) ≤ 2000) :
    ∃ out, (∀ k, impll111_0 5000 rs (k + 1) c rest (acc, ()) ns 2 (idx : Int) = impll111_0 5000 rs k c rest (acc ++ out, ()) ns 2 ((idx + 1 : Nat) : Int)) ∧ 2 * out.length ≤ 2 ^ (rest.length / 2) ∧ (∀ r ∈ out, r.length ≤ 6) ∧ ∀ z, Tg L z c rest → n ∈ z → n ∉ c → nrm z ∈ out := by
  have hV := hg.v
  have h6 := hV.1.2
  have hrl : rest.length ≤ 15 := by have := hg.sz; omega
  have h2 := hg.two
  have hcb : ∀ x ∈ c, 0 ≤ x ∧ x ≤ 60 := fun x hx => by
    have := inc2_lo hg.inc hx
    rw [hg.fst, hg.lst] at this
    have := hg.hL
    omega
  obtain ⟨i, b, hb, hi, hbm, g1, g2⟩ := w84 c n h6 hg.inc
  have nothing : (∀ k, impll111_0 5000 rs (k + 1) c rest (acc, ()) ns 2 (idx : Int) = impll111_0 5000 rs k c rest (acc, ()) ns 2 ((idx + 1 : Nat) : Int)) → (∀ z, Tg L z c rest → n ∈ z → n ∉ c → False) →
      ∃ out, (∀ k, impll111_0 5000 rs (k + 1) c rest (acc, ()) ns 2 (idx : Int) = impll111_0 5000 rs k c rest (acc ++ out, ()) ns 2 ((idx + 1 : Nat) : Int)) ∧ 2 * out.length ≤ 2 ^ (rest.length / 2) ∧ (∀ r ∈ out, r.length ≤ 6) ∧ ∀ z, Tg L z c rest → n ∈ z → n ∉ c → nrm z ∈ out :=
    fun h1 h2 => ⟨[], fun k => by rw [List.append_nil]; exact h1 k, by simp, (fun r hr => by cases hr), fun z hz h3 h4 => (h2 z hz h3 h4).elim⟩
  cases b with
  | true =>
    refine nothing (fun k => ?_) (fun z _ _ h => h (hbm.1 rfl))
    rw [impll111_0, implb111_0, cdec, if_pos (by omega), if_pos ⟨by omega, by omega⟩, Int.toNat_natCast, hn, hb, obS, wrapS (by omega)]
    rfl
  | false =>
    have hnc : n ∉ c := fun e => by have := hbm.2 e; cases this
    by_cases hi0 : i = 0
    · subst hi0
      refine nothing (fun k => ?_) (fun z hz h3 h4 => ?_)
      · rw [impll111_0, implb111_0, cdec, if_pos (by omega), if_pos ⟨by omega, by omega⟩, Int.toNat_natCast, hn, hb, obS, wrapS (by omega)]
        rfl
      · have b1 := hz.v.lo h3
        rw [hz.fst, hz.lst] at b1
        have b2 := g2 0 (Nat.le_refl _) (by omega)
        have b3 : n ≠ c.getD 0 0 := fun e => hnc (e ▸ getD_mem 0 (by omega))
        rw [hg.fst] at b2 b3
        omega
    · by_cases hil : i = c.length
      · refine nothing (fun k => ?_) (fun z hz h3 h4 => ?_)
        · rw [impll111_0, implb111_0, cdec, if_pos (by omega), if_pos ⟨by omega, by omega⟩, Int.toNat_natCast, hn, hb, obS, wrapS (by omega), ibeq, ibeq]
          simp only [cond_false]
          rw [cdec, if_neg (by omega), cdec, if_pos (by omega)]
        · have b1 := hz.v.lo h3
          rw [hz.fst, hz.lst] at b1
          have b2 := g1 (c.length - 1) (by omega)
          rw [hg.lst] at b2
          omega
      · have hown := w111_2 rs c rest ns acc n (i : Int) 2 (idx : Int) h6 (fun x hx => by have := hcb x hx; omega)
        have hstep : ∀ k, impll111_0 5000 rs (k + 1) c rest (acc, ()) ns 2 (idx : Int) = ob (implf126 5000 rest (c.map (dis n))) fun y3 => (bif y3.2 then (ob (implf83 5000 c) fun y4 => (ob (implf86 5000 y4 (i : Int) ((List.replicate 1 0).set 0 n)) fun y5 => (ob (rs y5 y3.1 (acc, ())) fun y6 => (impll111_0 5000 rs k c rest (y6.1, ()) ns 2 ((idx + 1 : Nat) : Int))))) else (impll111_0 5000 rs k c rest (acc, ()) ns 2 ((idx + 1 : Nat) : Int))) := by
          intro k
          rw [impll111_0, implb111_0, cdec, if_pos (by omega), if_pos ⟨by omega, by omega⟩, Int.toNat_natCast, hn, hb, obS, wrapS (by omega), ibeq, ibeq]
          simp only [cond_false]
          rw [cdec, if_neg (by omega), cdec, if_neg (by omega), hown, obS]
        rcases w126 rest (c.map (dis n)) (by omega) (by simp; omega) with ⟨y, e, hy, hys⟩ | ⟨y, e, hy⟩
        · obtain ⟨hG, hpm, hDp⟩ := hg.put (by omega) (by omega) hnc g1 g2 hy hys
          have hyl := hy.length_eq
          rw [List.length_append, List.length_map] at hyl
          have hpow : 2 * 2 ^ (y.length / 2) ≤ 2 ^ (rest.length / 2) := by
            have : 2 * 2 ^ (y.length / 2) = 2 ^ (y.length / 2 + 1) := by rw [Nat.pow_succ, Nat.mul_comm]
            rw [this]
            exact Nat.pow_le_pow_right (by omega) (by omega)
          obtain ⟨out, o1, o2, o3, o4⟩ := hrs _ y acc hG (by omega) (by omega)
          refine ⟨out, fun k => ?_, by omega, o3, fun z hz h3 h4 => o4 z ⟨hz.v, hz.fst, hz.lst, fun x hx => ?_, ?_⟩⟩
          · have h86 : implf86 5000 c (i : Int) [n] = some (c.take i ++ [n] ++ c.drop i) := by
              unfold implf86
              rw [if_pos ⟨by omega, by omega, by omega, rfl⟩, Int.toNat_natCast]
            rw [hstep k, e, obS, w83 c (by omega), obS, one1, h86, obS, o1, obS]
            rfl
          · rcases List.mem_append.1 (hpm.mem_iff.1 hx) with hx | hx
            · exact hz.sub x hx
            · have : x = n := by simpa using hx
              rw [this]; exact h3
          · refine (hDp.append_right y).trans ?_
            rw [List.append_assoc]
            refine (List.Perm.append_left _ hy).trans ?_
            exact ((D_pos (srt_inc2 hg.inc)).symm.append_right _).trans hz.all
        · refine nothing (fun k => ?_) (fun z hz h3 h4 => hy (hz.own hg h3 h4))
          rw [hstep k, e, obS]
          rfl

theorem one1L (v : List Int) : (List.replicate 1 ([] : List Int)).set 0 v = [v] := rfl
theorem w96 (c : List Int) (acc : List (List Int)) (h : V c) (ha : acc.length ≤ 1000) : implf96 5000 c acc = some (acc ++ [nrm c]) := by
  unfold implf96
  rw [w74 c h, obS, if_pos (by simp; omega), one1L]
theorem search (L : Int) : ∀ (k : Nat) (c rest : List Int) (acc : List (List Int)), Gd L c rest → rest.length < k → acc.length + 2 ^ (rest.length / 2) ≤ 1000 →
    ∃ out, implr111 5000 k c rest (acc, ()) = some (acc ++ out, ()) ∧ out.length ≤ 2 ^ (rest.length / 2) ∧ (∀ r ∈ out, r.length ≤ 6) ∧ ∀ z, Tg L z c rest → nrm z ∈ out
  | 0, c, rest, acc, _, h, _ => by omega
  | k + 1, c, rest, acc, hg, hk, hacc => by
    have hV := hg.v
    have h6 := hV.1.2
    have h2 := hg.two
    have hrl : rest.length ≤ 15 := by have := hg.sz; omega
    rw [implr111, implg111, ibeq, cdec]
    by_cases h0 : rest.length = 0
    · obtain rfl : rest = [] := List.length_eq_zero_iff.1 h0
      have hp : 2 ^ (([] : List Int).length / 2) = 1 := rfl
      rw [if_pos (by simp), w96 c acc hV (by omega), obS]
      refine ⟨[nrm c], rfl, by simp, fun r hr => ?_, fun z hz => ?_⟩
      · have : r = nrm c := by simpa using hr
        rw [this, nrm_len]; exact h6
      · rw [hz.done hg]; simp
    · have hfm : rest.getD (rest.length - 1) 0 ∈ rest := getD_mem 0 (by omega)
      have hfb := hg.rb _ hfm
      have hL := hg.hL
      have hmax : ∀ y ∈ rest, y ≤ rest.getD (rest.length - 1) 0 := by
        intro y hy
        obtain ⟨t, ht, rfl⟩ := List.mem_iff_getElem.1 hy
        have gd : rest.getD (rest.length - 1) 0 = rest[rest.length - 1] := by simp [List.getD, show rest.length - 1 < rest.length by omega]
        rw [gd]
        by_cases e : t = rest.length - 1
        · subst e; exact Int.le_refl _
        · exact of_decide_eq_true (List.pairwise_iff_getElem.1 hg.srt t (rest.length - 1) ht (by omega) (by omega))
      generalize hfar : rest.getD (rest.length - 1) 0 = far at hfm hfb hmax
      have hns : ((List.replicate 2 (0 : Int)).set 0 far).set 1 (L - far) = [far, L - far] := rfl
      rw [if_neg (by omega), wrapP (by omega) (by omega), if_pos ⟨by omega, by omega⟩, wrapP (by omega) (by omega), if_pos ⟨by omega, by omega⟩, Int.toNat_natCast, Int.toNat_natCast, hfar, hg.lst, wrapI (by omega) (by omega), hns]
      have hRs : RsOk L (implr111 5000 k) rest.length := fun c' less acc' hG hl ha => search L k c' less acc' hG (by omega) ha
      have hE : 1 ≤ 2 ^ (rest.length / 2) := Nat.one_le_two_pow
      obtain ⟨o1, p1, q1, r1, s1⟩ := branch hg hRs [far, L - far] 0 (by omega) rfl far rfl (by omega) acc (by omega)
      obtain ⟨o2, p2, q2, r2, s2⟩ := branch hg hRs [far, L - far] 1 (by omega) rfl (L - far) rfl (by omega) (acc ++ o1) (by rw [List.length_append]; omega)
      have hrun : impll111_0 5000 (implr111 5000 k) 5000 c rest (acc, ()) [far, L - far] (Int.ofNat [far, L - far].length) 0 = some ((acc ++ o1 ++ o2, ()), 2, ()) := by
        have a1 := p1 4999
        have a2 := p2 4998
        have a3 : impll111_0 5000 (implr111 5000 k) (4997 + 1) c rest (acc ++ o1 ++ o2, ()) [far, L - far] 2 ((1 + 1 : Nat) : Int) = some ((acc ++ o1 ++ o2, ()), 2, ()) := by
          rw [impll111_0, implb111_0, cdec, if_neg (by omega)]; rfl
        exact a1.trans (a2.trans a3)
      rw [hrun, obS]
      refine ⟨o1 ++ o2, by rw [List.append_assoc], by rw [List.length_append]; omega, fun r hr => ?_, fun z hz => ?_⟩
      · rcases List.mem_append.1 hr with hr | hr
        · exact r1 r hr
        · exact r2 r hr
      · obtain ⟨p, hp1, hp2, hp3⟩ := hz.far hg hfm hmax
        rcases hp3 with rfl | rfl
        · exact List.mem_append.2 (.inl (s1 z hz hp1 hp2))
        · exact List.mem_append.2 (.inr (s2 z hz hp1 hp2))
end Go.Proofs.Ytdgibokmaannjaa
