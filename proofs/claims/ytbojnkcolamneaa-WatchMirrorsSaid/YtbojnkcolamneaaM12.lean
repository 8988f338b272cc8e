/- The posts that are returned. -/
import Derived.Test.YtbojnkcolamneaaM11
set_option linter.unusedVariables false
set_option linter.unusedSimpArgs false
namespace Go.Proofs.Ytbojnkcolamneaa
open Go Go.Pv Classical

/-- One more post, if a shift is not paid. -/
noncomputable def pstep (P : List Pst) (y : Shn) : List Pst := if y.1.2.2 - paid y.1 P > 0 then P ++ [(y.1.2.1 - 1, y.1.2.2 - paid y.1 P)] else P
noncomputable def PP (ys : List Shn) (n : Nat) : List Pst := (ys.take n).foldl pstep []
theorem PP_succ {ys : List Shn} {n : Nat} (h : n < ys.length) : PP ys (n + 1) = pstep (PP ys n) (ys.getD n z4) := by
  unfold PP
  rw [take_getD z4 h, List.foldl_append]
  rfl
theorem pp_ok {ys : List Shn} (hok : ∀ y ∈ ys, okS y.1) : ∀ n, n ≤ ys.length → (PP ys n).length ≤ n ∧ ∀ q ∈ PP ys n, (0 ≤ q.1 ∧ q.1 ≤ 1000) ∧ 0 ≤ q.2 ∧ q.2 ≤ 99
  | 0, _ => by simp [PP]
  | n + 1, h => by
    obtain ⟨h1, h2⟩ := pp_ok hok n (by omega)
    have o := hok _ (getD_mem z4 h)
    have hp := paid_nonneg (ys.getD n z4).1 (PP ys n) fun q hq => (h2 q hq).2.1
    rw [PP_succ h]
    unfold pstep
    split
    · next g =>
      refine ⟨by simp; exact h1, fun q hq => ?_⟩
      rcases List.mem_append.1 hq with hq | hq
      · exact h2 q hq
      · simp only [List.mem_singleton] at hq
        rw [hq]
        unfold okS at o
        simp only []
        have o1 := o.1
        have o2 := o.2.1
        have o3 := o.2.2.1
        have o4 := o.2.2.2
        refine ⟨⟨?_, ?_⟩, ?_, ?_⟩ <;> omega
    · exact ⟨by omega, h2⟩
theorem pp_ext {ys : List Shn} (m : Nat) : ∀ n, m ≤ n → n ≤ ys.length → ∃ ex, PP ys n = PP ys m ++ ex ∧ ∀ q ∈ ex, ∃ i, m ≤ i ∧ i < n ∧ q.1 = (ys.getD i z4).1.2.1 - 1
  | 0, h, _ => by
    have : m = 0 := by omega
    subst this
    exact ⟨[], by simp, by simp⟩
  | n + 1, h, hn => by
    by_cases e : m = n + 1
    · rw [e]
      exact ⟨[], by simp, by simp⟩
    · obtain ⟨ex, h1, h2⟩ := pp_ext (ys := ys) m n (by omega) (by omega)
      rw [PP_succ hn]
      unfold pstep
      split
      · refine ⟨ex ++ [((ys.getD n z4).1.2.1 - 1, (ys.getD n z4).1.2.2 - paid (ys.getD n z4).1 (PP ys n))], by rw [← List.append_assoc, ← h1], fun q hq => ?_⟩
        rcases List.mem_append.1 hq with hq | hq
        · obtain ⟨i, a, b, c⟩ := h2 q hq
          exact ⟨i, a, by omega, c⟩
        · simp only [List.mem_singleton] at hq
          exact ⟨n, by have := h; omega, by omega, by rw [hq]⟩
      · refine ⟨ex, h1, fun q hq => ?_⟩
        obtain ⟨i, a, b, c⟩ := h2 q hq
        exact ⟨i, a, by omega, c⟩
theorem pp_pays {ys : List Shn} (hok : ∀ y ∈ ys, okS y.1) : ∀ n, n ≤ ys.length → ∀ i, i < n → (ys.getD i z4).1.2.2 ≤ paid (ys.getD i z4).1 (PP ys n)
  | 0, _, i, hi => by omega
  | n + 1, h, i, hi => by
    have o := hok _ (getD_mem z4 h)
    rw [PP_succ h]
    by_cases e : i = n
    · subst e
      unfold pstep
      split
      · next g =>
        rw [paid_append]
        have : rn (ys.getD i z4).1 ((ys.getD i z4).1.2.1 - 1) := by
          unfold rn okS at *
          omega
        simp only [paid]
        rw [if_pos this]
        omega
      · omega
    · have ih := pp_pays hok n (by omega) i (by omega)
      unfold pstep
      split
      · next g =>
        rw [paid_append]
        have := paid_nonneg (ys.getD i z4).1 [((ys.getD n z4).1.2.1 - 1, (ys.getD n z4).1.2.2 - paid (ys.getD n z4).1 (PP ys n))] fun q hq => by
          simp only [List.mem_singleton] at hq
          rw [hq]
          simp only []
          omega
        omega
      · exact ih
/-- The posts cost no more than some set that is alone earns. -/
theorem pp_tot {ys : List Shn} (hs : srt ys) (hok : ∀ y ∈ ys, okS y.1) (n : Nat) : n ≤ ys.length → ∃ z : List Shn, z.Sublist (ys.take n) ∧ Al z ∧ payz z = tot (PP ys n) := by
  induction n using Nat.strongRecOn with
  | ind n ih =>
    intro hn
    cases n with
    | zero => exact ⟨[], by simp, .nil, rfl⟩
    | succ n =>
      rw [PP_succ hn]
      unfold pstep
      have htk := take_getD (w := ys) z4 hn
      split
      · next g =>
        obtain ⟨m, hm⟩ := Sp_ex hs hn
        have hmn := hm.1
        obtain ⟨z, z1, z2', z3'⟩ := ih m (by omega) (by omega)
        obtain ⟨ex, e1, e2⟩ := pp_ext (ys := ys) m n hmn (by omega)
        obtain ⟨ex0, e3, e4⟩ := pp_ext (ys := ys) 0 m (Nat.zero_le _) (by omega)
        have p1 : paid (ys.getD n z4).1 (PP ys m) = 0 := paid_none _ _ fun q hq => by
          rw [e3] at hq
          have hq : q ∈ ex0 := by simpa [PP] using hq
          obtain ⟨i, _, b, c⟩ := e4 q hq
          have := hm.2.1 i b
          unfold rn
          omega
        have p2 : paid (ys.getD n z4).1 ex = tot ex := paid_all _ _ fun q hq => by
          obtain ⟨i, a, b, c⟩ := e2 q hq
          have h1 := hm.2.2 i a b
          have h2 := srt_at hs (i := i) (j := n) hn (by omega)
          unfold rn
          omega
        have p3 : paid (ys.getD n z4).1 (PP ys n) = tot ex := by rw [e1, paid_append, p1, p2]; omega
        have htm : ys.take n = ys.take m ++ (ys.take n).drop m := by
          have := (List.take_append_drop m (ys.take n)).symm
          rwa [List.take_take, Nat.min_eq_left hmn] at this
        refine ⟨z ++ [ys.getD n z4], ?_, ?_, ?_⟩
        · rw [htk, htm]
          exact ((z1.trans (List.sublist_append_left _ _)).append (List.Sublist.refl _))
        · refine List.pairwise_append.2 ⟨z2', by simp, fun a ha b hb => ?_⟩
          simp only [List.mem_singleton] at hb
          obtain ⟨i, hi, _, rfl⟩ := mem_take_getD (z1.subset ha)
          rw [hb]
          exact hm.2.1 i hi
        · rw [payz_append, tot_append, e1, tot_append, z3', ← e1, p3]
          simp only [payz, tot]
          omega
      · obtain ⟨z, z1, z2', z3'⟩ := ih n (by omega) (by omega)
        exact ⟨z, by rw [htk]; exact z1.trans (List.sublist_append_left _ _), z2', z3'⟩

noncomputable def posts (l : List Shf) : List Pst := PP (byE l) (byE l).length
theorem f41 (K : Nat) (hK : 12 < K) (l : List Shf) (hl : ∀ s ∈ l, inS s) : implf41 K l = some (if er l = 0 then (posts l, 0) else ([], er l)) := by
  unfold implf41
  rw [f31 K hK l hl]
  simp only [obS, ibne, cdec, cnot]
  by_cases h : er l = 0
  · have hV := er_ok.1 h
    have h12 := hV.1
    have hb := byE_length l
    rw [if_pos h, if_pos h, f67b K l h12 hK, obS]
    have := upto (fun k (s : List Pst × Nat) => impll41_0 K k s.1 (byE l) ((byE l).length : Int) (s.2 : Int)) (fun j => (PP (byE l) j, j)) (byE l).length (posts l, ((byE l).length : Int), ())
      (fun k j hj => by
        show impll41_0 K (k + 1) (PP (byE l) j) (byE l) _ j = impll41_0 K k (PP (byE l) (j + 1)) (byE l) _ ((j + 1 : Nat) : Int)
        rw [impll41_0, implb41_0]
        obtain ⟨h1, h2⟩ := pp_ok (byE_ok hV.2) j (by omega)
        have o := byE_ok hV.2 _ (getD_mem z4 hj)
        have hp := paid_nonneg ((byE l).getD j z4).1 (PP (byE l) j) fun q hq => (h2 q hq).2.1
        have e : (byE l).getD (j : Int).toNat (((0 : Int), (0 : Int), (0 : Int)), (0 : Int)) = (byE l).getD j z4 := rfl
        simp only [cdec, e]
        rw [if_pos (by omega), if_pos (by omega), f85 K hK _ (by omega) (fun q hq => by have := (h2 q hq).2; omega), obS]
        unfold okS at o
        have o1 := o.1
        have o2 := o.2.1
        have o3 := o.2.2.1
        have o4 := o.2.2.2
        have hpb : ∀ (s : Shf) (p : List Pst), (∀ q ∈ p, 0 ≤ q.2 ∧ q.2 ≤ 99) → paid s p ≤ 99 * p.length := by
          intro s p
          induction p with
          | nil => intro _; simp [paid]
          | cons q p ih =>
            intro hq
            have := ih fun r hr => hq r (by simp [hr])
            have := hq q (by simp)
            rw [paid]
            simp only [List.length_cons]
            split <;> omega
        have hpb := hpb ((byE l).getD j z4).1 (PP (byE l) j) fun q hq => (h2 q hq).2
        rw [wrapI (by omega) (by omega), wrapI (n := ((byE l).getD j z4).1.2.1 - 1) (by omega) (by omega), wrapS (by omega), PP_succ hj]
        unfold pstep
        by_cases g : ((byE l).getD j z4).1.2.2 - paid ((byE l).getD j z4).1 (PP (byE l) j) > 0
        · rw [if_pos g, if_pos (by simp; omega), if_pos g]
          rfl
        · rw [if_neg g, if_neg g])
      (fun k => by
        show impll41_0 K (k + 1) (PP (byE l) (byE l).length) (byE l) _ (byE l).length = _
        rw [impll41_0, implb41_0]
        simp only [cdec]
        rw [if_neg (by omega)]
        rfl) K 0 (by omega) (Nat.zero_le _)
    have this : impll41_0 K K [] (byE l) ((byE l).length : Int) 0 = _ := this
    rw [this, obS]
  · rw [if_neg h, if_neg h]
theorem posts_ok {l : List Shf} (hV : V l) : okP (posts l) ∧ (posts l).length ≤ 12 ∧ pays l (posts l) := by
  obtain ⟨h1, h2⟩ := pp_ok (byE_ok hV.2) (byE l).length (Nat.le_refl _)
  have h12 := hV.1
  have hb := byE_length l
  refine ⟨fun q hq => ?_, ?_, fun s hs => ?_⟩
  · have := h2 q hq
    omega
  · show (PP (byE l) (byE l).length).length ≤ 12
    omega
  · obtain ⟨i, hi, e⟩ := List.getElem_of_mem hs
    have e : l.getD i z3 = s := by simp [List.getD, hi, e]
    obtain ⟨j, hj, g⟩ := List.getElem_of_mem (mem_byE.2 ⟨i, hi, rfl⟩ : (l.getD i z3, (i : Int)) ∈ byE l)
    have g : (byE l).getD j z4 = (l.getD i z3, (i : Int)) := by rw [← g]; simp [List.getD, hj]
    have := pp_pays (byE_ok hV.2) (byE l).length (Nat.le_refl _) j hj
    rw [g, e] at this
    exact this
theorem posts_tot {l : List Shf} (hV : V l) {a b : Int} (h : isMost l a b) : tot (posts l) = b := by
  obtain ⟨h1, _, y, h2, h3⟩ := h
  obtain ⟨z, g1, g2, g3⟩ := pp_tot (byE_sorted l) (byE_ok hV.2) (byE l).length (Nat.le_refl _)
  rw [List.take_length] at g1
  obtain ⟨k1, k2⟩ := fromZ hV g1 g2 (List.Perm.refl _)
  have k3 := (h1 _ k1).2
  obtain ⟨o1, _, o3⟩ := posts_ok hV
  have k4 := pay_tot hV.2 h2 o3 fun q hq => (o1 q hq).2.1
  have g3 : payz z = tot (posts l) := g3
  omega
end Go.Proofs.Ytbojnkcolamneaa
