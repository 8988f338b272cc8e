/- The loops over functions of this layer: their readings hold. -/
import Derived.Test.YtbojnkcolamneaaR1
set_option linter.unusedVariables false
namespace Go.Proofs.Ytbojnkcolamneaa
open Go Go.Pv Go.RowKit

noncomputable def L0 : Lib := mkLib ti [] [] 0 []
theorem hT0 : ∀ t, TiOk Try.prog L0.ti t := tiOk
theorem encI_ok : ∀ (x : Int) (μ : Nat → Option At) (S : Nat → Prop) (w : World), RV μ S w (AV.dat (.int .i64) x) (Value.int .i64 x) := fun x μ S w => RV.of (a := .dat (.int .i64) x) rfl

theorem rd23_at : RngAt Try.prog 23 2 rd23 := by
  refine ⟨Try.f23, codeOf Try.f23, Try.func23, rfl, ?_⟩
  intro c hc
  simp only [codeOf, Try.f23, rngsIn, sapp, List.mem_cons, List.not_mem_nil, or_false, Prod.mk.injEq, true_and] at hc
  subst hc
  refine rdFold_ok hT0 encI_ok seqAt_ok ?_
  intro x n k fr bl nb hf hb
  refine ⟨_, ⟨(30, .dat (.int .i64) (IntKind.i64.wrap (n + 1))) :: (29, .dat (.int .i64) n) :: (28, AV.dat (.int .i64) x) :: fr, (k, .box (.dat (.int .i64) (IntKind.i64.wrap (n + 1)))) :: bl, nb⟩, rfl, ?_, rfl, rfl⟩
  rw [evS, evS]
  change opsS L0 (_ :: _ :: _ :: []) _ = _
  refine opsS_cons rfl (st1 := ⟨(29, .dat (.int .i64) n) :: (28, AV.dat (.int .i64) x) :: fr, bl, nb⟩) ?_ (opsS_cons rfl (st1 := ⟨(30, .dat (.int .i64) (IntKind.i64.wrap (n + 1))) :: (29, .dat (.int .i64) n) :: (28, AV.dat (.int .i64) x) :: fr, bl, nb⟩) (by kernel_rfl) (opsS_cons rfl ?_ rfl))
  · refine (ob_eq (x := AV.ptr k 0) ?_ _).trans ((ob_eq (x := AV.dat (.int .i64) n) (loadAV_ptr (by kernel_rfl) hb (by kernel_rfl)) _).trans rfl)
    show Pv.one (lk fr 10) = _
    rw [hf]; rfl
  · refine (ob_eq (x := AV.ptr k 0) ?_ _).trans ((ob_eq (x := AV.dat (.int .i64) (IntKind.i64.wrap (n + 1))) rfl _).trans ((ob_eq (storeAV_ptr (by kernel_rfl) hb (by kernel_rfl) (by kernel_rfl)) _).trans rfl))
    show Pv.one (lk fr 10) = _
    rw [hf]; rfl

theorem ints_ti : (ti 23).k = .slice 3 := by kernel_rfl
theorem rd97_at : RngAt Try.prog 97 0 rd97 := by
  refine ⟨Try.f97, codeOf Try.f97, Try.func97, rfl, ?_⟩
  intro c hc
  simp only [codeOf, Try.f97, rngsIn, sapp, List.mem_cons, List.not_mem_nil, or_false, Prod.mk.injEq, true_and] at hc
  subst hc
  refine rdAppend_ok hT0 encI_ok seqAt_ok ?_
  intro x k j ys fr bl nb hf hk hj hjn hkn hlen
  have hjb : Nat.beq j nb = false := by
    cases h : Nat.beq j nb with
    | true => have := nat_beq_iff.1 h; omega
    | false => rfl
  have hrow : rowOf ⟨(10, .own nb) :: (9, .dat (.int .i64) x) :: (8, .own j) :: (5, .dat (.int .i64) x) :: (7, .dat (.int .i64) x) :: fr, (nb, .row (.int .i64) [x]) :: bl, nb + 1⟩ (.int .i64) (.own j) = some ys := by
    show (match lk ((nb, Blk.row (.int .i64) [x]) :: bl) j with | some (.row e' xs) => _ | _ => none) = _
    rw [lk_cons, if_neg (by omega), hj]
    rfl
  refine ⟨⟨(5, .dat (.int .i64) x) :: (7, AV.dat (.int .i64) x) :: fr, bl, nb⟩,
    ⟨(11, .own (nb + 1)) :: (10, .own nb) :: (9, .dat (.int .i64) x) :: (8, .own j) :: (5, .dat (.int .i64) x) :: (7, .dat (.int .i64) x) :: fr,
      (k, .box (.own (nb + 1))) :: (nb + 1, .row (.int .i64) (ys ++ [x])) :: (j, .dead) :: (nb, .row (.int .i64) [x]) :: bl, nb + 1 + 1⟩, nb + 1, ?_, ?_, by omega, by show nb + 1 < nb + 1 + 1; omega, ?_, ?_, ?_⟩
  · rw [evS]
    change opsS L0 (_ :: []) _ = _
    exact opsS_cons rfl (by kernel_rfl) rfl
  · rw [evS, evS]
    change opsS L0 (_ :: _ :: _ :: _ :: _ :: []) _ = _
    refine opsS_cons rfl (st1 := ⟨(8, .own j) :: (5, .dat (.int .i64) x) :: (7, .dat (.int .i64) x) :: fr, bl, nb⟩) ?_ (opsS_cons rfl (st1 := ⟨(9, .dat (.int .i64) x) :: (8, .own j) :: (5, .dat (.int .i64) x) :: (7, .dat (.int .i64) x) :: fr, bl, nb⟩) (by kernel_rfl)
      (opsS_cons rfl (st1 := ⟨(10, .own nb) :: (9, .dat (.int .i64) x) :: (8, .own j) :: (5, .dat (.int .i64) x) :: (7, .dat (.int .i64) x) :: fr, (nb, .row (.int .i64) [x]) :: bl, nb + 1⟩) (by kernel_rfl)
      (opsS_cons rfl (st1 := ⟨(11, .own (nb + 1)) :: (10, .own nb) :: (9, .dat (.int .i64) x) :: (8, .own j) :: (5, .dat (.int .i64) x) :: (7, .dat (.int .i64) x) :: fr, (nb + 1, .row (.int .i64) (ys ++ [x])) :: (j, .dead) :: (nb, .row (.int .i64) [x]) :: bl, nb + 1 + 1⟩) ?_ (opsS_cons rfl ?_ rfl))))
    · refine (ob_eq (x := AV.ptr k 0) ?_ _).trans ((ob_eq (x := AV.own j) (loadAV_ptr (by kernel_rfl) hk (by kernel_rfl)) _).trans rfl)
      show Pv.one (lk fr 2) = _
      rw [hf]; rfl
    · refine Eq.trans (b := appendAV ⟨(10, .own nb) :: (9, .dat (.int .i64) x) :: (8, .own j) :: (5, .dat (.int .i64) x) :: (7, .dat (.int .i64) x) :: fr, (nb, .row (.int .i64) [x]) :: bl, nb + 1⟩ (.int .i64) 8 (.own j) (.own nb) (fun st u => some (st.put (some 11) u))) (by kernel_rfl) ?_
      have hy : rowOf ⟨(10, .own nb) :: (9, .dat (.int .i64) x) :: (8, .own j) :: (5, .dat (.int .i64) x) :: (7, .dat (.int .i64) x) :: fr, (nb, .row (.int .i64) [x]) :: bl, nb + 1⟩ (.int .i64) (.own nb) = some [x] := by
        show (match lk ((nb, Blk.row (.int .i64) [x]) :: bl) nb with | some (.row e' xs) => _ | _ => none) = _
        rw [lk_cons, if_pos rfl]
        rfl
      unfold appendAV
      show cond (Nat.beq j nb) none _ = _
      rw [hjb, hrow]
      show ob (rowOf _ _ _) _ = _
      rw [hy]
      have hl : ys.length < 1000 := hlen
      exact if_pos (by simp; omega)
    · refine (ob_eq (x := AV.ptr k 0) ?_ _).trans ((ob_eq (x := AV.own (nb + 1)) rfl _).trans ((ob_eq (storeAV_ptr (w := .own j) (by kernel_rfl) ?_ (by kernel_rfl) (by kernel_rfl)) _).trans rfl))
      · show Pv.one (lk fr 2) = _
        rw [hf]; rfl
      · show lk ((nb + 1, _) :: (j, _) :: (nb, _) :: bl) k = _
        have : j ≠ k := fun e => by subst e; rw [hj] at hk; cases hk
        rw [lk_cons, if_neg (by omega), lk_cons, if_neg this, lk_cons, if_neg (by omega)]
        exact hk
  · show lk ((k, _) :: _) k = _
    rw [lk_cons, if_pos rfl]
  · show lk ((k, _) :: (nb + 1, _) :: _) (nb + 1) = _
    rw [lk_cons, if_neg (by omega), lk_cons, if_pos rfl]
  · intro i hi hik hij
    show lk ((k, _) :: (nb + 1, _) :: (j, _) :: (nb, _) :: bl) i = _
    rw [lk_cons, if_neg (fun e => hik e.symm), lk_cons, if_neg (by omega), lk_cons, if_neg (fun e => hij e.symm), lk_cons, if_neg (by omega)]
end Go.Proofs.Ytbojnkcolamneaa
