/- WatchStretches: what is to be shown of the readings. -/
import Derived.Test.YtbojnkcolamneaaM13
set_option linter.unusedVariables false
set_option linter.unusedSimpArgs false
namespace Go.Proofs.Ytbojnkcolamneaa
open Go Go.Pv Classical

def longer (l : List Shf) (i d : Int) : Shf := ((l.getD i.toNat z3).1, (l.getD i.toNat z3).2.1 + d, (l.getD i.toNat z3).2.2)
noncomputable def str (l : List Shf) (i d : Int) : List Shf × Int :=
  if er l ≠ 0 then ([], er l) else if ¬ ix l i then ([], 4) else if ¬ (-1000 ≤ d ∧ d ≤ 1000) then ([], 1) else if ¬ okS (longer l i d) then ([], 1) else (l.set i.toNat (longer l i d), 0)
theorem okS_in {s : Shf} (h : okS s) : inS s := by
  unfold okS at h
  unfold inS inI
  omega
theorem f47 (K : Nat) (hK : 12 < K) (l : List Shf) (hl : ∀ s ∈ l, inS s) (i d : Int) : implf47 K l i d = some (str l i d) := by
  unfold implf47 str
  rw [show (List.replicate 1 (0 : Int)).set 0 i = [i] from rfl, f75_1 K hK l hl]
  simp only [obS, ibne, cdec, cnot]
  by_cases h : er l = 0
  · have hV := er_ok.1 h
    have h12 := hV.1
    simp only [h, ne_eq, not_true_eq_false, if_false]
    by_cases g : ix l i
    · have gi := ix_iff.1 g
      have hs := hV.2 _ (getD_mem z3 (show i.toNat < l.length by omega))
      have e89 : implf89 K l = some l := by
        unfold implf89
        rw [if_pos (by simp; omega)]
        rfl
      simp only [g, if_true, not_true_eq_false, if_false, e89, obS, w60, cdec]
      by_cases q : -1000 ≤ d ∧ d ≤ 1000
      · rw [if_pos q, if_neg (c := ¬ (-1000 ≤ d ∧ d ≤ 1000)) (fun z => z q), if_pos gi, if_pos gi]
        have ew : IntKind.i64.wrap ((l.getD i.toNat ((0 : Int), (0 : Int), (0 : Int))).2.1 + d) = (l.getD i.toNat z3).2.1 + d := by
          unfold okS at hs
          exact wrapI (by show _ ≤ (l.getD i.toNat z3).2.1 + d; omega) (by show (l.getD i.toNat z3).2.1 + d ≤ _; omega)
        rw [ew]
        have e5 : ((l.getD i.toNat ((0 : Int), (0 : Int), (0 : Int))).1, (l.getD i.toNat z3).2.1 + d, (l.getD i.toNat ((0 : Int), (0 : Int), (0 : Int))).2.2) = longer l i d := rfl
        rw [e5, if_pos (by rw [List.length_set]; exact gi)]
        have e6 : (l.set i.toNat (longer l i d)).getD i.toNat ((0 : Int), (0 : Int), (0 : Int)) = longer l i d := by rw [getD_set' _ _ _ _ _ (by omega), if_pos rfl]
        rw [e6, f77 K _ (by unfold okS at hs; unfold inS inI longer; simp only []; omega), obS]
        simp only [cdec]
        by_cases o : okS (longer l i d)
        · rw [if_pos o, if_neg (c := ¬ okS (longer l i d)) (fun z => z o)]
        · rw [if_neg o, if_pos o]
      · rw [if_neg q, if_pos q]
    · simp only [g, if_false, not_false_eq_true, if_true]
      rfl
  · simp only [h, ne_eq, not_false_eq_true, if_true, if_false]
theorem f48 (K : Nat) (hK : 12 < K) (l : List Shf) (i d : Int) : implf48 K l i d = some (str l i d) := by
  unfold implf48 str
  rw [f76 K hK l]
  simp only [obS, ibne, cdec, cnot]
  by_cases h : er l = 0
  · have hV := er_ok.1 h
    have h12 := hV.1
    simp only [h, ne_eq, not_true_eq_false, if_false]
    by_cases g : ix l i
    · have gi := ix_iff.1 g
      have hs := hV.2 _ (getD_mem z3 (show i.toNat < l.length by omega))
      have e0 : List.replicate 0 ((0 : Int), (0 : Int), (0 : Int)) ++ l = l := rfl
      have e00 : (List.replicate 0 ((0 : Int), (0 : Int), (0 : Int))).length = 0 := rfl
      simp only [g, if_true, not_true_eq_false, if_false, e0, e00, w65, obS, cdec]
      by_cases q : -1000 ≤ d ∧ d ≤ 1000
      · rw [if_pos q, if_neg (c := ¬ (-1000 ≤ d ∧ d ≤ 1000)) (fun z => z q), if_pos (by omega), if_pos gi, if_pos gi]
        have ew : IntKind.i64.wrap ((l.getD i.toNat ((0 : Int), (0 : Int), (0 : Int))).2.1 + d) = (l.getD i.toNat z3).2.1 + d := by
          unfold okS at hs
          exact wrapI (by show _ ≤ (l.getD i.toNat z3).2.1 + d; omega) (by show (l.getD i.toNat z3).2.1 + d ≤ _; omega)
        rw [ew]
        have e5 : ((l.getD i.toNat ((0 : Int), (0 : Int), (0 : Int))).1, (l.getD i.toNat z3).2.1 + d, (l.getD i.toNat ((0 : Int), (0 : Int), (0 : Int))).2.2) = longer l i d := rfl
        rw [e5, if_pos (by rw [List.length_set]; exact gi)]
        have e6 : (l.set i.toNat (longer l i d)).getD i.toNat ((0 : Int), (0 : Int), (0 : Int)) = longer l i d := by rw [getD_set' _ _ _ _ _ (by omega), if_pos rfl]
        rw [e6, f72 K, obS]
        simp only [cdec]
        by_cases o : okS (longer l i d)
        · rw [if_pos o, if_neg (c := ¬ okS (longer l i d)) (fun z => z o)]
        · rw [if_neg o, if_pos o]
      · rw [if_neg q, if_pos q]
    · simp only [g, if_false, not_false_eq_true, if_true]
      rfl
  · simp only [h, ne_eq, not_false_eq_true, if_true, if_false]
theorem cnt_set {l : List Shf} {i : Nat} (hi : i < l.length) {s : Shf} (h : ∀ m, rn (l.getD i z3) m → rn s m) (m : Int) : cnt l m ≤ cnt (l.set i s) m := by
  have e1 : l = l.take i ++ l.getD i z3 :: l.drop (i + 1) := by
    conv => lhs; rw [← List.take_append_drop i l, drop_getD z3 hi]
  have e2 : l.set i s = l.take i ++ s :: l.drop (i + 1) := by rw [List.set_eq_take_append_cons_drop, if_pos hi]
  unfold cnt
  rw [e2]
  conv => lhs; rw [e1]
  rw [List.countP_append, List.countP_append, List.countP_cons, List.countP_cons]
  have : runsB (l.getD i z3) m = true → runsB s m = true := fun g => runsB_iff.2 (h m (runsB_iff.1 g))
  cases h1 : runsB (l.getD i z3) m with
  | false => simp
  | true => rw [this h1]; exact Nat.le_refl _
theorem str_err {l : List Shf} {i d : Int} (h : (str l i d).2 = 0) : er l = 0 ∧ ix l i ∧ okS (longer l i d) ∧ str l i d = (l.set i.toNat (longer l i d), 0) := by
  unfold str at h ⊢
  by_cases h1 : er l = 0
  · rw [if_neg (fun g => g h1)] at h ⊢
    by_cases h2 : ix l i
    · rw [if_neg (fun g => g h2)] at h ⊢
      by_cases h3 : -1000 ≤ d ∧ d ≤ 1000
      · rw [if_neg (c := ¬ (-1000 ≤ d ∧ d ≤ 1000)) (fun g => g h3)] at h ⊢
        by_cases h4 : okS (longer l i d)
        · rw [if_neg (fun g => g h4)]
          exact ⟨h1, h2, h4, rfl⟩
        · rw [if_pos h4] at h; cases h
      · rw [if_pos h3] at h; cases h
    · rw [if_pos h2] at h; cases h
  · rw [if_pos h1] at h; exact absurd h h1
theorem coreStretches (l : List Shf) (hl : ∀ s ∈ l, inS s) (i d : Int) : implf12 5000 l i d = some true := by
  unfold implf12
  have e0 : List.replicate 0 ((0 : Int), (0 : Int), (0 : Int)) ++ l = l := rfl
  have e00 : (List.replicate 0 ((0 : Int), (0 : Int), (0 : Int))).length = 0 := rfl
  rw [f19_0 5000 (by omega), sane_ok]
  simp only [obS, cdec, ibeq, ibne, cnot, e0, e00]
  by_cases h : lng l []
  · rw [if_pos h]
  · have h50 : l.length ≤ 50 := by
      rcases Nat.lt_or_ge 50 l.length with g | g
      · exact absurd (show lng l [] from .inr g) h
      · exact g
    rw [if_neg h, if_pos (by omega), f47 5000 (by omega) l hl, f48 5000 (by omega) l]
    simp only [obS]
    have hlen : (str l i d).1.length ≤ 50 := by
      unfold str
      split
      · simp
      · split
        · simp
        · split
          · simp
          · split
            · simp
            · simp; exact h50
    rw [f49 5000 _ _ (by omega) (by omega), f49 5000 _ _ (by omega) (by omega)]
    simp only [obS, if_true, decide_true, cond_true]
    by_cases g : (str l i d).2 = 0
    · obtain ⟨he, hx, ho, es⟩ := str_err g
      have hV := er_ok.1 he
      rw [if_pos g, es]
      simp only []
      by_cases hd : d < 0
      · rw [if_pos hd]
      · rw [if_neg hd]
        have hi := ix_iff.1 hx
        have hV' : V (l.set i.toNat (longer l i d)) := ⟨by rw [List.length_set]; exact hV.1, fun s hs => by
          rcases List.mem_or_eq_of_mem_set hs with hs | rfl
          · exact hV.2 s hs
          · exact ho⟩
        have he' := er_ok.2 hV'
        have hl' : ∀ s ∈ l.set i.toNat (longer l i d), inS s := fun s hs => okS_in (hV'.2 s hs)
        rw [f23' 5000 (by omega) _ hl', f23' 5000 (by omega) l hl]
        simp only [obS]
        unfold pkr
        rw [if_pos he, if_pos he']
        have p1 := pk_is hl he
        have p2 := pk_is hl' he'
        have hle : (pk l).2 ≤ (pk (l.set i.toNat (longer l i d))).2 := by
          rcases p1.2 with ⟨h1, _⟩ | ⟨_, h2, _⟩
          · omega
          · rw [← h2]
            refine Nat.le_trans (cnt_set (by omega) (fun m hm => ?_) _) (p2.1 _)
            unfold rn longer at *
            simp only []
            omega
        simp only [if_true]
        rw [if_pos (by omega)]
    · rw [if_neg g]
theorem pureWatchStretches : ∀ x, wfAll tl [22, 3, 3] x → ∃ k, implf12 k x.1 x.2.1 x.2.2.1 = some true := fun x hx =>
  ⟨5000, coreStretches x.1 (fun s hs => wf_shf (hx.1.2 s hs)) x.2.1 x.2.2.1⟩
end Go.Proofs.Ytbojnkcolamneaa
