/- TopWatches: what is to be shown of the readings. -/
import Derived.Test.YtbojnkcolamneaaM15
import Derived.Test.YtbojnkcolamneaaPureWatchRosters
import Derived.Test.YtbojnkcolamneaaPureWatchKeepers
set_option linter.unusedVariables false
set_option linter.unusedSimpArgs false
namespace Go.Proofs.Ytbojnkcolamneaa
open Go Go.Pv Classical

theorem f19_2 (K : Nat) (hK : 3 < K) (l : List Shf) (x y : List Int) : implf19 K l [x, y] = some (decide (lng l [x, y])) := by
  unfold implf19
  obtain ⟨k, rfl⟩ : ∃ k, K = k + 3 := ⟨K - 3, by omega⟩
  rw [impll19_0, implb19_0]
  simp only [cdec]
  rw [if_pos (by simp), if_pos (by simp)]
  have e : ([x, y] : List (List Int)).getD (0 : Int).toNat [] = x := rfl
  have e2 : ([x, y] : List (List Int)).getD (1 : Int).toNat [] = y := rfl
  rw [e]
  by_cases h : (x.length : Int) > 100
  · rw [if_pos h, obS]
    show some true = _
    rw [decide_eq_true (show lng l [x, y] from .inl ⟨x, by simp, by omega⟩)]
  · rw [if_neg h, show IntKind.i64.wrap ((0 : Int) + 1) = 1 by decide, impll19_0, implb19_0]
    simp only [cdec]
    rw [if_pos (by simp), if_pos (by simp), e2]
    by_cases h2 : (y.length : Int) > 100
    · rw [if_pos h2, obS]
      show some true = _
      rw [decide_eq_true (show lng l [x, y] from .inl ⟨y, by simp, by omega⟩)]
    · rw [if_neg h2, show IntKind.i64.wrap ((1 : Int) + 1) = 2 by decide, impll19_0, implb19_0]
      simp only [cdec]
      rw [if_neg (by simp), obS]
      show some (decide ((l.length : Int) > 50)) = _
      congr 1
      have : ((l.length : Int) > 50) ↔ lng l [x, y] := by
        unfold lng
        simp
        omega
      simp only [this]
theorem l9 (K : Nat) (hK : 12 < K) (l : List Shf) (p q : List Int) (v c : Int) (a : List Shf) (ha : a.length ≤ 12) (hok : ∀ s ∈ a, 0 ≤ s.1 ∧ s.1 < s.2.1 ∧ s.2.1 ≤ 1000) : impll9_0 K K l p q v 0 a c 0 = some (len a, (a.length : Int), ()) := by
  have := foldTo (fun k j (t : Int) => impll9_0 K k l p q v t a c (j : Int)) a z3 (fun t s => t + (s.2.1 - s.1)) (fun j t => 0 ≤ t ∧ t ≤ 1000 * j) (fun t => (t, (a.length : Int), ()))
    (fun k j t hj hI => by
      have e : a.getD (j : Int).toNat ((0 : Int), (0 : Int), (0 : Int)) = a.getD j z3 := rfl
      have hs := hok _ (getD_mem z3 hj)
      refine ⟨?_, by omega⟩
      show impll9_0 K (k + 1) l p q v t a c j = impll9_0 K k l p q v (t + ((a.getD j z3).2.1 - (a.getD j z3).1)) a c ((j + 1 : Nat) : Int)
      rw [impll9_0, implb9_0]
      simp only [cdec, e]
      rw [if_pos (by omega), if_pos (by omega), if_pos (by omega), wrapS (by omega), wrapI (n := (a.getD j z3).2.1 - (a.getD j z3).1) (by omega) (by omega), wrapI (by omega) (by omega)])
    (fun k t _ => by
      show impll9_0 K (k + 1) l p q v t a c a.length = _
      rw [impll9_0, implb9_0]
      simp only [cdec]
      rw [if_neg (by omega)]) K 0 0 (by omega) (Nat.zero_le _) (by simp)
  obtain ⟨this, -⟩ := this
  simp only [List.drop_zero] at this
  have this : impll9_0 K K l p q v 0 a c 0 = _ := this
  rw [this, len_fold, Int.zero_add]
theorem pk_run {l : List Shf} (hl : ∀ s ∈ l, inS s) (he : er l = 0) : 0 ≤ (pk l).1 ∧ (pk l).1 ≤ 1000 ∧ cnt l (pk l).1 = (pk l).2 := by
  have hV := er_ok.1 he
  have hp := pk_is hl he
  rcases hp.2 with ⟨h1, h2⟩ | ⟨h1, h2, _⟩
  · have := hp.1 (pk l).1
    omega
  · have : ¬ ((pk l).1 < 0 ∨ 1000 ≤ (pk l).1) := fun c => by
      have := cnt_out hV.2 c
      omega
    omega
theorem first_ok : implf39 5000 (((List.replicate 2 ((0 : Int), (0 : Int), (0 : Int))).set 0 ((3 : Int), (5 : Int), (0 : Int))).set 1 ((4 : Int), (9 : Int), (0 : Int))) = some (6, 0) := by kernel_rfl
theorem coreTop (l : List Shf) (hl : ∀ s ∈ l, inS s) (r ms : List Int) : implf9 5000 l r ms = some true := by
  unfold implf9
  rw [first_ok, show (((List.replicate 2 ([] : List Int)).set 0 r).set 1 ms) = [r, ms] from rfl, f19_2 5000 (by omega)]
  simp only [obS, cdec, ibeq, ibne, cnot, if_true]
  by_cases h : lng l [r, ms]
  · rw [if_pos h]
  · rw [if_neg h]
    have hr : r.length ≤ 100 := by
      rcases Nat.lt_or_ge 100 r.length with g | g
      · exact absurd (show lng l [r, ms] from .inl ⟨r, by simp, g⟩) h
      · exact g
    have hm : ms.length ≤ 100 := by
      rcases Nat.lt_or_ge 100 ms.length with g | g
      · exact absurd (show lng l [r, ms] from .inl ⟨ms, by simp, g⟩) h
      · exact g
    rw [f23' 5000 (by omega) l hl, f40 5000 (by omega) l hl, f37 5000 (by omega) l hl, f41 5000 (by omega) l hl, f31 5000 (by omega) l hl]
    obtain ⟨x, v, e1, g1⟩ := f24' 5000 (by omega) l hl
    rw [e1]
    by_cases he : er l = 0
    · have hV := er_ok.1 he
      have h12 := hV.1
      rcases f32 5000 (by omega) l hl with ⟨hne, _⟩ | ⟨_, own, free, ho, hro⟩
      · exact absurd he hne
      · obtain ⟨a1, a2, a3⟩ := g1 he
        obtain ⟨k1, k2, k3⟩ := pk_run hl he
        have ep : pkr l = ((pk l).1, ((pk l).2 : Int), 0) := by unfold pkr; rw [if_pos he]
        have erun : run l (pk l).1 = (atN l (pk l).1 l.length, 0) := by unfold run; rw [if_neg (fun z => z he), if_pos ⟨k1, k2⟩]
        have hown : own.length ≤ 100 := by rw [hro.len]; omega
        have hal : (alset l).length ≤ 100 := by rw [alset_len]; have := fst_len l; omega
        have hmo : (moset l).length ≤ 100 := by rw [moset_len]; have := fst_len l; omega
        have hx : x.length ≤ 12 := by
          have := al_most hV a1
          have := fst_len l
          omega
        obtain ⟨p1, p2, p3⟩ := posts_ok hV
        obtain ⟨ma, mb, _, hmost⟩ := f27 5000 (by omega) hV
        have ev : tot (posts l) = v := by
          rw [posts_tot hV hmost]
          obtain ⟨y, hy1, hy2⟩ := hmost.2.2
          have c1 := a3 y hy1
          have c2 := (hmost.1 x a1).2
          omega
        obtain ⟨c1, c2⟩ := spl_cov hV.2
        have h45 := f45 5000 (by omega) l hl
        have h39 := f39 5000 (by omega) l hl
        have h9 := l9 5000 (by omega) l (alset l) x v (covl l) (spl l).reverse (by simp; omega) (fun s hs => by have := c1.ok s (by simpa using hs); omega)
        rw [len_reverse, len_spl hV.2] at h9
        have h28 := f28 5000 hV.2 (x := alset l) (isAl_in (alset_ok hV)) (by omega) (by omega)
        have hpay : pay l (alset l) ≤ v := a3 _ (alset_ok hV)
        have hlen : (x.length : Int) ≤ ((alset l).length : Int) := by
          have := al_most hV a1
          rw [alset_len]; omega
        rw [if_pos he] at h45 h39
        rw [ep, ho]
        simp only [obS, if_pos he, if_true]
        rw [f34 5000 (by omega) l hl, erun, f21 5000 (by omega) l hl own hown, roster_pk he hl hro, f42 5000 (by omega) l hl _ hal, ca_al he (alset_ok hV), f43 5000 (by omega) l hl _ hmo, cm_look he (moset_ok hV).1 (moset_ok hV).2, f42 5000 (by omega) l hl x (by omega), ca_al he a1, f44 5000 (by omega) l hl, cp_pays he p2 p1 p3]
        simp only [obS, if_true]
        rw [if_pos (by rw [atN_cnt, k3]), if_pos (by rw [alset_len, moset_len]), if_pos ev, f21 5000 (by omega) l hl r hr, f43 5000 (by omega) l hl ms hm]
        simp only [obS, h45, h39, h9, h28, if_true, if_pos hpay, decide_eq_true hlen]
        have tail : (if (cm l ms).2 = 0 then if (cm l ms).1 < ((alset l).length : Int) then some false else some true else some true) = some true := by
          by_cases q : (cm l ms).2 = 0
          · rw [if_pos q, if_neg]
            obtain ⟨_, _, q2, q3⟩ := cm_inv q
            have := look_least hV q2
            rw [q3, alset_len]; omega
          · rw [if_neg q]
        rw [tail]
        by_cases q : (crr l r).2 = 0
        · obtain ⟨_, q1, q2, q3, q4⟩ := crr_ok q
          rw [if_pos q, if_neg]
          rw [q4]
          have := cnt_dif hV.2 q1 q3 (pk l).1
          simp only []
          omega
        · rw [if_neg q]
    · have ep : pkr l = (0, 0, er l) := by unfold pkr; rw [if_neg he]
      rcases f32 5000 (by omega) l hl with ⟨_, ho⟩ | ⟨hz, _⟩
      · rw [ep, ho]
        simp only [obS, if_neg he, if_true, decide_true]
      · exact absurd hz he
theorem pureTopWatches : ∀ x, wfAll tl [22, 23, 23] x → ∃ k, implf9 k x.1 x.2.1 x.2.2.1 = some true := fun x hx =>
  ⟨5000, coreTop x.1 (fun s hs => wf_shf (hx.1.2 s hs)) x.2.1 x.2.2.1⟩
end Go.Proofs.Ytbojnkcolamneaa
