/- To and Reached, the program's and the document's. -/
import Derived.Test.YthdmngalhppkcaaM19
set_option linter.unusedVariables false
set_option linter.unusedSimpArgs false
namespace Go.Proofs.Ythdmngalhppkcaa
open Go Go.Pv Classical

section
variable {b : Bx}
/-- The table of states that a word leads to. -/
def Tb (b : Bx) (t : List Bool) (ws : List (List Int)) : Prop := t.length = b.1.length ∧ ∀ j : Nat, j < b.1.length → t.getD j false = decide (∃ u ∈ ws, nd1 b u = (j : Int))
theorem Tb.grow {t : List Bool} {ws : List (List Int)} (h : Tb b t ws) {v : List Int} {i : Nat} (hi : i < b.1.length) (e : nd1 b v = (i : Int)) : Tb b (t.set i true) (ws ++ [v]) := by
  refine ⟨by rw [List.length_set]; exact h.1, fun j hj => ?_⟩
  by_cases q : j = i
  · subst q
    rw [decide_eq_true (show ∃ u ∈ ws ++ [v], nd1 b u = (j : Int) from ⟨v, by simp, e⟩)]
    have : j < (t.set j true).length := by rw [List.length_set, h.1]; exact hj
    simp [List.getD, h.1, hj]
  · have e1 : (t.set i true).getD j false = t.getD j false := by simp [List.getD, List.getElem?_set, Ne.symm q]
    rw [e1, h.2 j hj]
    refine decide_eq_decide.2 ⟨fun ⟨u, hu, e'⟩ => ⟨u, List.mem_append_left _ hu, e'⟩, fun ⟨u, hu, e'⟩ => ?_⟩
    rcases List.mem_append.1 hu with hu | hu
    · exact ⟨u, hu, e'⟩
    · simp only [List.mem_singleton] at hu
      subst hu
      exact absurd (by omega : j = i) q
theorem step57 (hv : V b) {K k h : Nat} {s : Int} {t : List Bool} {ws : List (List Int)} {w : List Int} (ht : Tb b t ws) (hh : h < ws.length) (hw0 : ws.getD h [] = w) (hl : ws.length ≤ 1000) (hw : wok w) (hwl : w.length ≤ 1000) {x : Int} (hx : x = 0 ∨ x = 1) :
    ∃ t', Tb b t' (grow (nd1 b) ws (w ++ [x])) ∧
      impll57_2 K (k + 1) s b ws t (h : Int) (nd1 b w) x = impll57_2 K k s b (grow (nd1 b) ws (w ++ [x])) t' (h : Int) (nd1 b w) (x + 1) := by
  rw [impll57_2, implb57_2]
  have hin := en_in hv (zero_in hv) hw
  have hin1 : 0 ≤ nd1 b w ∧ nd1 b w < (b.1.length : Int) := hin
  have hwx : wok (w ++ [x]) := fun y hy => by
    rcases List.mem_append.1 hy with hy | hy
    · exact hw y hy
    · simp only [List.mem_singleton] at hy; omega
  have hin2 : 0 ≤ nd1 b (w ++ [x]) ∧ nd1 b (w ++ [x]) < (b.1.length : Int) := en_in hv (zero_in hv) hwx
  have c1 : x < 2 := by omega
  have w1 : IntKind.i64.wrap (x + 1) = x + 1 := wrapI (by omega) (by omega)
  have e1 : (b.1.getD (nd1 b w).toNat (List.replicate 2 0)).getD x.toNat 0 = nd1 b (w ++ [x]) := by
    show nx b (en b 0 w) x = en b 0 (w ++ [x])
    rw [en_snoc]
  obtain ⟨i, hi⟩ : ∃ i : Nat, nd1 b (w ++ [x]) = (i : Int) := ⟨(nd1 b (w ++ [x])).toNat, by omega⟩
  have hil : i < b.1.length := by omega
  have hti := ht.2 i hil
  have htl : (t.length : Int) = (b.1.length : Int) := by rw [ht.1]
  have e7 : ((i : Int)).toNat = i := rfl
  have e8 : ws.getD ((h : Int)).toNat [] = w := hw0
  simp only [cdec, if_pos c1, w1, e1, htl, if_pos hin1]
  rw [if_pos (by omega), if_pos hin2, hi, e7, hti]
  unfold grow
  by_cases g : ∃ u ∈ ws, nd1 b u = nd1 b (w ++ [x])
  · rw [if_pos g]
    rw [hi] at g
    rw [decide_eq_true g]
    exact ⟨t, ht, rfl⟩
  · rw [if_neg g]
    have g' := g
    rw [hi] at g
    rw [decide_eq_false g]
    simp only [Bool.not_false, cond_true, e8]
    have hlen : (List.replicate 0 (0 : Int) ++ w).length ≤ 1000 := by simpa using hwl
    rw [if_pos (by omega), if_pos (by omega), if_pos (by simp; omega), if_pos (by simp; omega), if_pos (by simp; omega)]
    exact ⟨_, ht.grow hil hi, rfl⟩
theorem inner57 (hv : V b) {K h : Nat} {s : Int} {t : List Bool} {ws : List (List Int)} {w : List Int} (hK : 10 ≤ K) (hn : (ws.map (nd1 b)).Nodup) (ht : Tb b t ws) (hh : h < ws.length) (hw0 : ws.getD h [] = w) (hl : ws.length ≤ 900) (hw : wok w) (hwl : w.length ≤ 1000) :
    ∃ t', Tb b t' (grow2 (nd1 b) ws w) ∧ impll57_2 K K s b ws t (h : Int) (nd1 b w) 0 = some (grow2 (nd1 b) ws w, t', 2, ()) := by
  obtain ⟨K', rfl⟩ : ∃ K', K = K' + 3 := ⟨K - 3, by omega⟩
  obtain ⟨t1, h1, e1⟩ := step57 hv (K := K' + 3) (k := K' + 2) (s := s) ht hh hw0 (by omega) hw hwl (x := 0) (.inl rfl)
  obtain ⟨r, r1, -, r3, -⟩ := grow_spec (nd := nd1 b) ws (w ++ [0]) hn
  have hg := growLen (nd1 b) ws (w ++ [0])
  obtain ⟨t2, h2, e2⟩ := step57 hv (K := K' + 3) (k := K' + 1) (s := s) (h := h) h1 (by omega) (by rw [r1, getD_app hh]; exact hw0) (by omega) hw hwl (x := 1) (.inr rfl)
  refine ⟨t2, h2, ?_⟩
  rw [e1]
  have : (0 : Int) + 1 = 1 := rfl
  rw [this, e2]
  have : (1 : Int) + 1 = 2 := rfl
  rw [this, impll57_2, implb57_2]
  rfl
theorem s57 (hv : V b) {K : Nat} {s : Int} (hK : 10 ≤ K) :
    ∀ (k h : Nat) (ws : List (List Int)) (t : List Bool), BI (nd1 b) (fun _ => False) h ws → 6 - h < k → Tb b t ws →
      match bfs (nd1 b) (fun p => p = s) k h ws with
      | some w => impll57_0 K k s b ws t (h : Int) = some (.inr (w, true, 0, ()))
      | none => ∃ r, impll57_0 K k s b ws t (h : Int) = some (.inl r)
  | 0, h, ws, t, _, hk, _ => by omega
  | k + 1, h, ws, t, hb, hk, ht => by
    have hNw := few1 hv ws hb.wk hb.nod
    rw [bfs]
    by_cases hh : h < ws.length
    · have hmem := getD_mem [] hh
      have hwk := hb.wk _ hmem
      have hwl := hb.lb h hh
      have e8 : ws.getD ((h : Int)).toNat [] = ws.getD h [] := rfl
      have h65 : implf65 K b 0 (ws.getD h []) = some (nd1 b (ws.getD h [])) := f65 K hv hwk (zero_in hv) (by omega) (by omega)
      have e9 : impll57_0 K (k + 1) s b ws t (h : Int) = if nd1 b (ws.getD h []) = s then some (.inr (ws.getD h [], true, 0, ())) else ob (impll57_2 K K s b ws t (h : Int) (nd1 b (ws.getD h [])) 0) fun y => impll57_0 K k s b y.1 y.2.1 (((h + 1 : Nat)) : Int) := by
        rw [impll57_0, implb57_0]
        simp only [cdec, e8]
        rw [if_pos (by omega), if_pos (by omega), h65, obS]
        simp only [ibeq, cdec]
        by_cases hg : nd1 b (ws.getD h []) = s
        · rw [if_pos hg, if_pos hg, if_pos (by omega)]
        · rw [if_neg hg, if_neg hg, wrapS (by omega)]
      rw [if_pos hh, e9]
      by_cases hg : nd1 b (ws.getD h []) = s
      · rw [if_pos hg, if_pos (show (fun p => p = s) (nd1 b (ws.getD h [])) from hg)]
      · obtain ⟨t', h1, h2⟩ := inner57 hv (s := s) hK hb.nod ht hh rfl (by omega) hwk (by omega)
        rw [if_neg hg, if_neg (show ¬ (fun p => p = s) (nd1 b (ws.getD h [])) from hg), h2, obS]
        exact s57 hv hK k (h + 1) _ t' (hb.next (nd1_step b) hh (fun q => q)) (by omega) h1
    · rw [if_neg hh]
      have e : h = ws.length := by have := hb.hl; omega
      subst e
      rw [impll57_0, implb57_0]
      simp only [cdec]
      rw [if_neg (by omega)]
      exact ⟨_, rfl⟩

/-- A shortest first word that leads to a state. -/
noncomputable def tow (b : Bx) (s : Int) : List Int × Bool × Int := if V b then (if 0 ≤ s ∧ s ≤ (b.1.length : Int) - 1 then (match bfs (nd1 b) (fun p => p = s) 300 0 [[]] with | some w => (w, true, 0) | none => ([], false, 0)) else ([], false, 4)) else ([], false, 1)
theorem f57 (b : Bx) (s : Int) : implf57 300 b s = some (tow b s) := by
  unfold implf57 tow
  rw [f72 300 (by omega)]
  simp only [obS, ibne, cnot, cdec]
  by_cases hv : V b
  · simp only [if_pos hv]
    by_cases hs : 0 ≤ s ∧ s ≤ (b.1.length : Int) - 1
    · simp only [if_pos hs]
      have h6 := hv.2.1
      have h22 := hv.2.2.1
      have h1 := hv.1
      have ht : Tb b ((List.replicate (b.2.length : Int).toNat false).set 0 true) [[]] := by
        have h0 : Tb b (List.replicate (b.2.length : Int).toNat false) [] := by
          refine ⟨by rw [List.length_replicate]; omega, fun j hj => ?_⟩
          have : ¬ ∃ u ∈ ([] : List (List Int)), nd1 b u = (j : Int) := by rintro ⟨u, hu, _⟩; cases hu
          rw [decide_eq_false this, List.getD_eq_getElem?_getD, List.getElem?_replicate]
          split <;> rfl
        exact h0.grow (v := []) (i := 0) (by omega) rfl
      rw [if_pos trivial, if_pos (by omega), if_pos (by rw [List.length_replicate]; omega)]
      have h := s57 hv (K := 300) (s := s) (by omega) 300 0 [[]] _ BI.first (by omega) ht
      have ee : ((List.replicate 1 ([] : List Int)).set 0 []) = [[]] := rfl
      rw [ee]
      cases hb : bfs (nd1 b) (fun p => p = s) 300 0 [[]] with
      | some w => rw [hb] at h; have h : impll57_0 300 300 s b [[]] _ 0 = _ := h; rw [h]; rfl
      | none => rw [hb] at h; obtain ⟨r, h⟩ := h; have h : impll57_0 300 300 s b [[]] _ 0 = _ := h; rw [h]; rfl
    · simp only [if_neg hs]
      rw [if_neg (by omega)]
  · simp only [if_neg hv]
    rw [if_neg (by omega)]
theorem find_to (hv : V b) (s : Int) : (∀ w, bfs (nd1 b) (fun p => p = s) 300 0 [[]] = some w → w ∈ wds b ∧ en b 0 w = s ∧ mget (.int .i64) (.sl (.int .i64)) (mOf b (wds b)) s = some w) ∧
    (bfs (nd1 b) (fun p => p = s) 300 0 [[]] = none → (¬ ∃ u ∈ wds b, nd1 b u = s) ∧ mget (.int .i64) (.sl (.int .i64)) (mOf b (wds b)) s = none) := by
  obtain ⟨h1, h2⟩ := bfs_in (goal := fun p => p = s) (nd1_step b) (few1 hv) 300 0 [[]] BI.first (by omega) (fun i hi => absurd hi (Nat.not_lt_zero _))
  obtain ⟨hB, -⟩ := wds_spec hv
  constructor
  · intro w e
    obtain ⟨g1, g2⟩ := h1 w e
    have g2 : en b 0 w = s := g2
    refine ⟨g1, g2, ?_⟩
    rw [← g2]
    exact mOf_some hB.nod g1
  · intro e
    have g := h2 e
    have g' : ¬ ∃ u ∈ wds b, nd1 b u = s := fun ⟨u, hu, e'⟩ => g u hu e'
    exact ⟨g', (mOf_none [] g').1⟩
theorem f56 (b : Bx) (s : Int) : implf56 300 b s = some (tow b s) := by
  unfold implf56 tow
  have e : (List.replicate 1 (0 : Int)).set 0 s = [s] := rfl
  rw [e, f70 300 (by omega)]
  simp only [obS, ibne, cnot, cdec]
  by_cases hv : V b
  · simp only [if_pos hv]
    by_cases hs : 0 ≤ s ∧ s ≤ (b.1.length : Int) - 1
    · simp only [if_pos hs]
      rw [if_pos trivial, f83 hv, obS]
      obtain ⟨h1, h2⟩ := find_to hv s
      cases hb : bfs (nd1 b) (fun p => p = s) 300 0 [[]] with
      | some w => rw [(h1 w hb).2.2]
      | none => rw [(h2 hb).2]
    · simp only [if_neg hs]
      rw [if_neg (by omega)]
  · simp only [if_neg hv]
    rw [if_neg (by omega)]

noncomputable def rch (b : Bx) : List Int := isort leI ((wds b).map (nd1 b))
noncomputable def rchC (b : Bx) : List Int × Int := if V b then (rch b, 0) else ([], 1)
theorem f54 (b : Bx) : implf54 300 b = some (rchC b) := by
  unfold implf54 rchC rch
  rw [f30 300 (by omega), obS]
  by_cases hv : V b
  · obtain ⟨-, h6⟩ := wds_spec hv
    rw [if_pos hv, if_pos hv, decide_eq_true rfl, f83 hv]
    have e : (mOf b (wds b)).map (fun p => p.1) = (wds b).map (nd1 b) := by unfold mOf; rw [List.map_map]; rfl
    show (if (mOf b (wds b)).length ≤ 1000 then some (isort leI ((mOf b (wds b)).map fun p => p.1), (0 : Int)) else none) = _
    rw [e, if_pos (by unfold mOf; rw [List.length_map]; omega)]
  · rw [if_neg hv, if_neg hv]; rfl
noncomputable def hit (b : Bx) (j : Nat) : Bool := decide (∃ u ∈ wds b, nd1 b u = (j : Int))
theorem tow_hit (hv : V b) {j : Nat} (hj : j < b.1.length) : (tow b (j : Int)).2.1 = hit b j := by
  unfold tow hit
  rw [if_pos hv, if_pos (by omega)]
  obtain ⟨h1, h2⟩ := find_to hv (j : Int)
  cases hb : bfs (nd1 b) (fun p => p = (j : Int)) 300 0 [[]] with
  | some w => obtain ⟨g1, g2, -⟩ := h1 w hb; exact (decide_eq_true ⟨w, g1, g2⟩).symm
  | none => exact (decide_eq_false (h2 hb).1).symm
theorem l55 (hv : V b) : ∀ (m k j : Nat) (xs : List Int), j + m = b.1.length → m < k → xs.length ≤ j →
    impll55_0 300 k b xs (j : Int) = some (xs ++ ((List.range' j m).filter (hit b)).map (fun (i : Nat) => (i : Int)), (b.1.length : Int), ())
  | m, 0, j, xs, _, h, _ => by omega
  | 0, k + 1, j, xs, h1, _, _ => by
    have h22 := hv.2.2.1
    rw [impll55_0, implb55_0]
    simp only [cdec]
    rw [if_neg (by omega)]
    have : j = b.1.length := by omega
    subst this
    simp
  | m + 1, k + 1, j, xs, h1, h2, h3 => by
    have h22 := hv.2.2.1
    have h6 := hv.2.1
    rw [impll55_0, implb55_0]
    simp only [cdec]
    rw [if_pos (by omega), f57, obS, wrapS (by omega), tow_hit hv (by omega), List.range'_succ, List.filter_cons]
    cases hh : hit b j with
    | true =>
      simp only [cond_true, if_true]
      rw [if_pos (by simp; omega)]
      have ih := l55 hv m k (j + 1) (xs ++ [(j : Int)]) (by omega) (by omega) (by simp; omega)
      have ih : impll55_0 300 k b (xs ++ (List.replicate 1 (0 : Int)).set 0 (j : Int)) (((j + 1 : Nat)) : Int) = _ := ih
      rw [ih, List.map_cons, List.append_assoc]; rfl
    | false =>
      exact l55 hv m k (j + 1) xs (by omega) (by omega) (by omega)
theorem pair_map {f : Nat → Int} {r : Int → Int → Prop} {s : Nat → Nat → Prop} (h : ∀ a b, s a b → r (f a) (f b)) {l : List Nat} (hl : l.Pairwise s) : (l.map f).Pairwise r := List.pairwise_map.2 (hl.imp fun {a b} g => h a b g)
theorem rch_eq (hv : V b) : ((List.range' 0 b.1.length).filter (hit b)).map (fun (i : Nat) => (i : Int)) = rch b := by
  obtain ⟨hB, -⟩ := wds_spec hv
  have hlt : ((List.range' 0 b.1.length).filter (hit b)).Pairwise (· < ·) := (List.pairwise_lt_range' (s := 0) (n := b.1.length)).filter _
  refine sorted_unique' (le := leI) (fun x y h1 h2 => by unfold leI at h1 h2; have := of_decide_eq_true h1; have := of_decide_eq_true h2; omega) ?_ ?_ (isort_sorted leI_tr leI_to _)
  · refine List.Perm.trans ?_ (isort_perm _).symm
    refine (List.perm_ext_iff_of_nodup ?_ hB.nod).2 fun x => ?_
    · exact pair_map (fun a c g => by show ((a : Int)) ≠ (c : Int); omega) hlt
    · rw [List.mem_map, List.mem_map]
      constructor
      · rintro ⟨i, hi, rfl⟩
        obtain ⟨-, hi⟩ := List.mem_filter.1 hi
        exact of_decide_eq_true hi
      · rintro ⟨u, hu, rfl⟩
        have hin : 0 ≤ nd1 b u ∧ nd1 b u < (b.1.length : Int) := en_in hv (zero_in hv) (hB.wk u hu)
        refine ⟨(nd1 b u).toNat, List.mem_filter.2 ⟨List.mem_range'_1.2 (by omega), decide_eq_true ⟨u, hu, by omega⟩⟩, by omega⟩
  · exact pair_map (fun a c g => decide_eq_true (by omega)) hlt
theorem f55 (b : Bx) : implf55 300 b = some (rchC b) := by
  unfold implf55 rchC
  rw [f31 300 (by omega)]
  simp only [obS, ibne, cnot, cdec]
  by_cases hv : V b
  · simp only [if_pos hv]
    have h6 := hv.2.1
    have h := l55 hv b.1.length 300 0 [] (by omega) (by omega) (Nat.le_refl _)
    have h : impll55_0 300 300 b [] 0 = _ := h
    rw [if_pos trivial, h, rch_eq hv]; rfl
  · simp only [if_neg hv]
    rw [if_neg (by omega)]
end
end Go.Proofs.Ythdmngalhppkcaa
