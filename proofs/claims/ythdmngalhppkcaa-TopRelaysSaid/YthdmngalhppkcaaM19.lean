/- The words of all states: the program's map, and the document's search. -/
import Derived.Test.YthdmngalhppkcaaM18
set_option linter.unusedVariables false
set_option linter.unusedSimpArgs false
namespace Go.Proofs.Ythdmngalhppkcaa
open Go Go.Pv Classical

/-- The map of words: where each leads. -/
def mOf (b : Bx) (ws : List (List Int)) : List (Int × List Int) := ws.map fun w => (en b 0 w, w)
theorem beqI (a c : (Ty.int .i64).den) : (Ty.int .i64).beq a c = true ↔ a = c := decide_eq_true_iff
theorem beqI_ne {a c : Int} (h : a ≠ c) : (Ty.int .i64).beq a c = false := decide_eq_false h
theorem mOf_none {b : Bx} {p : Int} (v : List Int) : ∀ {ws : List (List Int)}, (¬ ∃ u ∈ ws, nd1 b u = p) → mget (.int .i64) (.sl (.int .i64)) (mOf b ws) p = none ∧ mset (.int .i64) (.sl (.int .i64)) (mOf b ws) p v = mOf b ws ++ [(p, v)]
  | [], _ => ⟨rfl, rfl⟩
  | u :: ws, h => by
    have h1 : p ≠ en b 0 u := fun e => h ⟨u, List.mem_cons_self, e.symm⟩
    obtain ⟨i1, i2⟩ := mOf_none (b := b) (p := p) v (ws := ws) (fun ⟨u, hu, e⟩ => h ⟨u, List.mem_cons_of_mem _ hu, e⟩)
    constructor
    · show cond ((Ty.int .i64).beq p (en b 0 u)) _ (mget (.int .i64) (.sl (.int .i64)) (mOf b ws) p) = none
      rw [beqI_ne h1]; exact i1
    · show cond ((Ty.int .i64).beq p (en b 0 u)) _ ((en b 0 u, u) :: mset (.int .i64) (.sl (.int .i64)) (mOf b ws) p v) = _
      rw [beqI_ne h1]
      show (en b 0 u, u) :: mset (.int .i64) (.sl (.int .i64)) (mOf b ws) p v = _
      rw [i2]; rfl
theorem mOf_some {b : Bx} {w : List Int} : ∀ {ws : List (List Int)}, (ws.map (nd1 b)).Nodup → w ∈ ws → mget (.int .i64) (.sl (.int .i64)) (mOf b ws) (en b 0 w) = some w
  | u :: ws, hn, hw => by
    have hn' : nd1 b u ∉ ws.map (nd1 b) ∧ (ws.map (nd1 b)).Nodup := List.nodup_cons.1 hn
    show cond ((Ty.int .i64).beq (en b 0 w) (en b 0 u)) (some u) (mget (.int .i64) (.sl (.int .i64)) (mOf b ws) (en b 0 w)) = some w
    rcases List.mem_cons.1 hw with rfl | h
    · rw [(beqI _ _).2 rfl]; rfl
    · have h1 : en b 0 w ≠ en b 0 u := fun e => hn'.1 (List.mem_map.2 ⟨w, h, e⟩)
      rw [beqI_ne h1]
      exact mOf_some hn'.2 h

theorem growLen {ν : Type} (nd : List Int → ν) (ws : List (List Int)) (v : List Int) : ws.length ≤ (grow nd ws v).length ∧ (grow nd ws v).length ≤ ws.length + 1 := by
  unfold grow
  split <;> simp

section
variable {b : Bx}
theorem step83 (hv : V b) {K k h : Nat} {ws : List (List Int)} {w : List Int} (hn : (ws.map (nd1 b)).Nodup) (hh : h + 1 ≤ ws.length) (hl : ws.length ≤ 1000) (hm : w ∈ ws) (hw : wok w) (hwl : w.length ≤ 1000) {x : Int} (hx : x = 0 ∨ x = 1) :
    impll83_2 K (k + 1) b (mOf b ws) ((ws.drop (h + 1)).map (nd1 b)) (nd1 b w) (b.1.getD (nd1 b w).toNat (List.replicate 2 0)) x =
      impll83_2 K k b (mOf b (grow (nd1 b) ws (w ++ [x]))) (((grow (nd1 b) ws (w ++ [x])).drop (h + 1)).map (nd1 b)) (nd1 b w) (b.1.getD (nd1 b w).toNat (List.replicate 2 0)) (x + 1) := by
  rw [impll83_2, implb83_2]
  have c1 : x < 2 := by omega
  have w1 : IntKind.i64.wrap (x + 1) = x + 1 := wrapI (by omega) (by omega)
  have e1 : (b.1.getD (nd1 b w).toNat (List.replicate 2 0)).getD x.toNat 0 = nd1 b (w ++ [x]) := by
    show nx b (en b 0 w) x = en b 0 (w ++ [x])
    rw [en_snoc]
  have e1' : (b.1.getD (nd1 b w).toNat (List.replicate 2 0)).getD x.toNat (Int.ofNat 0) = nd1 b (w ++ [x]) := e1
  have e2 : mget (.int .i64) (.sl (.int .i64)) (mOf b ws) (nd1 b w) = some w := mOf_some hn hm
  simp only [cdec, if_pos c1, w1, e1, e2]
  rw [if_pos (by omega)]
  unfold grow
  by_cases g : ∃ u ∈ ws, nd1 b u = nd1 b (w ++ [x])
  · have e3 : (mget (.int .i64) (.sl (.int .i64)) (mOf b ws) (nd1 b (w ++ [x]))).isSome = true := by
      obtain ⟨u, hu, e⟩ := g
      rw [← e]
      show (mget (.int .i64) (.sl (.int .i64)) (mOf b ws) (en b 0 u)).isSome = true
      rw [mOf_some hn hu]; rfl
    rw [if_pos g, e3]
    rfl
  · obtain ⟨g1, g2⟩ := mOf_none (w ++ [x]) g
    rw [if_neg g, g1, f66 K _ (by omega)]
    have e5 : mset (.int .i64) (.sl (.int .i64)) (mOf b ws) (nd1 b (w ++ [x])) (w ++ (List.replicate 1 0).set 0 x) = mOf b (ws ++ [w ++ [x]]) := by
      refine g2.trans ?_
      unfold mOf
      rw [List.map_append]; rfl
    have e6 : ((ws ++ [w ++ [x]]).drop (h + 1)).map (nd1 b) = (ws.drop (h + 1)).map (nd1 b) ++ [nd1 b (w ++ [x])] := by
      rw [List.drop_append_of_le_length hh, List.map_append]; rfl
    rw [e6]
    simp only [obS, Option.isSome_none, Bool.not_false, cond_true]
    rw [if_pos (by simp; omega), if_pos (by simp; omega), e5]
    rfl
theorem inner83 (hv : V b) {K h : Nat} {ws : List (List Int)} {w : List Int} (hK : 10 ≤ K) (hn : (ws.map (nd1 b)).Nodup) (hh : h + 1 ≤ ws.length) (hl : ws.length ≤ 900) (hm : w ∈ ws) (hw : wok w) (hwl : w.length ≤ 1000) :
    impll83_2 K K b (mOf b ws) ((ws.drop (h + 1)).map (nd1 b)) (nd1 b w) (b.1.getD (nd1 b w).toNat (List.replicate 2 0)) 0 = some (mOf b (grow2 (nd1 b) ws w), ((grow2 (nd1 b) ws w).drop (h + 1)).map (nd1 b), 2, ()) := by
  obtain ⟨K', rfl⟩ : ∃ K', K = K' + 3 := ⟨K - 3, by omega⟩
  have e1 := step83 hv (K := K' + 3) (k := K' + 2) hn hh (by omega) hm hw hwl (x := 0) (.inl rfl)
  obtain ⟨t, t1, -, t3, -⟩ := grow_spec (nd := nd1 b) ws (w ++ [0]) hn
  have hg := growLen (nd1 b) ws (w ++ [0])
  have e2 := step83 hv (K := K' + 3) (k := K' + 1) (h := h) t3 (by omega) (by omega) (by rw [t1]; exact List.mem_append_left _ hm) hw hwl (x := 1) (.inr rfl)
  rw [e1]
  have : (0 : Int) + 1 = 1 := rfl
  rw [this, e2]
  have : (1 : Int) + 1 = 2 := rfl
  rw [this, impll83_2, implb83_2]
  rfl
theorem s83 (hv : V b) {K : Nat} (hK : 10 ≤ K) :
    ∀ (k h : Nat) (ws : List (List Int)), BI (nd1 b) (fun _ => False) h ws → 6 - h < k → impll83_0 K k b (mOf b ws) ((ws.drop h).map (nd1 b)) = some (mOf b (bfsA (nd1 b) k h ws), [], ())
  | 0, h, ws, _, hk => by omega
  | k + 1, h, ws, hb, hk => by
    have hNw := few1 hv ws hb.wk hb.nod
    rw [bfsA]
    by_cases hh : h < ws.length
    · have hmem := getD_mem [] hh
      have hwk := hb.wk _ hmem
      have hin := en_in hv (zero_in hv) hwk
      have hd : (ws.drop h).map (nd1 b) = nd1 b (ws.getD h []) :: (ws.drop (h + 1)).map (nd1 b) := by
        rw [drop_getD [] hh]; rfl
      have e0 : ∀ (d : Int) l, (nd1 b (ws.getD h []) :: l).getD 0 d = nd1 b (ws.getD h []) := fun _ _ => rfl
      have e6 : ∀ l, List.drop 1 (nd1 b (ws.getD h []) :: l) = l := fun _ => rfl
      have hlen : (nd1 b (ws.getD h []) :: (ws.drop (h + 1)).map (nd1 b)).length = ws.length - h := by
        rw [List.length_cons, List.length_map, List.length_drop]; omega
      have hin1 : 0 ≤ nd1 b (ws.getD h []) ∧ nd1 b (ws.getD h []) < (b.1.length : Int) := hin
      have hwl := hb.lb h hh
      rw [if_pos hh, hd, impll83_0, implb83_0]
      simp only [e0, e6, cdec]
      rw [if_pos (by rw [hlen]; omega), if_pos (by rw [hlen]; omega), if_pos (by rw [hlen]; omega), if_pos hin1, inner83 hv hK hb.nod (by omega) (by omega) hmem hwk (by omega), obS]
      exact s83 hv hK k (h + 1) _ (hb.next (nd1_step b) hh (fun q => q)) (by omega)
    · rw [if_neg hh]
      have e : h = ws.length := by have := hb.hl; omega
      subst e
      rw [List.drop_length, impll83_0, implb83_0]
      rfl
theorem f83 (hv : V b) : implf83 300 b = some (mOf b (wds b)) := by
  unfold implf83 wds
  have h := s83 hv (K := 300) (by omega) 300 0 [[]] BI.first (by omega)
  have h : impll83_0 300 300 b [((0 : Int), [])] ((List.replicate 1 (0 : Int)).set 0 (0 : Int)) = _ := h
  rw [h]; rfl
end
end Go.Proofs.Ythdmngalhppkcaa
