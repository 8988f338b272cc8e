/- All words that lead somewhere new, with no program in sight. -/
import Derived.Test.YthdmngalhppkcaaM17
set_option linter.unusedVariables false
set_option linter.unusedSimpArgs false
namespace Go.Proofs.Ythdmngalhppkcaa
open Go Go.Pv Classical

section
variable {ν : Type} (nd : List Int → ν)
/-- The search that looks for nothing: all first words. -/
noncomputable def bfsA : Nat → Nat → List (List Int) → List (List Int)
  | 0, _, ws => ws
  | k + 1, h, ws => if h < ws.length then bfsA k (h + 1) (grow2 nd ws (ws.getD h [])) else ws
variable {nd} {goal : ν → Prop}
theorem bfsA_pre (hstep : ∀ u v x, nd u = nd v → nd (u ++ [x]) = nd (v ++ [x])) {N : Nat} (hN : ∀ ws : List (List Int), (∀ w ∈ ws, wok w) → (ws.map nd).Nodup → ws.length ≤ N) :
    ∀ (k h : Nat) (ws : List (List Int)), BI nd (fun _ => False) h ws → N - h < k → (∃ t, bfsA nd k h ws = ws ++ t) ∧ BI nd (fun _ => False) (bfsA nd k h ws).length (bfsA nd k h ws)
  | 0, h, ws, _, hk => by omega
  | k + 1, h, ws, hb, hk => by
    rw [bfsA]
    by_cases hh : h < ws.length
    · rw [if_pos hh]
      have hn := hb.next hstep hh (fun q => q)
      have := hN ws hb.wk hb.nod
      obtain ⟨⟨t, e⟩, h2⟩ := bfsA_pre hstep hN k (h + 1) _ hn (by omega)
      obtain ⟨t', h1, -⟩ := grow2_spec ws (ws.getD h []) hb.nod
      exact ⟨⟨t' ++ t, by rw [e, h1, List.append_assoc]⟩, h2⟩
    · rw [if_neg hh]
      have e : h = ws.length := by have := hb.hl; omega
      rw [← e]
      exact ⟨⟨[], by simp⟩, hb⟩
/-- A search that looks for something finds what the other one has. -/
theorem bfs_in (hstep : ∀ u v x, nd u = nd v → nd (u ++ [x]) = nd (v ++ [x])) {N : Nat} (hN : ∀ ws : List (List Int), (∀ w ∈ ws, wok w) → (ws.map nd).Nodup → ws.length ≤ N) :
    ∀ (k h : Nat) (ws : List (List Int)), BI nd (fun _ => False) h ws → N - h < k → (∀ i, i < h → ¬ goal (nd (ws.getD i []))) →
    (∀ w, bfs nd goal k h ws = some w → w ∈ bfsA nd k h ws ∧ goal (nd w)) ∧ (bfs nd goal k h ws = none → ∀ u ∈ bfsA nd k h ws, ¬ goal (nd u))
  | 0, h, ws, _, hk, _ => by omega
  | k + 1, h, ws, hb, hk, hg => by
    rw [bfsA, bfs]
    by_cases hh : h < ws.length
    · rw [if_pos hh, if_pos hh]
      have hn := hb.next hstep hh (fun q => q)
      have hNl := hN ws hb.wk hb.nod
      obtain ⟨t', h1, -⟩ := grow2_spec ws (ws.getD h []) hb.nod
      by_cases hgo : goal (nd (ws.getD h []))
      · rw [if_pos hgo]
        refine ⟨fun w e => ?_, fun e => (by cases e)⟩
        cases e
        obtain ⟨⟨t, e⟩, -⟩ := bfsA_pre hstep hN k (h + 1) _ hn (by omega)
        rw [e, h1]
        exact ⟨List.mem_append_left _ (List.mem_append_left _ (getD_mem [] hh)), hgo⟩
      · rw [if_neg hgo]
        refine bfs_in hstep hN k (h + 1) _ hn (by omega) fun i hi => ?_
        rw [h1, getD_app (by omega)]
        rcases Nat.lt_or_ge i h with q | q
        · exact hg i q
        · have : i = h := by omega
          rw [this]; exact hgo
    · rw [if_neg hh, if_neg hh]
      have e : h = ws.length := by have := hb.hl; omega
      refine ⟨fun w q => (by cases q), fun _ u hu => ?_⟩
      obtain ⟨i, hi, rfl⟩ := List.mem_iff_getElem.1 hu
      have ei : ws.getD i [] = ws[i] := getD_lt [] hi
      rw [← ei]
      exact hg i (by omega)
end
/-- Where a word leads in a box. -/
noncomputable abbrev nd1 (b : Bx) (w : List Int) : Int := en b 0 w
theorem nd1_step (b : Bx) (u v : List Int) (x : Int) (h : nd1 b u = nd1 b v) : nd1 b (u ++ [x]) = nd1 b (v ++ [x]) := by
  show en b 0 (u ++ [x]) = en b 0 (v ++ [x])
  rw [en_snoc, en_snoc]
  have h : en b 0 u = en b 0 v := h
  rw [h]
theorem few1 {b : Bx} (hv : V b) (ws : List (List Int)) (hw : ∀ w ∈ ws, wok w) (hn : (ws.map (nd1 b)).Nodup) : ws.length ≤ 6 := by
  have h := nodup_le (ws.map (nd1 b)) ((List.range b.1.length).map fun (i : Nat) => (i : Int)) hn fun x hx => by
    obtain ⟨w, hm, rfl⟩ := List.mem_map.1 hx
    have hi := en_in hv (zero_in hv) (hw w hm)
    obtain ⟨h0, h1⟩ := hi
    exact List.mem_map.2 ⟨(en b 0 w).toNat, List.mem_range.2 (by omega), (by omega : (((en b 0 w).toNat : Nat) : Int) = en b 0 w)⟩
  rw [List.length_map, List.length_map, List.length_range] at h
  have := hv.2.1
  omega
/-- All first words of a box. -/
noncomputable def wds (b : Bx) : List (List Int) := bfsA (nd1 b) 300 0 [[]]
theorem wds_spec {b : Bx} (hv : V b) : BI (nd1 b) (fun _ => False) (wds b).length (wds b) ∧ (wds b).length ≤ 6 := by
  obtain ⟨-, h⟩ := bfsA_pre (nd1_step b) (few1 hv) 300 0 [[]] BI.first (by omega)
  exact ⟨h, few1 hv _ h.wk h.nod⟩
end Go.Proofs.Ythdmngalhppkcaa
