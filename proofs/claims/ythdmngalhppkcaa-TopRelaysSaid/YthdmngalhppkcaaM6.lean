/- The search for a shortest word, with no program in sight. -/
import Derived.Test.YthdmngalhppkcaaM5
set_option linter.unusedVariables false
set_option linter.unusedSimpArgs false
namespace Go.Proofs.Ythdmngalhppkcaa
open Go Go.Pv Classical

section
variable {ν : Type} (nd : List Int → ν) (goal : ν → Prop)

/-- A word is laid behind the others if none leads where it leads. -/
noncomputable def grow (ws : List (List Int)) (v : List Int) : List (List Int) := if ∃ u ∈ ws, nd u = nd v then ws else ws ++ [v]
noncomputable def grow2 (ws : List (List Int)) (w : List Int) : List (List Int) := grow nd (grow nd ws (w ++ [0])) (w ++ [1])
noncomputable def bfs : Nat → Nat → List (List Int) → Option (List Int)
  | 0, _, _ => none
  | k + 1, h, ws => if h < ws.length then (if goal (nd (ws.getD h [])) then some (ws.getD h []) else bfs k (h + 1) (grow2 nd ws (ws.getD h []))) else none

variable {nd goal}

theorem grow_spec (ws : List (List Int)) (v : List Int) (hn : (ws.map nd).Nodup) : ∃ t, grow nd ws v = ws ++ t ∧ (∀ u ∈ t, u = v) ∧ ((grow nd ws v).map nd).Nodup ∧ ∃ u ∈ grow nd ws v, nd u = nd v := by
  unfold grow
  by_cases h : ∃ u ∈ ws, nd u = nd v
  · rw [if_pos h]
    exact ⟨[], by simp, by simp, hn, h⟩
  · rw [if_neg h]
    refine ⟨[v], rfl, by simp, ?_, v, by simp, rfl⟩
    rw [List.map_append, List.nodup_append]
    refine ⟨hn, by simp, ?_⟩
    intro a ha b hb e
    obtain ⟨u, hu, rfl⟩ := List.mem_map.1 ha
    simp only [List.map_cons, List.map_nil, List.mem_singleton] at hb
    exact h ⟨u, hu, by rw [e, hb]⟩

theorem grow2_spec (ws : List (List Int)) (w : List Int) (hn : (ws.map nd).Nodup) : ∃ t, grow2 nd ws w = ws ++ t ∧ (∀ u ∈ t, u = w ++ [0] ∨ u = w ++ [1]) ∧ ((grow2 nd ws w).map nd).Nodup ∧
    (∃ u ∈ grow2 nd ws w, nd u = nd (w ++ [0])) ∧ ∃ u ∈ grow2 nd ws w, nd u = nd (w ++ [1]) := by
  obtain ⟨t, h1, h2, h3, h4⟩ := grow_spec ws (w ++ [0]) hn
  obtain ⟨t', g1, g2, g3, g4⟩ := grow_spec (grow nd ws (w ++ [0])) (w ++ [1]) h3
  refine ⟨t ++ t', ?_, ?_, g3, ?_, g4⟩
  · unfold grow2; rw [g1, h1, List.append_assoc]
  · intro u hu
    rcases List.mem_append.1 hu with hu | hu
    · exact .inl (h2 u hu)
    · exact .inr (g2 u hu)
  · obtain ⟨u, hu, e⟩ := h4
    exact ⟨u, by unfold grow2; rw [g1]; exact List.mem_append_left _ hu, e⟩

theorem getD_lt {α : Type} {l : List α} {i : Nat} (d : α) (h : i < l.length) : l.getD i d = l[i] := by simp [List.getD, h]
theorem getD_app {ws t : List (List Int)} {i : Nat} (h : i < ws.length) : (ws ++ t).getD i [] = ws.getD i [] := by
  simp [List.getD, List.getElem?_append_left h]
theorem getD_app_r {ws t : List (List Int)} {i : Nat} (h : ws.length ≤ i) (h2 : i < (ws ++ t).length) : (ws ++ t).getD i [] ∈ t := by
  have h3 : i - ws.length < t.length := by simp at h2; omega
  have : (ws ++ t).getD i [] = t[i - ws.length] := by simp [List.getD, List.getElem?_append_right h, h3]
  rw [this]; exact List.getElem_mem _

variable (nd goal)
/-- What holds before each turn of the search. -/
structure BI (h : Nat) (ws : List (List Int)) : Prop where
  hl : h ≤ ws.length
  nod : (ws.map nd).Nodup
  wk : ∀ w ∈ ws, wok w
  st : ∃ u ∈ ws, nd u = nd []
  mono : ∀ i j, i ≤ j → j < ws.length → (ws.getD i []).length ≤ (ws.getD j []).length
  top : h < ws.length → ∀ j, j < ws.length → (ws.getD j []).length ≤ (ws.getD h []).length + 1
  cl : ∀ i, i < h → (∃ u ∈ ws, nd u = nd (ws.getD i [] ++ [0])) ∧ ∃ u ∈ ws, nd u = nd (ws.getD i [] ++ [1])
  ng : ∀ i, i < h → ¬ goal (nd (ws.getD i []))
  lb : ∀ j, j < ws.length → (ws.getD j []).length ≤ j
  lev : h < ws.length → ∀ v, wok v → v.length ≤ (ws.getD h []).length → ∃ j, j < ws.length ∧ nd (ws.getD j []) = nd v ∧ (ws.getD j []).length ≤ v.length
variable {nd goal}

theorem BI.first : BI nd goal 0 [[]] where
  hl := by simp
  nod := by simp
  wk := by intro w hw; simp at hw; subst hw; intro x hx; cases hx
  st := ⟨[], by simp, rfl⟩
  mono := by
    intro i j hij hj
    simp at hj
    have : i = 0 := by omega
    subst hj this; exact Nat.le_refl _
  top := by
    intro _ j hj
    simp at hj
    subst hj; exact Nat.le_succ _
  cl := fun i h => absurd h (by omega)
  ng := fun i h => absurd h (by omega)
  lb := by
    intro j hj
    simp at hj
    subst hj; exact Nat.le_refl _
  lev := by
    intro _ v _ hv
    have hv : v.length ≤ 0 := hv
    have : v = [] := List.eq_nil_of_length_eq_zero (by omega)
    subst this
    exact ⟨0, by simp, rfl, Nat.le_refl _⟩

theorem wok_snoc {v : List Int} {x : Int} (h : wok (v ++ [x])) : wok v ∧ (x = 0 ∨ x = 1) := by
  refine ⟨fun y hy => h y (by simp [hy]), ?_⟩
  have := h x (by simp)
  omega

theorem BI.next (hstep : ∀ u v x, nd u = nd v → nd (u ++ [x]) = nd (v ++ [x])) {h : Nat} {ws : List (List Int)} (hb : BI nd goal h ws) (hh : h < ws.length) (hg : ¬ goal (nd (ws.getD h []))) :
    BI nd goal (h + 1) (grow2 nd ws (ws.getD h [])) := by
  obtain ⟨t, h1, h2, h3, h4, h5⟩ := grow2_spec ws (ws.getD h []) hb.nod
  rw [h1] at h3 h4 h5 ⊢
  have hwm : ws.getD h [] ∈ ws := getD_mem [] hh
  have hlen : ∀ u ∈ t, u.length = (ws.getD h []).length + 1 := fun u hu => by
    rcases h2 u hu with rfl | rfl <;> simp
  have all : ∀ j, j < (ws ++ t).length → ((ws ++ t).getD j []).length ≤ (ws.getD h []).length + 1 := fun j hj => by
    rcases Nat.lt_or_ge j ws.length with g | g
    · rw [getD_app g]; exact hb.top hh j g
    · exact Nat.le_of_eq (hlen _ (getD_app_r g hj))
  have mono : ∀ i j, i ≤ j → j < (ws ++ t).length → ((ws ++ t).getD i []).length ≤ ((ws ++ t).getD j []).length := fun i j hij hj => by
    rcases Nat.lt_or_ge j ws.length with g | g
    · rw [getD_app g, getD_app (by omega)]; exact hb.mono i j hij g
    · rw [hlen _ (getD_app_r g hj)]; exact all i (by omega)
  have cl : ∀ i, i < h + 1 → (∃ u ∈ ws ++ t, nd u = nd ((ws ++ t).getD i [] ++ [0])) ∧ ∃ u ∈ ws ++ t, nd u = nd ((ws ++ t).getD i [] ++ [1]) := fun i hi => by
    rw [getD_app (by omega)]
    rcases Nat.lt_or_ge i h with g | g
    · obtain ⟨⟨u, hu, e⟩, u', hu', e'⟩ := hb.cl i g
      exact ⟨⟨u, List.mem_append_left _ hu, e⟩, u', List.mem_append_left _ hu', e'⟩
    · have : i = h := by omega
      subst this; exact ⟨h4, h5⟩
  refine ⟨by simp; omega, h3, ?_, ?_, mono, ?_, cl, ?_, ?_, ?_⟩
  · intro w hw
    rcases List.mem_append.1 hw with hw | hw
    · exact hb.wk w hw
    · have hk := hb.wk _ hwm
      intro y hy
      rcases h2 w hw with rfl | rfl
      · rcases List.mem_append.1 hy with hy | hy
        · exact hk y hy
        · simp at hy; omega
      · rcases List.mem_append.1 hy with hy | hy
        · exact hk y hy
        · simp at hy; omega
  · obtain ⟨u, hu, e⟩ := hb.st
    exact ⟨u, List.mem_append_left _ hu, e⟩
  · intro hh' j hj
    have := all j hj
    have := mono h (h + 1) (by omega) hh'
    rw [getD_app hh] at this
    omega
  · intro i hi
    rw [getD_app (by omega)]
    rcases Nat.lt_or_ge i h with g | g
    · exact hb.ng i g
    · have : i = h := by omega
      subst this; exact hg
  · intro j hj
    rcases Nat.lt_or_ge j ws.length with g | g
    · rw [getD_app g]; exact hb.lb j g
    · rw [hlen _ (getD_app_r g hj)]
      have := hb.lb h hh
      omega
  · intro hh' v hv hvl
    have hold : ∀ v, wok v → v.length ≤ (ws.getD h []).length → ∃ j, j < ws.length ∧ nd (ws.getD j []) = nd v ∧ (ws.getD j []).length ≤ v.length := hb.lev hh
    rcases Nat.lt_or_ge (ws.getD h []).length v.length with g | g
    · have ha := all (h + 1) hh'
      rcases List.eq_nil_or_concat v with rfl | ⟨v', x, rfl⟩
      · simp at g
      · rw [List.concat_eq_append] at hv hvl g ⊢
        obtain ⟨hv', hx⟩ := wok_snoc hv
        simp only [List.length_append, List.length_singleton] at hvl g
        obtain ⟨j, hj, e, hjl⟩ := hold v' hv' (by omega)
        have hjh : j < h + 1 := by
          rcases Nat.lt_or_ge j (h + 1) with q | q
          · exact q
          · have := mono (h + 1) j q (by rw [List.length_append]; omega)
            rw [getD_app hj] at this
            omega
        obtain ⟨c0, c1⟩ := cl j hjh
        rw [getD_app hj] at c0 c1
        have fin : ∀ y, (∃ u ∈ ws ++ t, nd u = nd (ws.getD j [] ++ [y])) → ∃ i, i < (ws ++ t).length ∧ nd ((ws ++ t).getD i []) = nd (v' ++ [y]) ∧ ((ws ++ t).getD i []).length ≤ (v' ++ [y]).length := by
          rintro y ⟨u, hu, e'⟩
          obtain ⟨i, hi, rfl⟩ := List.mem_iff_getElem.1 hu
          have ei : (ws ++ t).getD i [] = (ws ++ t)[i] := getD_lt [] hi
          refine ⟨i, hi, ?_, ?_⟩
          · rw [ei, e']; exact hstep _ _ _ e
          · have := all i hi
            simp only [List.length_append, List.length_singleton]
            omega
        rcases hx with rfl | rfl
        · exact fin 0 c0
        · exact fin 1 c1
    · obtain ⟨j, hj, e, hjl⟩ := hold v hv g
      exact ⟨j, by rw [List.length_append]; omega, by rw [getD_app hj]; exact e, by rw [getD_app hj]; exact hjl⟩

/-- What the search answers. -/
def Found (nd : List Int → ν) (goal : ν → Prop) : Option (List Int) → Prop
  | some w => wok w ∧ goal (nd w) ∧ ∀ v, wok v → goal (nd v) → w.length ≤ v.length
  | none => ∀ v, wok v → ¬ goal (nd v)

theorem BI.all (hstep : ∀ u v x, nd u = nd v → nd (u ++ [x]) = nd (v ++ [x])) {ws : List (List Int)} (hb : BI nd goal ws.length ws) : ∀ (n : Nat) (v : List Int), v.length = n → wok v → ∃ u ∈ ws, nd u = nd v
  | 0, v, hl, _ => by
    have : v = [] := List.eq_nil_of_length_eq_zero hl
    subst this; exact hb.st
  | n + 1, v, hl, hv => by
    rcases List.eq_nil_or_concat v with rfl | ⟨v', x, rfl⟩
    · simp at hl
    · rw [List.concat_eq_append] at hl hv ⊢
      obtain ⟨hv', hx⟩ := wok_snoc hv
      obtain ⟨u, hu, e⟩ := BI.all hstep hb n v' (by simp at hl; omega) hv'
      obtain ⟨i, hi, rfl⟩ := List.mem_iff_getElem.1 hu
      have ei : ws.getD i [] = ws[i] := by simp [List.getD, hi]
      obtain ⟨c0, c1⟩ := hb.cl i hi
      rw [ei] at c0 c1
      rcases hx with rfl | rfl
      · obtain ⟨u, hu, e'⟩ := c0
        exact ⟨u, hu, by rw [e']; exact hstep _ _ _ e⟩
      · obtain ⟨u, hu, e'⟩ := c1
        exact ⟨u, hu, by rw [e']; exact hstep _ _ _ e⟩

theorem bfs_spec (hstep : ∀ u v x, nd u = nd v → nd (u ++ [x]) = nd (v ++ [x])) {N : Nat} (hN : ∀ ws : List (List Int), (∀ w ∈ ws, wok w) → (ws.map nd).Nodup → ws.length ≤ N) :
    ∀ (k h : Nat) (ws : List (List Int)), BI nd goal h ws → N - h < k → Found nd goal (bfs nd goal k h ws)
  | 0, h, ws, _, hk => by omega
  | k + 1, h, ws, hb, hk => by
    rw [bfs]
    by_cases hh : h < ws.length
    · rw [if_pos hh]
      by_cases hg : goal (nd (ws.getD h []))
      · rw [if_pos hg]
        refine ⟨hb.wk _ (getD_mem [] hh), hg, fun v hv hgv => ?_⟩
        rcases Nat.lt_or_ge v.length (ws.getD h []).length with g | g
        · obtain ⟨j, hj, e, hjl⟩ := hb.lev hh v hv (Nat.le_of_lt g)
          have hjh : j < h := by
            rcases Nat.lt_or_ge j h with q | q
            · exact q
            · have := hb.mono h j q hj; omega
          exact absurd (by rw [e]; exact hgv) (hb.ng j hjh)
        · exact g
      · rw [if_neg hg]
        have hn := hb.next hstep hh hg
        refine bfs_spec hstep hN k (h + 1) _ hn ?_
        have := hN ws hb.wk hb.nod
        omega
    · rw [if_neg hh]
      have e : h = ws.length := by have := hb.hl; omega
      subst e
      intro v hv hgv
      obtain ⟨u, hu, e⟩ := hb.all hstep v.length v rfl hv
      obtain ⟨i, hi, rfl⟩ := List.mem_iff_getElem.1 hu
      have ei : ws.getD i [] = ws[i] := by simp [List.getD, hi]
      have := hb.ng i hi
      rw [ei, e] at this
      exact this hgv
end

/-- A list without twins is no longer than one that has all its members. -/
theorem nodup_le {α : Type} : ∀ (l m : List α), l.Nodup → (∀ x ∈ l, x ∈ m) → l.length ≤ m.length
  | [], m, _, _ => Nat.zero_le _
  | x :: l, m, hn, hm => by
    have hx : x ∈ m := hm x (by simp)
    rw [List.nodup_cons] at hn
    have ih := nodup_le l (m.erase x) hn.2 fun y hy => (List.mem_erase_of_ne (fun e : y = x => hn.1 (by rw [← e]; exact hy))).2 (hm y (by simp [hy]))
    have h1 : 0 < m.length := List.length_pos_of_mem hx
    rw [List.length_erase_of_mem hx] at ih
    simp only [List.length_cons]
    omega

end Go.Proofs.Ythdmngalhppkcaa
