/- The word that leads from all states to one: what the two texts answer. -/
import Derived.Test.YthdmngalhppkcaaM14
set_option linter.unusedVariables false
set_option linter.unusedSimpArgs false
namespace Go.Proofs.Ythdmngalhppkcaa
open Go Go.Pv Classical

theorem bfs_len {ν : Type} {nd : List Int → ν} {goal : ν → Prop} (hstep : ∀ u v x, nd u = nd v → nd (u ++ [x]) = nd (v ++ [x])) {N : Nat} (hN : ∀ ws : List (List Int), (∀ w ∈ ws, wok w) → (ws.map nd).Nodup → ws.length ≤ N) :
    ∀ (k h : Nat) (ws : List (List Int)), BI nd goal h ws → ∀ w, bfs nd goal k h ws = some w → w.length ≤ N
  | 0, h, ws, _, w, e => by cases e
  | k + 1, h, ws, hb, w, e => by
    rw [bfs] at e
    by_cases hh : h < ws.length
    · rw [if_pos hh] at e
      by_cases hg : goal (nd (ws.getD h []))
      · rw [if_pos hg] at e
        cases e
        have h1 := hb.lb h hh
        have h2 := hN ws hb.wk hb.nod
        omega
      · rw [if_neg hg] at e
        exact bfs_len hstep hN k (h + 1) _ (hb.next hstep hh hg) w e
    · rw [if_neg hh] at e
      cases e

section
variable {b : Bx}
/-! ### The second text -/
structure TL (b : Bx) (tb : List Bool) (ws : List (List Int)) : Prop where
  len : tb.length = 64
  at_ : ∀ m, m < 64 → tb.getD m false = decide (∃ u ∈ ws, ms b u = m)

theorem TL.grow {tb : List Bool} {ws : List (List Int)} (h : TL b tb ws) {v : List Int} (hm : ms b v < 64) : TL b (tb.set (ms b v) true) (ws ++ [v]) := by
  refine ⟨by simpa using h.len, fun m hm' => ?_⟩
  have hsplit : (∃ u ∈ ws ++ [v], ms b u = m) ↔ (∃ u ∈ ws, ms b u = m) ∨ ms b v = m := by
    constructor
    · rintro ⟨u, hu, e⟩
      rcases List.mem_append.1 hu with hu | hu
      · exact .inl ⟨u, hu, e⟩
      · simp only [List.mem_singleton] at hu
        subst hu; exact .inr e
    · rintro (⟨u, hu, e⟩ | e)
      · exact ⟨u, List.mem_append_left _ hu, e⟩
      · exact ⟨v, by simp, e⟩
  have hl := h.len
  by_cases e : ms b v = m
  · rw [e, getD_set_self _ _ (by omega), decide_eq_true (hsplit.2 (.inr e))]
  · rw [getD_set_ne _ _ e, h.at_ m hm']
    exact decide_eq_decide.2 ⟨fun g => hsplit.2 (.inl g), fun g => (hsplit.1 g).elim id fun g => absurd g e⟩

theorem l47_2 (K : Nat) (hv : V b) {ws : List (List Int)} {tb : List Bool} {h : Nat} (hh : h < ws.length) (hw : wok (ws.getD h [])) (hwl : (ws.getD h []).length < K) (hw6 : (ws.getD h []).length ≤ 1000000) :
    ∀ (k j : Nat), b.1.length - j < k → j ≤ b.1.length →
      impll47_2 K k b ws tb h ((orf (fun i => (en b i (ws.getD h [])).toNat) j : Nat) : Int) j = some (((ms b (ws.getD h []) : Nat) : Int), (b.1.length : Int), ())
  | 0, j, hk, hj => by omega
  | k + 1, j, hk, hj => by
    rw [impll47_2, implb47_2]
    have h22 := hv.2.2.1
    have h6 := hv.2.1
    simp only [cdec]
    by_cases hlt : j < b.1.length
    · have hin : inB b j := ⟨by omega, by omega⟩
      have he := en_in hv hin hw
      have he1 := he.1
      have he2 := he.2
      have eh : ws.getD (h : Int).toNat [] = ws.getD h [] := rfl
      rw [if_pos (by omega), if_pos (by omega), eh, f65 K hv hw hin hwl hw6, obS, wrapU he1 (by omega), if_neg (by omega), i_shl he1 (by omega)]
      have hlt64 : orf (fun i => (en b i (ws.getD h [])).toNat) j < 64 := orf_lt fun i hi => by
        have h := en_in hv (w := ws.getD h []) (s := (i : Int)) ⟨by omega, by omega⟩ hw
        have h1 := h.1
        have h2 := h.2
        omega
      rw [i_or hlt64 (pow_small (by omega)), wrapS (by omega)]
      exact l47_2 K hv hh hw hwl hw6 k (j + 1) (by omega) (by omega)
    · have : j = b.1.length := by omega
      subst this
      rw [if_neg (by omega)]
      rfl

theorem step47 {K k h : Nat} {tb : List Bool} {ws : List (List Int)} {w : List Int} (hh : h < ws.length) (he : ws.getD h [] = w) (hl : ws.length ≤ 1000) (hwl : w.length ≤ 1000) {x : Int} (hx : x = 0 ∨ x = 1) :
    impll47_4 K (k + 1) b ws tb h x = impll47_4 K k b (ws ++ [w ++ [x]]) tb h (x + 1) := by
  rw [impll47_4, implb47_4]
  have c1 : x < 2 := by omega
  have c5 : 0 ≤ (h : Int) ∧ (h : Int) < (ws.length : Int) := by omega
  have w1 : IntKind.i64.wrap (x + 1) = x + 1 := wrapI (by omega) (by omega)
  have eh : ws.getD (h : Int).toNat [] = w := he
  simp only [cdec, if_pos c1, if_pos c5, w1, eh]
  rw [if_pos (by simp; omega), if_pos (by simp; omega), if_pos (by simp; omega)]
  rfl

theorem inner47 {K h : Nat} {tb : List Bool} {ws : List (List Int)} {w : List Int} (hK : 10 ≤ K) (hh : h < ws.length) (he : ws.getD h [] = w) (hl : ws.length ≤ 900) (hwl : w.length ≤ 1000) :
    impll47_4 K K b ws tb h 0 = some (ws ++ [w ++ [0], w ++ [1]], 2, ()) := by
  obtain ⟨K', rfl⟩ : ∃ K', K = K' + 3 := ⟨K - 3, by omega⟩
  rw [step47 (K := K' + 3) (k := K' + 2) hh he (by omega) hwl (.inl rfl)]
  rw [step47 (K := K' + 3) (k := K' + 1) (w := w) (x := 0 + 1) (by rw [List.length_append]; omega) (by rw [getD_app hh]; exact he) (by simp; omega) hwl (.inr rfl)]
  have : (0 : Int) + 1 + 1 = 2 := rfl
  rw [this, impll47_4, implb47_4]
  have : ws ++ [w ++ [0]] ++ [w ++ [0 + 1]] = ws ++ [w ++ [0], w ++ [1]] := by simp
  rw [this]
  rfl

theorem s47 (hv : V b) {K : Nat} (hK : 200 ≤ K) :
    ∀ (k h : Nat) (ws : List (List Int)) (tb : List Bool), h ≤ ws.length → (∀ w ∈ ws, wok w) → (∀ j, j < ws.length → (ws.getD j []).length ≤ j) → ws.length ≤ 1 + 2 * (ded (ms b) (ws.take h)).length → TL b tb (ws.take h) →
      match bfl (ms b) gl k h ws with
      | some w => impll47_0 K k b ws tb h = some (.inr (w, true, 0, ()))
      | none => 129 - h < k → ∃ r, impll47_0 K k b ws tb h = some (.inl r)
  | 0, h, ws, tb, _, _, _, _, _ => fun hk => absurd hk (by omega)
  | k + 1, h, ws, tb, hh, hw, hlb, hl, hm => by
    obtain ⟨n1, n2, n3⟩ := ded_spec (nd := ms b) (ws.take h)
    have hN := few_ms hv (ded (ms b) (ws.take h)) (fun w hx => hw w (List.mem_of_mem_take (n2 w hx))) n1
    rw [bfl]
    by_cases hlt : h < ws.length
    · have hwk := hw _ (getD_mem [] hlt)
      have hwl := hlb h hlt
      have c1 : (h : Int) < (ws.length : Int) := by omega
      have c5 : 0 ≤ (h : Int) ∧ (h : Int) < (ws.length : Int) := by omega
      have h64 := ms_lt hv hwk
      have hpos := ms_pos hv (w := ws.getD h [])
      have l2 := l47_2 (tb := tb) K hv hlt hwk (by omega) (by omega) K 0 (by have := hv.2.1; omega) (by omega)
      have l2' : impll47_2 K K b ws tb h 0 0 = some (((ms b (ws.getD h []) : Nat) : Int), (b.1.length : Int), ()) := l2
      have w1 : IntKind.i64.wrap (((ms b (ws.getD h []) : Nat) : Int) - 1) = ((ms b (ws.getD h []) - 1 : Nat) : Int) := by
        rw [wrapI (by omega) (by omega)]; omega
      have hand : IntKind.i64.wrap (((BitVec.ofInt IntKind.i64.bits ((ms b (ws.getD h []) : Nat) : Int) &&& BitVec.ofInt IntKind.i64.bits ((ms b (ws.getD h []) - 1 : Nat) : Int)).toNat : Nat) : Int) = ((ms b (ws.getD h []) &&& (ms b (ws.getD h []) - 1) : Nat) : Int) := i_and h64 (by omega)
      have hz : (((ms b (ws.getD h []) &&& (ms b (ws.getD h []) - 1) : Nat) : Int) = 0) = gl (ms b (ws.getD h [])) := propext ⟨fun e => Int.ofNat.inj e, fun e => by rw [show ms b (ws.getD h []) &&& (ms b (ws.getD h []) - 1) = 0 from e]; rfl⟩
      have c6 : 0 ≤ ((ms b (ws.getD h []) : Nat) : Int) ∧ ((ms b (ws.getD h []) : Nat) : Int) < 64 := by omega
      have eh : ws.getD (h : Int).toNat [] = ws.getD h [] := rfl
      have et : ((ms b (ws.getD h []) : Nat) : Int).toNat = ms b (ws.getD h []) := rfl
      rw [if_pos hlt, impll47_0, implb47_0, l2']
      simp only [cdec, obS, if_pos c1, w1, hand, ibeq, hz, if_pos c5, if_pos c6, eh, et, hm.at_ _ h64]
      by_cases hg : gl (ms b (ws.getD h []))
      · rw [if_pos hg, if_pos hg]
      · rw [if_neg hg, if_neg hg, wrapS (by omega)]
        have hd : ws.take (h + 1) = ws.take h ++ [ws.getD h []] := take_getD [] hlt
        have hded : ded (ms b) (ws.take (h + 1)) = grow (ms b) (ded (ms b) (ws.take h)) (ws.getD h []) := by rw [hd, ded_snoc]
        by_cases hs : ∃ u ∈ ws.take h, ms b u = ms b (ws.getD h [])
        · rw [if_pos hs, if_pos hs]
          have e2 : ded (ms b) (ws.take (h + 1)) = ded (ms b) (ws.take h) := by
            rw [hded]; unfold grow; rw [if_pos ((n3 _).2 hs)]
          have hm2 : TL b tb (ws.take (h + 1)) := by
            refine ⟨hm.len, fun m hm' => ?_⟩
            rw [hm.at_ m hm', hd]
            refine decide_eq_decide.2 ⟨fun ⟨u, hu, e⟩ => ⟨u, List.mem_append_left _ hu, e⟩, fun ⟨u, hu, e⟩ => ?_⟩
            rcases List.mem_append.1 hu with hu | hu
            · exact ⟨u, hu, e⟩
            · simp only [List.mem_singleton] at hu
              obtain ⟨v, hv, e'⟩ := hs
              exact ⟨v, hv, by rw [e', ← hu]; exact e⟩
          have ih := s47 hv hK k (h + 1) ws tb (by omega) hw hlb (by rw [e2]; exact hl) hm2
          cases hb : bfl (ms b) gl k (h + 1) ws with
          | some w => rw [hb] at ih; exact ih
          | none => rw [hb] at ih; exact fun hk => ih (by omega)
        · rw [if_neg hs, if_neg hs, inner47 (b := b) (by omega) hlt rfl (by omega) (by omega)]
          simp only [obS]
          have hta : ∀ l : List (List Int), (ws ++ l).take (h + 1) = ws.take (h + 1) := fun l => List.take_append_of_le_length (by omega)
          have e2 : ded (ms b) (ws.take (h + 1)) = ded (ms b) (ws.take h) ++ [ws.getD h []] := by
            rw [hded]; unfold grow; rw [if_neg (fun g => hs ((n3 _).1 g))]
          have hl2 : (ded (ms b) (ws.take (h + 1))).length = (ded (ms b) (ws.take h)).length + 1 := by rw [e2]; simp
          have hm2 : TL b (tb.set (ms b (ws.getD h [])) true) ((ws ++ [ws.getD h [] ++ [0], ws.getD h [] ++ [1]]).take (h + 1)) := by
            rw [hta, hd]; exact hm.grow h64
          have hw2 : ∀ w ∈ ws ++ [ws.getD h [] ++ [0], ws.getD h [] ++ [1]], wok w := fun u hu => by
            rcases List.mem_append.1 hu with hu | hu
            · exact hw u hu
            · intro y hy
              simp only [List.mem_cons, List.not_mem_nil, or_false] at hu
              rcases hu with rfl | rfl
              · rcases List.mem_append.1 hy with hy | hy
                · exact hwk y hy
                · simp at hy; omega
              · rcases List.mem_append.1 hy with hy | hy
                · exact hwk y hy
                · simp at hy; omega
          have hlb2 : ∀ j, j < (ws ++ [ws.getD h [] ++ [0], ws.getD h [] ++ [1]]).length → ((ws ++ [ws.getD h [] ++ [0], ws.getD h [] ++ [1]]).getD j []).length ≤ j := fun j hj => by
            rcases Nat.lt_or_ge j ws.length with g | g
            · rw [getD_app g]; exact hlb j g
            · have hmem := getD_app_r g hj
              simp only [List.mem_cons, List.not_mem_nil, or_false] at hmem
              rcases hmem with e | e
              · rw [e, List.length_append, List.length_singleton]; omega
              · rw [e, List.length_append, List.length_singleton]; omega
          have ih := s47 hv hK k (h + 1) (ws ++ [ws.getD h [] ++ [0], ws.getD h [] ++ [1]]) _ (by simp; omega) hw2 hlb2 (by rw [hta, hl2]; simp; omega) hm2
          cases hb : bfl (ms b) gl k (h + 1) (ws ++ [ws.getD h [] ++ [0], ws.getD h [] ++ [1]]) with
          | some w => rw [hb] at ih; exact ih
          | none => rw [hb] at ih; exact fun hk => ih (by omega)
    · rw [if_neg hlt, impll47_0, implb47_0]
      simp only [cdec]
      rw [if_neg (by omega)]
      exact fun _ => ⟨_, rfl⟩

/-! ### The program -/
def itm (b : Bx) (w : List Int) : Int × List Int := (((ms b w : Nat) : Int), w)
def Sm (b : Bx) (m : List (Int × Bool)) (ws : List (List Int)) : Prop := ∀ p : Int, (mget (Ty.int .u64) Ty.bool m p).getD false = decide (∃ u ∈ ws, ((ms b u : Nat) : Int) = p)

theorem beqU (a c : (Ty.int .u64).den) : (Ty.int .u64).beq a c = true ↔ a = c := decide_eq_true_iff

theorem Sm.grow {m : List (Int × Bool)} {ws : List (List Int)} (h : Sm b m ws) (v : List Int) : Sm b (mset (Ty.int .u64) Ty.bool m ((ms b v : Nat) : Int) true) (ws ++ [v]) := by
  intro p
  rw [mget_mset beqU]
  by_cases e : p = ((ms b v : Nat) : Int)
  · rw [if_pos e, decide_eq_true (show ∃ u ∈ ws ++ [v], ((ms b u : Nat) : Int) = p from ⟨v, by simp, e.symm⟩)]; rfl
  · rw [if_neg e, h p]
    refine decide_eq_decide.2 ⟨fun ⟨u, hu, e'⟩ => ⟨u, List.mem_append_left _ hu, e'⟩, fun ⟨u, hu, e'⟩ => ?_⟩
    rcases List.mem_append.1 hu with hu | hu
    · exact ⟨u, hu, e'⟩
    · simp only [List.mem_singleton] at hu
      subst hu
      exact absurd e'.symm e

theorem l46_4 (K : Nat) (hv : V b) {w : List Int} (hw : wok w) {x : Int} (hx : x = 0 ∨ x = 1) (q : List (Int × List Int)) (m : List (Int × Bool)) (y : Int) :
    ∀ (k j : Nat), b.1.length - j < k → j ≤ b.1.length →
      impll46_4 K k b q m (itm b w) x ((orc (fun i => (ms b w).testBit i) (fun i => (nx b i x).toNat) j : Nat) : Int) y b.1 b.1.length j = some (((ms b (w ++ [x]) : Nat) : Int), (b.1.length : Int), ())
  | 0, j, hk, hj => by omega
  | k + 1, j, hk, hj => by
    rw [impll46_4, implb46_4]
    have h6 := hv.2.1
    have h64 := ms_lt hv hw
    simp only [cdec]
    by_cases hlt : j < b.1.length
    · have hin : inB b j := ⟨by omega, by omega⟩
      have hn := nx_in hv hin (x := x) (by omega)
      have hn1 := hn.1
      have hn2 := hn.2
      have c2 : 0 ≤ x ∧ x < 2 := by omega
      have en1 : (b.1.getD (j : Int).toNat (List.replicate 2 0)).getD x.toNat 0 = nx b j x := rfl
      have e1 : (itm b w).1 = ((ms b w : Nat) : Int) := rfl
      rw [if_pos (by omega), if_pos (by omega), if_neg (by omega), e1, u_bit h64 (by omega), if_pos c2, en1, if_neg (by omega), u_shl hn1 (by omega)]
      have hlt64 : orc (fun i => (ms b w).testBit i) (fun i => (nx b i x).toNat) j < 64 := orc_lt fun i hi => by
        have h := nx_in hv (s := (i : Int)) ⟨by omega, by omega⟩ (x := x) (by omega)
        have h1 := h.1
        have h2 := h.2
        omega
      rw [u_or hlt64 (pow_small (by omega)), wrapS (by omega)]
      have ih := l46_4 K hv hw hx q m y k (j + 1) (by omega) (by omega)
      rw [orc] at ih
      cases hb : (ms b w).testBit j with
      | true => rw [if_pos hb] at ih; exact ih
      | false => rw [if_neg (by rw [hb]; exact Bool.false_ne_true)] at ih; exact ih
    · have : j = b.1.length := by omega
      subst this
      rw [if_neg (by omega), ms_next hv hw]

theorem step46 (hv : V b) {K k h : Nat} {m : List (Int × Bool)} {ws : List (List Int)} {w : List Int} (hK : 10 ≤ K) (hm : Sm b m ws) (hh : h + 1 ≤ ws.length) (hl : ws.length ≤ 1000) (hw : wok w) (hwl : w.length ≤ 1000) {x : Int} (hx : x = 0 ∨ x = 1) :
    ∃ m', Sm b m' (grow (ms b) ws (w ++ [x])) ∧
      impll46_2 K (k + 1) b ((ws.drop (h + 1)).map (itm b)) m (itm b w) x = impll46_2 K k b (((grow (ms b) ws (w ++ [x])).drop (h + 1)).map (itm b)) m' (itm b w) (x + 1) := by
  rw [impll46_2, implb46_2]
  have h6 := hv.2.1
  have e5 : (itm b w).2 = w := rfl
  have c1 : x < 2 := by omega
  have w1 : IntKind.i64.wrap (x + 1) = x + 1 := wrapI (by omega) (by omega)
  have l4 : impll46_4 K K b ((ws.drop (h + 1)).map (itm b)) m (itm b w) x 0 x b.1 b.1.length 0 = some (((ms b (w ++ [x]) : Nat) : Int), (b.1.length : Int), ()) := l46_4 K hv hw hx _ m x K 0 (by omega) (by omega)
  rw [l4]
  have hmm := hm ((ms b (w ++ [x]) : Nat) : Int)
  simp only [obS, e5, cdec, if_pos c1, cnot, w1, hmm]
  unfold grow
  by_cases g : ∃ u ∈ ws, ms b u = ms b (w ++ [x])
  · have g' : ∃ u ∈ ws, ((ms b u : Nat) : Int) = ((ms b (w ++ [x]) : Nat) : Int) := by
      obtain ⟨u, hu, e⟩ := g
      exact ⟨u, hu, by rw [e]⟩
    rw [if_pos g, if_pos g']
    exact ⟨m, hm, rfl⟩
  · have g' : ¬ ∃ u ∈ ws, ((ms b u : Nat) : Int) = ((ms b (w ++ [x]) : Nat) : Int) := by
      rintro ⟨u, hu, e⟩
      exact g ⟨u, hu, Int.ofNat.inj e⟩
    rw [if_neg g, if_neg g', f66 K _ (by omega), obS, if_pos (by simp; omega), if_pos (by simp; omega)]
    refine ⟨_, hm.grow (w ++ [x]), ?_⟩
    have : ((ws ++ [w ++ [x]]).drop (h + 1)).map (itm b) = (ws.drop (h + 1)).map (itm b) ++ [itm b (w ++ [x])] := by
      rw [List.drop_append_of_le_length hh, List.map_append]; rfl
    rw [this]
    rfl

theorem grow_le {ν : Type} (nd : List Int → ν) (ws : List (List Int)) (v : List Int) : ws.length ≤ (grow nd ws v).length ∧ (grow nd ws v).length ≤ ws.length + 1 := by
  unfold grow
  split <;> simp

theorem inner46 (hv : V b) {K h : Nat} {m : List (Int × Bool)} {ws : List (List Int)} {w : List Int} (hK : 10 ≤ K) (hm : Sm b m ws) (hh : h + 1 ≤ ws.length) (hl : ws.length ≤ 900) (hw : wok w) (hwl : w.length ≤ 1000) :
    ∃ m', Sm b m' (grow2 (ms b) ws w) ∧
      impll46_2 K K b ((ws.drop (h + 1)).map (itm b)) m (itm b w) 0 = some (((grow2 (ms b) ws w).drop (h + 1)).map (itm b), m', 2, ()) := by
  obtain ⟨K', rfl⟩ : ∃ K', K = K' + 3 := ⟨K - 3, by omega⟩
  obtain ⟨m1, h1, e1⟩ := step46 hv (K := K' + 3) (k := K' + 2) (by omega) hm hh (by omega) hw hwl (x := 0) (.inl rfl)
  have hg := grow_le (ms b) ws (w ++ [0])
  have hg1 : h + 1 ≤ (grow (ms b) ws (w ++ [0])).length := by omega
  have hg2 : (grow (ms b) ws (w ++ [0])).length ≤ 1000 := by omega
  obtain ⟨m2, h2, e2⟩ := step46 hv (K := K' + 3) (k := K' + 1) (by omega) h1 hg1 hg2 hw hwl (x := 1) (.inr rfl)
  refine ⟨m2, h2, ?_⟩
  rw [e1]
  have : (0 : Int) + 1 = 1 := rfl
  rw [this, e2]
  have : (1 : Int) + 1 = 2 := rfl
  rw [this, impll46_2, implb46_2]
  rfl

theorem s46 (hv : V b) {K : Nat} (hK : 10 ≤ K) :
    ∀ (k h : Nat) (ws : List (List Int)) (m : List (Int × Bool)), BI (ms b) gl h ws → 64 - h < k → Sm b m ws →
      match bfs (ms b) gl k h ws with
      | some w => impll46_0 K k b ((ws.drop h).map (itm b)) m = some (.inr (w, true, 0, ()))
      | none => ∃ r, impll46_0 K k b ((ws.drop h).map (itm b)) m = some (.inl r)
  | 0, h, ws, m, _, hk, _ => by omega
  | k + 1, h, ws, m, hb, hk, hm => by
    have hNw := few_ms hv ws hb.wk hb.nod
    rw [bfs]
    by_cases hh : h < ws.length
    · have hwk := hb.wk _ (getD_mem [] hh)
      have hd : (ws.drop h).map (itm b) = itm b (ws.getD h []) :: (ws.drop (h + 1)).map (itm b) := by
        rw [drop_getD [] hh]; rfl
      have e0 : ∀ (d : Int × List Int) l, (itm b (ws.getD h []) :: l).getD 0 d = itm b (ws.getD h []) := fun _ _ => rfl
      have e6 : ∀ l, List.drop 1 (itm b (ws.getD h []) :: l) = l := fun _ => rfl
      have e1 : (itm b (ws.getD h [])).1 = ((ms b (ws.getD h []) : Nat) : Int) := rfl
      have e5 : (itm b (ws.getD h [])).2 = ws.getD h [] := rfl
      have h64 := ms_lt hv hwk
      have hpos := ms_pos hv (w := ws.getD h [])
      have w1 : IntKind.u64.wrap (((ms b (ws.getD h []) : Nat) : Int) - 1) = ((ms b (ws.getD h []) - 1 : Nat) : Int) := by
        rw [wrapU (by omega) (by omega)]; omega
      have hand : IntKind.u64.wrap (((BitVec.ofInt IntKind.u64.bits ((ms b (ws.getD h []) : Nat) : Int) &&& BitVec.ofInt IntKind.u64.bits ((ms b (ws.getD h []) - 1 : Nat) : Int)).toNat : Nat) : Int) = ((ms b (ws.getD h []) &&& (ms b (ws.getD h []) - 1) : Nat) : Int) := u_and h64 (by omega)
      have hz : (((ms b (ws.getD h []) &&& (ms b (ws.getD h []) - 1) : Nat) : Int) = 0) = gl (ms b (ws.getD h [])) := propext ⟨fun e => Int.ofNat.inj e, fun e => by rw [show ms b (ws.getD h []) &&& (ms b (ws.getD h []) - 1) = 0 from e]; rfl⟩
      have hlen : (itm b (ws.getD h []) :: (ws.drop (h + 1)).map (itm b)).length = ws.length - h := by
        rw [List.length_cons, List.length_map, List.length_drop]; omega
      rw [if_pos hh, hd, impll46_0, implb46_0]
      simp only [e0, e1, e5, e6, cdec, w1, hand, ibeq, hz]
      by_cases hg : gl (ms b (ws.getD h []))
      · simp only [if_pos hg]
        rw [if_pos (by omega), if_pos (by omega), if_pos (by omega)]
      · have hwl := hb.lb h hh
        obtain ⟨m', h1, h2⟩ := inner46 hv hK hm (w := ws.getD h []) (h := h) (by omega) (by omega) hwk (by omega)
        simp only [if_neg hg]
        rw [if_pos (by omega), if_pos (by omega), if_pos (by omega), h2]
        exact s46 hv hK k (h + 1) _ m' (hb.next (ms_step b) hh hg) (by omega) h1
    · rw [if_neg hh]
      have e : h = ws.length := by have := hb.hl; omega
      subst e
      rw [List.drop_length, impll46_0, implb46_0]
      exact ⟨_, rfl⟩

noncomputable def sync (b : Bx) : List Int × Bool := match bfs (ms b) gl 300 0 [[]] with
  | some w => (w, true)
  | none => ([], false)
noncomputable def syncs (b : Bx) : List Int × Bool × Int := if V b then ((sync b).1, (sync b).2, 0) else ([], false, 1)

theorem orf_id : ∀ n : Nat, n ≤ 6 → orf (fun k => k) n = 2 ^ n - 1 := by
  have h : ∀ n : Fin 7, orf (fun k => k) n.val = 2 ^ n.val - 1 := by decide
  exact fun n hn => h ⟨n, by omega⟩

theorem ms_nil (hv : V b) : ms b [] = 2 ^ b.1.length - 1 := orf_id _ hv.2.1

theorem f46 (b : Bx) : implf46 300 b = some (syncs b) := by
  unfold implf46 syncs
  rw [f30 300 (by omega)]
  simp only [obS, ibne, cnot, cdec]
  by_cases hv : V b
  · rw [if_pos hv, if_pos hv, if_pos rfl, if_neg (by omega)]
    have h6 := hv.2.1
    have hp : (2 : Nat) ^ b.1.length < 128 := Nat.pow_lt_pow_right (n := 7) (by omega) (by omega)
    have hp1 : 0 < (2 : Nat) ^ b.1.length := Nat.pow_pos (by omega)
    have e1 : min (b.1.length : Int).toNat IntKind.u64.bits = b.1.length := Nat.min_eq_left (show b.1.length ≤ 64 by omega)
    have e2 : IntKind.u64.wrap (IntKind.u64.wrap ((1 : Int) * (2 : Int) ^ min (b.1.length : Int).toNat IntKind.u64.bits) - 1) = ((ms b [] : Nat) : Int) := by
      rw [e1, Int.one_mul, pow_nat, wrapU (n := ((2 ^ b.1.length : Nat) : Int)) (by omega) (by omega), wrapU (by omega) (by omega), ms_nil hv]; omega
    rw [e2]
    have hseen : Sm b (mset (Ty.int .u64) Ty.bool [] ((ms b [] : Nat) : Int) true) [[]] := by
      have h0 : Sm b [] [] := fun p => by
        show (none : Option Bool).getD false = _
        have : ¬ ∃ u ∈ ([] : List (List Int)), ((ms b u : Nat) : Int) = p := by rintro ⟨u, hu, _⟩; cases hu
        rw [decide_eq_false this]; rfl
      exact h0.grow []
    have h := s46 hv (K := 300) (by omega) 300 0 [[]] _ BI.first (by omega) hseen
    have e3 : (List.replicate 1 ((0 : Int), ([] : List Int))).set 0 (((ms b [] : Nat) : Int), []) = ([[]].drop 0).map (itm b) := rfl
    rw [e3]
    unfold sync
    cases hb : bfs (ms b) gl 300 0 [[]] with
    | some w => rw [hb] at h; rw [h]; rfl
    | none => rw [hb] at h; obtain ⟨r, h⟩ := h; rw [h]; rfl
  · rw [if_neg hv, if_neg hv, if_neg (by omega)]

theorem f47 (b : Bx) : implf47 300 b = some (syncs b) := by
  unfold implf47 syncs
  rw [f31 300 (by omega)]
  simp only [obS, ibne, cnot, cdec]
  by_cases hv : V b
  · rw [if_pos hv, if_pos hv, if_pos rfl]
    have ht : TL b (List.replicate 64 false) ([[]].take 0) := by
      refine ⟨by simp, fun m hm => ?_⟩
      have : ¬ ∃ u ∈ ([[]] : List (List Int)).take 0, ms b u = m := by rintro ⟨u, hu, _⟩; cases hu
      rw [decide_eq_false this, List.getD_eq_getElem?_getD, List.getElem?_replicate]
      split <;> rfl
    have hw0 : ∀ w ∈ ([[]] : List (List Int)), wok w := by intro w hw; simp at hw; subst hw; intro x hx; cases hx
    have h := s47 hv (K := 300) (by omega) 300 0 [[]] _ (by omega) hw0 (fun j hj => by simp at hj; subst hj; exact Nat.le_refl _) (by simp) ht
    have e1 : (List.replicate 1 ([] : List Int)).set 0 [] = [[]] := rfl
    have eb := bfl_eq (nd := ms b) (goal := gl) (few_ms hv) 300 300 0 [[]] (by omega) hw0 (fun u hu => by cases hu) (by simp) (by omega) (by omega)
    have ed : ded (ms b) [[]] = [[]] := by
      show grow (ms b) [] [] = [[]]
      unfold grow
      rw [if_neg (by rintro ⟨u, hu, _⟩; cases hu)]; rfl
    rw [ed] at eb
    have eb : bfl (ms b) gl 300 0 [[]] = bfs (ms b) gl 300 0 [[]] := eb
    rw [eb] at h
    rw [e1]
    unfold sync
    cases hb : bfs (ms b) gl 300 0 [[]] with
    | some w => rw [hb] at h; rw [show ((0 : Int)) = ((0 : Nat) : Int) from rfl, h]; rfl
    | none => rw [hb] at h; obtain ⟨r, h⟩ := h (by omega); rw [show ((0 : Int)) = ((0 : Nat) : Int) from rfl, h]; rfl
  · rw [if_neg hv, if_neg hv, if_neg (by omega)]

theorem sync_true (hv : V b) (h : (sync b).2 = true) : wok (sync b).1 ∧ gl (ms b (sync b).1) := by
  have hf := bfs_spec (goal := gl) (ms_step b) (few_ms hv) 300 0 [[]] BI.first (by omega)
  unfold sync at h ⊢
  cases hb : bfs (ms b) gl 300 0 [[]] with
  | some w => rw [hb] at hf; exact ⟨hf.1, hf.2.1⟩
  | none => rw [hb] at h; cases h
theorem syncs_len (b : Bx) : (syncs b).1.length ≤ 64 := by
  unfold syncs
  by_cases hv : V b
  · rw [if_pos hv]
    show (sync b).1.length ≤ 64
    unfold sync
    cases hb : bfs (ms b) gl 300 0 [[]] with
    | some w => exact bfs_len (ms_step b) (few_ms hv) 300 0 [[]] BI.first w hb
    | none => exact Nat.zero_le _
  · rw [if_neg hv]; exact Nat.zero_le _
end

end Go.Proofs.Ythdmngalhppkcaa
