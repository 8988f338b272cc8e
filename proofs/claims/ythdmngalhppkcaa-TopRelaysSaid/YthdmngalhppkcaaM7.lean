/- The words that tell two boxes apart: the two texts search alike. -/
import Derived.Test.YthdmngalhppkcaaM6
set_option linter.unusedVariables false
set_option linter.unusedSimpArgs false
namespace Go.Proofs.Ythdmngalhppkcaa
open Go Go.Pv Classical

theorem mget_mset {kt vt : Ty} (hk : ∀ a b : kt.den, kt.beq a b = true ↔ a = b) (v : vt.den) (k k' : kt.den) : ∀ es : List (kt.den × vt.den), mget kt vt (mset kt vt es k v) k' = if k' = k then some v else mget kt vt es k'
  | [] => by
    rw [mset, mget, mget]
    by_cases h : k' = k
    · rw [if_pos h, (hk _ _).2 h]; rfl
    · have : kt.beq k' k = false := by cases e : kt.beq k' k <;> first | rfl | exact absurd ((hk _ _).1 e) h
      rw [if_neg h, this]; rfl
  | p :: r => by
    have hc : ∀ (a b : kt.den) (γ : Type) (x y : γ), cond (kt.beq a b) x y = if a = b then x else y := by
      intro a b γ x y
      by_cases h : a = b
      · rw [if_pos h, (hk _ _).2 h]; rfl
      · have : kt.beq a b = false := by cases e : kt.beq a b <;> first | rfl | exact absurd ((hk _ _).1 e) h
        rw [if_neg h, this]; rfl
    rw [mset, hc, mget, hc]
    by_cases h : k = p.1
    · rw [if_pos h, mget, hc]
      by_cases h2 : k' = p.1
      · rw [if_pos h2, if_pos (h2.trans h.symm)]
      · rw [if_neg h2, if_neg h2, if_neg (fun e => h2 (e.trans h))]
    · rw [if_neg h, mget, hc, mget_mset hk v k k' r]
      by_cases h2 : k' = p.1
      · rw [if_pos h2, if_pos h2, if_neg (fun e => h (e.symm.trans h2))]
      · rw [if_neg h2, if_neg h2]

theorem beq2 (a b : (Ty.arr 2 (Ty.int .i64)).den) : (Ty.arr 2 (Ty.int .i64)).beq a b = true ↔ a = b := by
  have h := rowEq a b
  have e : (Ty.arr 2 (Ty.int .i64)).beq a b = decide ((a : List Int) = b) := by
    rw [← h]
    show (List.length (α := Int) a == List.length (α := Int) b && (List.zip (α := Int) (β := Int) a b).all fun p => decide (p.1 = p.2)) = _
    cases (List.length (α := Int) a == List.length (α := Int) b) <;> rfl
  rw [e]
  exact decide_eq_true_iff

section
variable (A B : Bx) (s t : Int)
def nd2 (w : List Int) : Int × Int := (en A s w, en B t w)
def goal2 (p : Int × Int) : Prop := ot A p.1 ≠ ot B p.2
def item (w : List Int) : ((Bx × Int) × (Bx × Int)) × List Int := (((A, en A s w), (B, en B t w)), w)

theorem nd2_snoc (w : List Int) (x : Int) : nd2 A B s t (w ++ [x]) = (nx A (en A s w) x, nx B (en B t w) x) := by
  unfold nd2; rw [en_snoc, en_snoc]
theorem nd2_step (u v : List Int) (x : Int) (h : nd2 A B s t u = nd2 A B s t v) : nd2 A B s t (u ++ [x]) = nd2 A B s t (v ++ [x]) := by
  rw [nd2_snoc, nd2_snoc]
  unfold nd2 at h
  rw [(Prod.mk.inj h).1, (Prod.mk.inj h).2]

/-- The map holds what the words reach. -/
def Seen (m : List (List Int × Bool)) (ws : List (List Int)) : Prop := ∀ p q : Int, (mget (Ty.arr 2 (Ty.int .i64)) Ty.bool m [p, q]).getD false = decide (∃ u ∈ ws, nd2 A B s t u = (p, q))

variable {A B s t}

theorem Seen.grow {m : List (List Int × Bool)} {ws : List (List Int)} (h : Seen A B s t m ws) (v : List Int) :
    Seen A B s t (mset (Ty.arr 2 (Ty.int .i64)) Ty.bool m [(nd2 A B s t v).1, (nd2 A B s t v).2] true) (ws ++ [v]) := by
  intro p q
  rw [mget_mset beq2]
  by_cases e : ([p, q] : List Int) = [(nd2 A B s t v).1, (nd2 A B s t v).2]
  · rw [if_pos e]
    simp only [List.cons.injEq, and_true] at e
    have : ∃ u ∈ ws ++ [v], nd2 A B s t u = (p, q) := ⟨v, by simp, by rw [e.1, e.2]⟩
    rw [decide_eq_true this]; rfl
  · rw [if_neg e, h p q]
    refine decide_eq_decide.2 ⟨fun ⟨u, hu, e'⟩ => ⟨u, List.mem_append_left _ hu, e'⟩, fun ⟨u, hu, e'⟩ => ?_⟩
    rcases List.mem_append.1 hu with hu | hu
    · exact ⟨u, hu, e'⟩
    · simp only [List.mem_singleton] at hu
      subst hu
      exact absurd (by rw [e']) e

theorem grow_len (nd : List Int → Int × Int) (ws : List (List Int)) (v : List Int) : ws.length ≤ (grow nd ws v).length ∧ (grow nd ws v).length ≤ ws.length + 1 := by
  unfold grow
  split <;> simp

variable (hA : V A) (hB : V B) (hs : inB A s) (ht : inB B t)
include hA hB hs ht

theorem step77 {K k h : Nat} {m : List (List Int × Bool)} {ws : List (List Int)} {w : List Int} (hm : Seen A B s t m ws) (hh : h + 1 ≤ ws.length) (hl : ws.length ≤ 1000) (hw : wok w) (hwl : w.length ≤ 1000) {x : Int} (hx : x = 0 ∨ x = 1) :
    ∃ m', Seen A B s t m' (grow (nd2 A B s t) ws (w ++ [x])) ∧
      impll77_2 K (k + 1) ((ws.drop (h + 1)).map (item A B s t)) m (item A B s t w) x = impll77_2 K k (((grow (nd2 A B s t) ws (w ++ [x])).drop (h + 1)).map (item A B s t)) m' (item A B s t w) (x + 1) := by
  rw [impll77_2, implb77_2]
  have ia := en_in hA hs hw
  have ib := en_in hB ht hw
  have e1 : (item A B s t w).1.1.2 = en A s w := rfl
  have e2 : (item A B s t w).1.2.2 = en B t w := rfl
  have e3 : (item A B s t w).1.1.1 = A := rfl
  have e4 : (item A B s t w).1.2.1 = B := rfl
  have e5 : (item A B s t w).2 = w := rfl
  have n1 : (A.1.getD (en A s w).toNat (List.replicate 2 0)).getD x.toNat 0 = nx A (en A s w) x := rfl
  have n2 : (B.1.getD (en B t w).toNat (List.replicate 2 0)).getD x.toNat 0 = nx B (en B t w) x := rfl
  have key : ∀ a b : Int, ((List.replicate 2 (0 : Int)).set 0 a).set 1 b = [a, b] := fun _ _ => rfl
  have c1 : x < 2 := by omega
  have c2 : 0 ≤ x ∧ x < 2 := by omega
  have w1 : IntKind.i64.wrap (x + 1) = x + 1 := wrapI (by omega) (by omega)
  simp only [e1, e2, e3, e4, e5, n1, n2, key, cdec, if_pos c1, if_pos c2, if_pos ia, if_pos ib, cnot, w1]
  rw [hm]
  simp only [cdec]
  unfold grow
  rw [nd2_snoc]
  by_cases g : ∃ u ∈ ws, nd2 A B s t u = (nx A (en A s w) x, nx B (en B t w) x)
  · rw [if_pos g, if_pos g]
    exact ⟨m, hm, rfl⟩
  · rw [if_neg g, if_neg g, f66 K _ (by omega), obS, if_pos (by simp; omega), if_pos (by simp; omega)]
    have hg := hm.grow (w ++ [x])
    rw [nd2_snoc] at hg
    refine ⟨_, hg, ?_⟩
    have : ((ws ++ [w ++ [x]]).drop (h + 1)).map (item A B s t) = (ws.drop (h + 1)).map (item A B s t) ++ [item A B s t (w ++ [x])] := by
      rw [List.drop_append_of_le_length hh, List.map_append]; rfl
    rw [this]
    have : item A B s t (w ++ [x]) = (((A, nx A (en A s w) x), (B, nx B (en B t w) x)), w ++ [x]) := by
      unfold item; rw [en_snoc, en_snoc]
    rw [this]
    rfl

theorem inner77 {K h : Nat} {m : List (List Int × Bool)} {ws : List (List Int)} {w : List Int} (hK : 10 ≤ K) (hm : Seen A B s t m ws) (hh : h + 1 ≤ ws.length) (hl : ws.length ≤ 900) (hw : wok w) (hwl : w.length ≤ 1000) :
    ∃ m', Seen A B s t m' (grow2 (nd2 A B s t) ws w) ∧
      impll77_2 K K ((ws.drop (h + 1)).map (item A B s t)) m (item A B s t w) 0 = some (((grow2 (nd2 A B s t) ws w).drop (h + 1)).map (item A B s t), m', 2, ()) := by
  obtain ⟨K', rfl⟩ : ∃ K', K = K' + 3 := ⟨K - 3, by omega⟩
  obtain ⟨m1, h1, e1⟩ := step77 hA hB hs ht (K := K' + 3) (k := K' + 2) hm hh (by omega) hw hwl (x := 0) (.inl rfl)
  have hg := grow_len (nd2 A B s t) ws (w ++ [0])
  have hg1 : h + 1 ≤ (grow (nd2 A B s t) ws (w ++ [0])).length := by omega
  have hg2 : (grow (nd2 A B s t) ws (w ++ [0])).length ≤ 1000 := by omega
  obtain ⟨m2, h2, e2⟩ := step77 hA hB hs ht (K := K' + 3) (k := K' + 1) h1 hg1 hg2 hw hwl (x := 1) (.inr rfl)
  refine ⟨m2, h2, ?_⟩
  rw [e1]
  have : (0 : Int) + 1 = 1 := rfl
  rw [this, e2]
  have : (1 : Int) + 1 = 2 := rfl
  rw [this, impll77_2, implb77_2]
  rfl

theorem s77 {N : Nat} (hN : ∀ ws : List (List Int), (∀ w ∈ ws, wok w) → (ws.map (nd2 A B s t)).Nodup → ws.length ≤ N) (hN9 : N ≤ 900) {K : Nat} (hK : 10 ≤ K) :
    ∀ (k h : Nat) (ws : List (List Int)) (m : List (List Int × Bool)), BI (nd2 A B s t) (goal2 A B) h ws → N - h < k → Seen A B s t m ws →
      match bfs (nd2 A B s t) (goal2 A B) k h ws with
      | some w => impll77_0 K k ((ws.drop h).map (item A B s t)) m = some (.inr (w, true, ()))
      | none => ∃ r, impll77_0 K k ((ws.drop h).map (item A B s t)) m = some (.inl r)
  | 0, h, ws, m, _, hk, _ => by omega
  | k + 1, h, ws, m, hb, hk, hm => by
    have hNw := hN ws hb.wk hb.nod
    rw [bfs]
    by_cases hh : h < ws.length
    · have hw := hb.wk _ (getD_mem [] hh)
      have hd : (ws.drop h).map (item A B s t) = item A B s t (ws.getD h []) :: (ws.drop (h + 1)).map (item A B s t) := by
        rw [drop_getD [] hh]; rfl
      have e0 : ∀ (d : ((Bx × Int) × (Bx × Int)) × List Int) l, (item A B s t (ws.getD h []) :: l).getD 0 d = item A B s t (ws.getD h []) := fun _ _ => rfl
      have e6 : ∀ l, List.drop 1 (item A B s t (ws.getD h []) :: l) = l := fun _ => rfl
      have e1 : (item A B s t (ws.getD h [])).1.1.2 = en A s (ws.getD h []) := rfl
      have e2 : (item A B s t (ws.getD h [])).1.2.2 = en B t (ws.getD h []) := rfl
      have e3 : (item A B s t (ws.getD h [])).1.1.1 = A := rfl
      have e4 : (item A B s t (ws.getD h [])).1.2.1 = B := rfl
      have e5 : (item A B s t (ws.getD h [])).2 = ws.getD h [] := rfl
      have o1 : A.2.getD (en A s (ws.getD h [])).toNat 0 = ot A (en A s (ws.getD h [])) := rfl
      have o2 : B.2.getD (en B t (ws.getD h [])).toNat 0 = ot B (en B t (ws.getD h [])) := rfl
      have ia := en_in hA hs hw
      have ib := en_in hB ht hw
      have ia2 : 0 ≤ en A s (ws.getD h []) ∧ en A s (ws.getD h []) < (A.2.length : Int) := by rw [hA.2.2.1]; exact ia
      have ib2 : 0 ≤ en B t (ws.getD h []) ∧ en B t (ws.getD h []) < (B.2.length : Int) := by rw [hB.2.2.1]; exact ib
      have hlen : (item A B s t (ws.getD h []) :: (ws.drop (h + 1)).map (item A B s t)).length = ws.length - h := by
        rw [List.length_cons, List.length_map, List.length_drop]; omega
      rw [if_pos hh, hd]
      by_cases g : ot A (en A s (ws.getD h [])) = ot B (en B t (ws.getD h []))
      · have hg : ¬ goal2 A B (nd2 A B s t (ws.getD h [])) := fun h => h g
        rw [if_neg hg, impll77_0, implb77_0]
        simp only [e0, e1, e2, e3, e4, e5, e6, o1, o2, cdec, if_pos ia2, if_pos ib2, ibne, cnot]
        have hwl := hb.lb h hh
        obtain ⟨m', h1, h2⟩ := inner77 hA hB hs ht hK hm (w := ws.getD h []) (h := h) (by omega) (by omega) hw (by omega)
        rw [if_pos (by omega), if_pos (by omega), if_pos (by omega), if_pos g, h2]
        exact s77 hN hN9 hK k (h + 1) _ m' (hb.next (nd2_step A B s t) hh hg) (by omega) h1
      · have hg : goal2 A B (nd2 A B s t (ws.getD h [])) := g
        rw [if_pos hg, impll77_0, implb77_0]
        simp only [e0, e1, e2, e3, e4, e5, e6, o1, o2, cdec, if_pos ia2, if_pos ib2, ibne, cnot]
        rw [if_pos (by omega), if_pos (by omega), if_pos (by omega), if_neg g]
    · rw [if_neg hh]
      have e : h = ws.length := by have := hb.hl; omega
      subst e
      rw [List.drop_length, impll77_0, implb77_0]
      exact ⟨_, rfl⟩
end

end Go.Proofs.Ythdmngalhppkcaa
