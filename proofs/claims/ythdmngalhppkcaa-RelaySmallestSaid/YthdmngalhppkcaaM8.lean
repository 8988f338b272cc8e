/- The second text's search for a word that tells two boxes apart. -/
import Derived.Test.YthdmngalhppkcaaM7
set_option linter.unusedVariables false
set_option linter.unusedSimpArgs false
namespace Go.Proofs.Ythdmngalhppkcaa
open Go Go.Pv Classical

section
variable (A B : Bx) (s t : Int)
/-- The table holds what the words reach. -/
structure Tab (tb : List (List Bool)) (ws : List (List Int)) : Prop where
  len : tb.length = 6
  row : ∀ p : Int, 0 ≤ p ∧ p < 6 → (tb.getD p.toNat (List.replicate 6 false)).length = 6
  at_ : ∀ p q : Int, 0 ≤ p ∧ p < 6 → 0 ≤ q ∧ q < 6 → (tb.getD p.toNat (List.replicate 6 false)).getD q.toNat false = decide (∃ u ∈ ws, nd2 A B s t u = (p, q))
variable {A B s t}

theorem getD_set_self {α : Type} {l : List α} {i : Nat} (d x : α) (h : i < l.length) : (l.set i x).getD i d = x := by
  rw [List.getD_eq_getElem?_getD, List.getElem?_set_self h]; rfl
theorem getD_set_ne {α : Type} {l : List α} {i j : Nat} (d x : α) (h : i ≠ j) : (l.set i x).getD j d = l.getD j d := by
  rw [List.getD_eq_getElem?_getD, List.getElem?_set_ne h, ← List.getD_eq_getElem?_getD]

theorem Tab.grow {tb : List (List Bool)} {ws : List (List Int)} (h : Tab A B s t tb ws) (v : List Int) (hp : 0 ≤ (nd2 A B s t v).1 ∧ (nd2 A B s t v).1 < 6) (hq : 0 ≤ (nd2 A B s t v).2 ∧ (nd2 A B s t v).2 < 6) :
    Tab A B s t (tb.set (nd2 A B s t v).1.toNat ((tb.getD (nd2 A B s t v).1.toNat (List.replicate 6 false)).set (nd2 A B s t v).2.toNat true)) (ws ++ [v]) := by
  have hl := h.len
  have hr := h.row _ hp
  refine ⟨by simpa using hl, fun p hp' => ?_, fun p q hp' hq' => ?_⟩
  · by_cases e : (nd2 A B s t v).1.toNat = p.toNat
    · rw [← e, getD_set_self _ _ (by omega)]; simpa using hr
    · rw [getD_set_ne _ _ e]; exact h.row p hp'
  · have hsplit : (∃ u ∈ ws ++ [v], nd2 A B s t u = (p, q)) ↔ (∃ u ∈ ws, nd2 A B s t u = (p, q)) ∨ nd2 A B s t v = (p, q) := by
      constructor
      · rintro ⟨u, hu, e⟩
        rcases List.mem_append.1 hu with hu | hu
        · exact .inl ⟨u, hu, e⟩
        · simp only [List.mem_singleton] at hu
          subst hu; exact .inr e
      · rintro (⟨u, hu, e⟩ | e)
        · exact ⟨u, List.mem_append_left _ hu, e⟩
        · exact ⟨v, by simp, e⟩
    by_cases e : (nd2 A B s t v).1.toNat = p.toNat
    · rw [← e, getD_set_self _ _ (by omega)]
      by_cases e2 : (nd2 A B s t v).2.toNat = q.toNat
      · rw [← e2, getD_set_self _ _ (by omega)]
        have : nd2 A B s t v = (p, q) := Prod.ext (by show (nd2 A B s t v).1 = p; omega) (by show (nd2 A B s t v).2 = q; omega)
        rw [decide_eq_true (hsplit.2 (.inr this))]
      · rw [getD_set_ne _ _ e2, e, h.at_ p q hp' hq']
        refine decide_eq_decide.2 ⟨fun g => hsplit.2 (.inl g), fun g => (hsplit.1 g).elim id fun g => ?_⟩
        rw [g] at e2; exact absurd rfl e2
    · rw [getD_set_ne _ _ e, h.at_ p q hp' hq']
      refine decide_eq_decide.2 ⟨fun g => hsplit.2 (.inl g), fun g => (hsplit.1 g).elim id fun g => ?_⟩
      rw [g] at e; exact absurd rfl e

variable (hA : V A) (hB : V B) (hs : inB A s) (ht : inB B t)
include hA hB hs ht

theorem step79 {K k h : Nat} {tb : List (List Bool)} {ws : List (List Int)} {w : List Int} (hm : Tab A B s t tb ws) (hh : h < ws.length) (he : ws.getD h [] = w) (hl : ws.length ≤ 1000) (hw : wok w) (hwl : w.length ≤ 1000) {x : Int} (hx : x = 0 ∨ x = 1) :
    ∃ tb', Tab A B s t tb' (grow (nd2 A B s t) ws (w ++ [x])) ∧
      impll79_2 K (k + 1) s t A B ws tb h (en A s w) (en B t w) x = impll79_2 K k s t A B (grow (nd2 A B s t) ws (w ++ [x])) tb' h (en A s w) (en B t w) (x + 1) := by
  rw [impll79_2, implb79_2]
  have ia := en_in hA hs hw
  have ib := en_in hB ht hw
  have hx2 : 0 ≤ x ∧ x ≤ 1 := by omega
  have ja := nx_in hA ia hx2
  have jb := nx_in hB ib hx2
  have a6 := hA.2.1
  have b6 := hB.2.1
  have n1 : (A.1.getD (en A s w).toNat (List.replicate 2 0)).getD x.toNat 0 = nx A (en A s w) x := rfl
  have n2 : (B.1.getD (en B t w).toNat (List.replicate 2 0)).getD x.toNat 0 = nx B (en B t w) x := rfl
  have c1 : x < 2 := by omega
  have c2 : 0 ≤ x ∧ x < 2 := by omega
  have c3 : 0 ≤ nx A (en A s w) x ∧ nx A (en A s w) x < 6 := by omega
  have c4 : 0 ≤ nx B (en B t w) x ∧ nx B (en B t w) x < 6 := by omega
  have c5 : 0 ≤ (h : Int) ∧ (h : Int) < (ws.length : Int) := by omega
  have w1 : IntKind.i64.wrap (x + 1) = x + 1 := wrapI (by omega) (by omega)
  have eh : ws.getD (h : Int).toNat [] = w := he
  simp only [n1, n2, cdec, if_pos c1, if_pos c2, if_pos c3, if_pos c4, if_pos c5, if_pos ia, if_pos ib, cnot, w1, eh]
  rw [hm.at_ _ _ c3 c4]
  simp only [cdec]
  unfold grow
  rw [nd2_snoc]
  by_cases g : ∃ u ∈ ws, nd2 A B s t u = (nx A (en A s w) x, nx B (en B t w) x)
  · rw [if_pos g, if_pos g]
    exact ⟨tb, hm, rfl⟩
  · rw [if_neg g, if_neg g, if_pos (by simp; omega), if_pos (by simp; omega), if_pos (by simp; omega)]
    have hg := hm.grow (w ++ [x]) (by rw [nd2_snoc]; exact c3) (by rw [nd2_snoc]; exact c4)
    rw [nd2_snoc] at hg
    exact ⟨_, hg, rfl⟩

theorem inner79 {K h : Nat} {tb : List (List Bool)} {ws : List (List Int)} {w : List Int} (hK : 10 ≤ K) (hm : Tab A B s t tb ws) (hh : h < ws.length) (he : ws.getD h [] = w) (hl : ws.length ≤ 900) (hw : wok w) (hwl : w.length ≤ 1000) :
    ∃ tb', Tab A B s t tb' (grow2 (nd2 A B s t) ws w) ∧
      impll79_2 K K s t A B ws tb h (en A s w) (en B t w) 0 = some (grow2 (nd2 A B s t) ws w, tb', 2, ()) := by
  obtain ⟨K', rfl⟩ : ∃ K', K = K' + 3 := ⟨K - 3, by omega⟩
  obtain ⟨m1, h1, e1⟩ := step79 hA hB hs ht (K := K' + 3) (k := K' + 2) hm hh he (by omega) hw hwl (x := 0) (.inl rfl)
  have hg := grow_len (nd2 A B s t) ws (w ++ [0])
  have hg1 : h < (grow (nd2 A B s t) ws (w ++ [0])).length := by omega
  have hg2 : (grow (nd2 A B s t) ws (w ++ [0])).length ≤ 1000 := by omega
  have he2 : (grow (nd2 A B s t) ws (w ++ [0])).getD h [] = w := by
    unfold grow
    split
    · exact he
    · rw [getD_app hh]; exact he
  obtain ⟨m2, h2, e2⟩ := step79 hA hB hs ht (K := K' + 3) (k := K' + 1) h1 hg1 he2 hg2 hw hwl (x := 1) (.inr rfl)
  refine ⟨m2, h2, ?_⟩
  rw [e1]
  have : (0 : Int) + 1 = 1 := rfl
  rw [this, e2]
  have : (1 : Int) + 1 = 2 := rfl
  rw [this, impll79_2, implb79_2]
  rfl

theorem s79 {N : Nat} (hN : ∀ ws : List (List Int), (∀ w ∈ ws, wok w) → (ws.map (nd2 A B s t)).Nodup → ws.length ≤ N) (hN9 : N ≤ 900) {K : Nat} (hK : N + 10 ≤ K) :
    ∀ (k h : Nat) (ws : List (List Int)) (tb : List (List Bool)), BI (nd2 A B s t) (goal2 A B) h ws → N - h < k → Tab A B s t tb ws →
      match bfs (nd2 A B s t) (goal2 A B) k h ws with
      | some w => impll79_0 K k s t A B ws tb h = some (.inr (w, true, ()))
      | none => ∃ r, impll79_0 K k s t A B ws tb h = some (.inl r)
  | 0, h, ws, m, _, hk, _ => by omega
  | k + 1, h, ws, m, hb, hk, hm => by
    have hNw := hN ws hb.wk hb.nod
    rw [bfs]
    by_cases hh : h < ws.length
    · have hw := hb.wk _ (getD_mem [] hh)
      have hwl := hb.lb h hh
      have eh : ws.getD (h : Int).toNat [] = ws.getD h [] := rfl
      have o1 : A.2.getD (en A s (ws.getD h [])).toNat 0 = ot A (en A s (ws.getD h [])) := rfl
      have o2 : B.2.getD (en B t (ws.getD h [])).toNat 0 = ot B (en B t (ws.getD h [])) := rfl
      have ia := en_in hA hs hw
      have ib := en_in hB ht hw
      have ia2 : 0 ≤ en A s (ws.getD h []) ∧ en A s (ws.getD h []) < (A.2.length : Int) := by rw [hA.2.2.1]; exact ia
      have ib2 : 0 ≤ en B t (ws.getD h []) ∧ en B t (ws.getD h []) < (B.2.length : Int) := by rw [hB.2.2.1]; exact ib
      have c1 : (h : Int) < (ws.length : Int) := by omega
      have c5 : 0 ≤ (h : Int) ∧ (h : Int) < (ws.length : Int) := by omega
      rw [if_pos hh]
      by_cases g : ot A (en A s (ws.getD h [])) = ot B (en B t (ws.getD h []))
      · have hg : ¬ goal2 A B (nd2 A B s t (ws.getD h [])) := fun h => h g
        obtain ⟨m', h1, h2⟩ := inner79 hA hB hs ht (K := K) (by omega) hm (w := ws.getD h []) (h := h) hh rfl (by omega) hw (by omega)
        rw [if_neg hg, impll79_0, implb79_0]
        simp only [eh, f65 K hA hw hs (by omega) (by omega), f65 K hB hw ht (by omega) (by omega), obS, o1, o2, cdec, if_pos c1, if_pos c5, if_pos ia2, if_pos ib2, ibne, cnot]
        rw [if_pos g, h2, wrapS (by omega)]
        exact s79 hN hN9 hK k (h + 1) _ m' (hb.next (nd2_step A B s t) hh hg) (by omega) h1
      · have hg : goal2 A B (nd2 A B s t (ws.getD h [])) := g
        rw [if_pos hg, impll79_0, implb79_0]
        simp only [eh, f65 K hA hw hs (by omega) (by omega), f65 K hB hw ht (by omega) (by omega), obS, o1, o2, cdec, if_pos c1, if_pos c5, if_pos ia2, if_pos ib2, ibne, cnot]
        rw [if_neg g]
    · rw [if_neg hh, impll79_0, implb79_0]
      simp only [cdec]
      rw [if_neg (by omega)]
      exact ⟨_, rfl⟩
end

end Go.Proofs.Ythdmngalhppkcaa
