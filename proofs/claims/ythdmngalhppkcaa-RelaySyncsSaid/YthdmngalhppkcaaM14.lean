/- Sets of states as bits; a search that leaves words out late. -/
import Derived.Test.YthdmngalhppkcaaPureRelayFroms
import Derived.Test.YthdmngalhppkcaaPureRelayRenames
import Derived.Test.YthdmngalhppkcaaM8
set_option linter.unusedVariables false
set_option linter.unusedSimpArgs false
namespace Go.Proofs.Ythdmngalhppkcaa
open Go Go.Pv Classical

section
variable {ν : Type} (nd : List Int → ν) (goal : ν → Prop)

/-- The words that lead where none before them leads. -/
noncomputable def ded (ws : List (List Int)) : List (List Int) := ws.foldl (grow nd) []
noncomputable def bfl : Nat → Nat → List (List Int) → Option (List Int)
  | 0, _, _ => none
  | k + 1, h, ws => if h < ws.length then (if goal (nd (ws.getD h [])) then some (ws.getD h []) else
      if ∃ u ∈ ws.take h, nd u = nd (ws.getD h []) then bfl k (h + 1) ws else bfl k (h + 1) (ws ++ [ws.getD h [] ++ [0], ws.getD h [] ++ [1]])) else none

variable {nd goal}

theorem ded_snoc (ws : List (List Int)) (v : List Int) : ded nd (ws ++ [v]) = grow nd (ded nd ws) v := by simp [ded]
theorem grow_has (ws : List (List Int)) (v : List Int) (x : ν) : (∃ u ∈ grow nd ws v, nd u = x) ↔ (∃ u ∈ ws, nd u = x) ∨ nd v = x := by
  unfold grow
  by_cases h : ∃ u ∈ ws, nd u = nd v
  · rw [if_pos h]
    refine ⟨.inl, fun g => g.elim id fun e => ?_⟩
    obtain ⟨u, hu, e'⟩ := h
    exact ⟨u, hu, e'.trans e⟩
  · rw [if_neg h]
    constructor
    · rintro ⟨u, hu, e⟩
      rcases List.mem_append.1 hu with hu | hu
      · exact .inl ⟨u, hu, e⟩
      · simp only [List.mem_singleton] at hu
        subst hu; exact .inr e
    · rintro (⟨u, hu, e⟩ | e)
      · exact ⟨u, List.mem_append_left _ hu, e⟩
      · exact ⟨v, by simp, e⟩
theorem fold_pre : ∀ (l ws : List (List Int)), ∃ t, l.foldl (grow nd) ws = ws ++ t
  | [], ws => ⟨[], by simp⟩
  | v :: l, ws => by
    obtain ⟨t, ht⟩ := fold_pre l (grow nd ws v)
    unfold grow at ht
    rw [List.foldl_cons]
    unfold grow
    split at ht
    · rename_i h
      rw [if_pos h]; exact ⟨t, ht⟩
    · rename_i h
      rw [if_neg h]; exact ⟨v :: t, by rw [ht]; simp⟩
theorem ded_pre (ws ws' : List (List Int)) : ∃ t, ded nd (ws ++ ws') = ded nd ws ++ t := by
  unfold ded
  rw [List.foldl_append]
  exact fold_pre ws' _
theorem fold_spec : ∀ (l ws : List (List Int)), (ws.map nd).Nodup → ((l.foldl (grow nd) ws).map nd).Nodup ∧ (∀ u ∈ l.foldl (grow nd) ws, u ∈ ws ∨ u ∈ l) ∧ ∀ x, (∃ u ∈ l.foldl (grow nd) ws, nd u = x) ↔ (∃ u ∈ ws, nd u = x) ∨ ∃ u ∈ l, nd u = x
  | [], ws, h => ⟨h, fun u hu => .inl hu, fun x => by simp⟩
  | v :: l, ws, h => by
    obtain ⟨t, h1, h2, h3, h4⟩ := grow_spec (nd := nd) ws v h
    obtain ⟨g1, g2, g3⟩ := fold_spec l (grow nd ws v) h3
    rw [List.foldl_cons]
    refine ⟨g1, fun u hu => ?_, fun x => ?_⟩
    · rcases g2 u hu with hu | hu
      · rw [h1] at hu
        rcases List.mem_append.1 hu with hu | hu
        · exact .inl hu
        · exact .inr (by rw [h2 u hu]; simp)
      · exact .inr (by simp [hu])
    · rw [g3, grow_has, or_assoc]
      refine or_congr Iff.rfl ⟨fun g => ?_, fun g => ?_⟩
      · rcases g with g | ⟨u, hu, e⟩
        · exact ⟨v, by simp, g⟩
        · exact ⟨u, by simp [hu], e⟩
      · obtain ⟨u, hu, e⟩ := g
        rcases List.mem_cons.1 hu with rfl | hu
        · exact .inl e
        · exact .inr ⟨u, hu, e⟩
theorem ded_spec (ws : List (List Int)) : ((ded nd ws).map nd).Nodup ∧ (∀ u ∈ ded nd ws, u ∈ ws) ∧ ∀ x, (∃ u ∈ ded nd ws, nd u = x) ↔ ∃ u ∈ ws, nd u = x := by
  obtain ⟨h1, h2, h3⟩ := fold_spec (nd := nd) ws [] (by simp)
  refine ⟨h1, fun u hu => (h2 u hu).elim (fun g => by cases g) id, fun x => ?_⟩
  refine (h3 x).trans ⟨fun g => g.elim (fun ⟨u, hu, _⟩ => by cases hu) id, .inr⟩

theorem bfl_eq {N : Nat} (hN : ∀ ws : List (List Int), (∀ w ∈ ws, wok w) → (ws.map nd).Nodup → ws.length ≤ N) :
    ∀ (k k' h : Nat) (ws : List (List Int)), h ≤ ws.length → (∀ w ∈ ws, wok w) → (∀ u ∈ ws.take h, ¬ goal (nd u)) → ws.length ≤ 1 + 2 * (ded nd (ws.take h)).length →
      2 * N + 1 - h < k → N - (ded nd (ws.take h)).length < k' → bfl nd goal k h ws = bfs nd goal k' (ded nd (ws.take h)).length (ded nd ws)
  | 0, k', h, ws, _, _, _, _, hk, _ => by omega
  | k + 1, 0, h, ws, _, _, _, _, _, hk => by omega
  | k + 1, k' + 1, h, ws, hh, hw, hg, hl, hk, hk' => by
    obtain ⟨n1, n2, n3⟩ := ded_spec (nd := nd) ws
    have hlen := hN (ded nd ws) (fun w h => hw w (n2 w h)) n1
    rw [bfl]
    by_cases hlt : h < ws.length
    · rw [if_pos hlt]
      have hd : ws.take (h + 1) = ws.take h ++ [ws.getD h []] := take_getD [] hlt
      have hded : ded nd (ws.take (h + 1)) = grow nd (ded nd (ws.take h)) (ws.getD h []) := by rw [hd, ded_snoc]
      obtain ⟨m1, m2, m3⟩ := ded_spec (nd := nd) (ws.take h)
      have hwm : ws.getD h [] ∈ ws := getD_mem [] hlt
      have hlen0 := hN (ded nd (ws.take h)) (fun w g => hw w (List.mem_of_mem_take (m2 w g))) m1
      by_cases hs : ∃ u ∈ ws.take h, nd u = nd (ws.getD h [])
      · have hng : ¬ goal (nd (ws.getD h [])) := by
          obtain ⟨u, hu, e⟩ := hs
          rw [← e]; exact hg u hu
        have e2 : ded nd (ws.take (h + 1)) = ded nd (ws.take h) := by
          rw [hded]; unfold grow; rw [if_pos ((m3 _).2 hs)]
        rw [if_neg hng, if_pos hs]
        have ih := bfl_eq hN k (k' + 1) (h + 1) ws (by omega) hw (fun u hu => by
          rw [hd] at hu
          rcases List.mem_append.1 hu with hu | hu
          · exact hg u hu
          · simp only [List.mem_singleton] at hu
            subst hu; exact hng) (by rw [e2]; exact hl) (by omega) (by rw [e2]; exact hk')
        rw [e2] at ih
        exact ih
      · have e2 : ded nd (ws.take (h + 1)) = ded nd (ws.take h) ++ [ws.getD h []] := by
          rw [hded]; unfold grow; rw [if_neg (fun g => hs ((m3 _).1 g))]
        obtain ⟨t, ht⟩ := ded_pre (nd := nd) (ws.take (h + 1)) (ws.drop (h + 1))
        rw [List.take_append_drop, e2, List.append_assoc] at ht
        have h0 : (ded nd (ws.take h)).length < (ded nd ws).length := by rw [ht]; simp
        have hat : (ded nd ws).getD (ded nd (ws.take h)).length [] = ws.getD h [] := by
          rw [ht]; simp [List.getD]
        rw [bfs, if_pos h0, hat]
        by_cases hgo : goal (nd (ws.getD h []))
        · rw [if_pos hgo, if_pos hgo]
        · rw [if_neg hgo, if_neg hgo, if_neg hs]
          have hta : ∀ l : List (List Int), (ws ++ l).take (h + 1) = ws.take (h + 1) := fun l => List.take_append_of_le_length (by omega)
          have hl2 : (ded nd (ws.take (h + 1))).length = (ded nd (ws.take h)).length + 1 := by rw [e2]; simp
          have ih := bfl_eq hN k k' (h + 1) (ws ++ [ws.getD h [] ++ [0], ws.getD h [] ++ [1]]) (by simp; omega) (fun u hu => by
              rcases List.mem_append.1 hu with hu | hu
              · exact hw u hu
              · have hk := hw _ hwm
                intro y hy
                simp only [List.mem_cons, List.not_mem_nil, or_false] at hu
                rcases hu with rfl | rfl
                · rcases List.mem_append.1 hy with hy | hy
                  · exact hk y hy
                  · simp at hy; omega
                · rcases List.mem_append.1 hy with hy | hy
                  · exact hk y hy
                  · simp at hy; omega)
            (fun u hu => by
              rw [hta, hd] at hu
              rcases List.mem_append.1 hu with hu | hu
              · exact hg u hu
              · simp only [List.mem_singleton] at hu
                subst hu; exact hgo) (by rw [hta, hl2]; simp; omega) (by omega) (by rw [hta, hl2]; omega)
          rw [hta, hl2] at ih
          rw [ih]
          have : ded nd (ws ++ [ws.getD h [] ++ [0], ws.getD h [] ++ [1]]) = grow2 nd (ded nd ws) (ws.getD h []) := by
            have e : ws ++ [ws.getD h [] ++ [0], ws.getD h [] ++ [1]] = (ws ++ [ws.getD h [] ++ [0]]) ++ [ws.getD h [] ++ [1]] := by simp
            rw [e, ded_snoc, ded_snoc]; rfl
          rw [this]
    · rw [if_neg hlt, bfs]
      have : h = ws.length := by omega
      subst this
      rw [List.take_length, if_neg (by omega)]
end

/-! ### Sets of numbers as bits -/
def orf (f : Nat → Nat) : Nat → Nat
  | 0 => 0
  | j + 1 => orf f j ||| 2 ^ f j
def orc (c : Nat → Bool) (f : Nat → Nat) : Nat → Nat
  | 0 => 0
  | j + 1 => if c j then orc c f j ||| 2 ^ f j else orc c f j

theorem orf_bit (f : Nat → Nat) (p : Nat) : ∀ j, (orf f j).testBit p = true ↔ ∃ i, i < j ∧ f i = p
  | 0 => by simp [orf]
  | j + 1 => by
    rw [orf, Nat.testBit_or, Bool.or_eq_true, orf_bit f p j, Nat.testBit_two_pow, decide_eq_true_iff]
    constructor
    · rintro (⟨i, h1, h2⟩ | h)
      · exact ⟨i, by omega, h2⟩
      · exact ⟨j, by omega, h⟩
    · rintro ⟨i, h1, h2⟩
      rcases Nat.lt_or_ge i j with h | h
      · exact .inl ⟨i, h, h2⟩
      · have : i = j := by omega
        subst this; exact .inr h2
theorem orc_bit (c : Nat → Bool) (f : Nat → Nat) (p : Nat) : ∀ j, (orc c f j).testBit p = true ↔ ∃ i, i < j ∧ c i = true ∧ f i = p
  | 0 => by simp [orc]
  | j + 1 => by
    have ih := orc_bit c f p j
    rw [orc]
    by_cases hc : c j = true
    · rw [if_pos hc, Nat.testBit_or, Bool.or_eq_true, ih, Nat.testBit_two_pow, decide_eq_true_iff]
      constructor
      · rintro (⟨i, h1, h2⟩ | h)
        · exact ⟨i, by omega, h2⟩
        · exact ⟨j, by omega, hc, h⟩
      · rintro ⟨i, h1, h2, h3⟩
        rcases Nat.lt_or_ge i j with h | h
        · exact .inl ⟨i, h, h2, h3⟩
        · have : i = j := by omega
          subst this; exact .inr h3
    · rw [if_neg hc, ih]
      constructor
      · rintro ⟨i, h1, h2⟩
        exact ⟨i, by omega, h2⟩
      · rintro ⟨i, h1, h2, h3⟩
        rcases Nat.lt_or_ge i j with h | h
        · exact ⟨i, h, h2, h3⟩
        · have : i = j := by omega
          subst this; exact absurd h2 hc
theorem orf_lt {f : Nat → Nat} : ∀ {j : Nat}, (∀ i, i < j → f i < 6) → orf f j < 64
  | 0, _ => by simp [orf]
  | j + 1, h => by
    have ih := orf_lt (f := f) (j := j) fun i hi => h i (by omega)
    have h2 : 2 ^ f j < 2 ^ 6 := Nat.pow_lt_pow_right (by omega) (h j (by omega))
    exact Nat.or_lt_two_pow (n := 6) ih h2
theorem orc_lt {c : Nat → Bool} {f : Nat → Nat} : ∀ {j : Nat}, (∀ i, i < j → f i < 6) → orc c f j < 64
  | 0, _ => by simp [orc]
  | j + 1, h => by
    have ih := orc_lt (c := c) (f := f) (j := j) fun i hi => h i (by omega)
    have h2 : 2 ^ f j < 2 ^ 6 := Nat.pow_lt_pow_right (by omega) (h j (by omega))
    rw [orc]
    split
    · exact Nat.or_lt_two_pow (n := 6) ih h2
    · exact ih

/-- The states to which a word leads, from any state. -/
def ms (b : Bx) (w : List Int) : Nat := orf (fun k => (en b k w).toNat) b.1.length
def gl (m : Nat) : Prop := m &&& (m - 1) = 0

theorem nx_nat (b : Bx) (i x : Int) : nx b (i.toNat : Nat) x = nx b i x := rfl

theorem ms_snoc (b : Bx) (w : List Int) (x : Int) (p : Nat) : (ms b (w ++ [x])).testBit p = true ↔ ∃ i : Nat, (ms b w).testBit i = true ∧ (nx b i x).toNat = p := by
  unfold ms
  rw [orf_bit]
  constructor
  · rintro ⟨k, hk, h⟩
    refine ⟨(en b k w).toNat, (orf_bit _ _ _).2 ⟨k, hk, rfl⟩, ?_⟩
    rw [nx_nat, ← en_snoc]; exact h
  · rintro ⟨i, hi, h⟩
    obtain ⟨k, hk, rfl⟩ := (orf_bit _ _ _).1 hi
    refine ⟨k, hk, ?_⟩
    rw [nx_nat, ← en_snoc] at h
    exact h
theorem ms_step (b : Bx) (u v : List Int) (x : Int) (h : ms b u = ms b v) : ms b (u ++ [x]) = ms b (v ++ [x]) := by
  apply Nat.eq_of_testBit_eq
  intro p
  rw [Bool.eq_iff_iff, ms_snoc, ms_snoc, h]

variable {b : Bx}

theorem ms_lt (hv : V b) {w : List Int} (hw : wok w) : ms b w < 64 := orf_lt fun i hi => by
  have h := en_in hv (w := w) (s := (i : Int)) ⟨by omega, by omega⟩ hw
  have h6 := hv.2.1
  have h1 := h.1
  have h2 := h.2
  omega
theorem ms_pos (hv : V b) {w : List Int} : ms b w ≠ 0 := by
  intro h
  have : (ms b w).testBit (en b 0 w).toNat = true := (orf_bit _ _ _).2 ⟨0, hv.1, rfl⟩
  rw [h] at this
  simp at this
theorem ms_next (hv : V b) {w : List Int} (hw : wok w) (x : Int) : orc (fun i => (ms b w).testBit i) (fun i => (nx b i x).toNat) b.1.length = ms b (w ++ [x]) := by
  apply Nat.eq_of_testBit_eq
  intro p
  rw [Bool.eq_iff_iff, ms_snoc, orc_bit]
  constructor
  · rintro ⟨i, _, h2, h3⟩
    exact ⟨i, h2, h3⟩
  · rintro ⟨i, h2, h3⟩
    refine ⟨i, ?_, h2, h3⟩
    obtain ⟨k, hk, e⟩ := (orf_bit _ _ _).1 h2
    have h := en_in hv (w := w) (s := (k : Int)) ⟨by omega, by omega⟩ hw
    have h1 := h.1
    have h2 := h.2
    omega
theorem ms_one : ∀ m : Nat, m < 64 → m ≠ 0 → m &&& (m - 1) = 0 → ∃ p, m = 2 ^ p := by
  have h : ∀ m : Fin 64, m.val ≠ 0 → m.val &&& (m.val - 1) = 0 → ∃ p : Fin 6, m.val = 2 ^ p.val := by decide
  intro m h1 h2 h3
  obtain ⟨p, hp⟩ := h ⟨m, h1⟩ h2 h3
  exact ⟨p.val, hp⟩
theorem ms_goal (hv : V b) {w : List Int} (hw : wok w) (hg : gl (ms b w)) {i j : Nat} (hi : i < b.1.length) (hj : j < b.1.length) : en b i w = en b j w := by
  obtain ⟨p, hp⟩ := ms_one _ (ms_lt hv hw) (ms_pos hv) hg
  have all : ∀ k : Nat, k < b.1.length → en b k w = (p : Int) := fun k hk => by
    have : (ms b w).testBit (en b k w).toNat = true := (orf_bit _ _ _).2 ⟨k, hk, rfl⟩
    rw [hp, Nat.testBit_two_pow, decide_eq_true_iff] at this
    have h := (en_in hv (w := w) (s := (k : Int)) ⟨by omega, by omega⟩ hw).1
    omega
  rw [all i hi, all j hj]
theorem few_ms (hv : V b) (ws : List (List Int)) (hw : ∀ w ∈ ws, wok w) (hn : (ws.map (ms b)).Nodup) : ws.length ≤ 64 := by
  have h := nodup_le (ws.map (ms b)) (List.range 64) hn (by
    intro x hx
    obtain ⟨w, hwm, rfl⟩ := List.mem_map.1 hx
    exact List.mem_range.2 (ms_lt hv (hw w hwm)))
  rw [List.length_range, List.length_map] at h
  exact h

/-! ### The machine's bits -/
theorem ofInt_nat (w a : Nat) : BitVec.ofInt w (a : Int) = BitVec.ofNat w a := by
  apply BitVec.eq_of_toNat_eq
  simp [BitVec.toNat_ofInt]
theorem b_or {w a c : Nat} (ha : a < 2 ^ w) (hc : c < 2 ^ w) : (BitVec.ofInt w (a : Int) ||| BitVec.ofInt w (c : Int)).toNat = a ||| c := by
  rw [ofInt_nat, ofInt_nat, BitVec.toNat_or, BitVec.toNat_ofNat, BitVec.toNat_ofNat, Nat.mod_eq_of_lt ha, Nat.mod_eq_of_lt hc]
theorem b_and {w a c : Nat} (ha : a < 2 ^ w) (hc : c < 2 ^ w) : (BitVec.ofInt w (a : Int) &&& BitVec.ofInt w (c : Int)).toNat = a &&& c := by
  rw [ofInt_nat, ofInt_nat, BitVec.toNat_and, BitVec.toNat_ofNat, BitVec.toNat_ofNat, Nat.mod_eq_of_lt ha, Nat.mod_eq_of_lt hc]
theorem wrapU {n : Int} (h1 : 0 ≤ n) (h2 : n ≤ 18446744073709551615) : IntKind.u64.wrap n = n := IntWalk.u64_in n ⟨h1, h2⟩

theorem wrapUN {q : Nat} (h : q < 64) : IntKind.u64.wrap (q : Int) = q := wrapU (by omega) (by omega)
theorem wrapIN {q : Nat} (h : q < 64) : IntKind.i64.wrap (q : Int) = q := wrapI (by omega) (by omega)
theorem or64 {a c : Nat} (ha : a < 64) (hc : c < 64) : a ||| c < 64 := Nat.or_lt_two_pow (n := 6) ha hc
theorem and64 {a c : Nat} (ha : a < 64) : a &&& c < 64 := Nat.lt_of_le_of_lt Nat.and_le_left ha

theorem u_or {a c : Nat} (ha : a < 64) (hc : c < 64) : IntKind.u64.wrap (((BitVec.ofInt IntKind.u64.bits (a : Int) ||| BitVec.ofInt IntKind.u64.bits (c : Int)).toNat : Nat) : Int) = ((a ||| c : Nat) : Int) := by
  have h := or64 ha hc
  rw [b_or (w := IntKind.u64.bits) (show a < 2 ^ 64 by omega) (show c < 2 ^ 64 by omega), wrapU (by omega) (by omega)]
theorem i_or {a c : Nat} (ha : a < 64) (hc : c < 64) : IntKind.i64.wrap (((BitVec.ofInt IntKind.i64.bits (a : Int) ||| BitVec.ofInt IntKind.i64.bits (c : Int)).toNat : Nat) : Int) = ((a ||| c : Nat) : Int) := by
  have h := or64 ha hc
  rw [b_or (w := IntKind.i64.bits) (show a < 2 ^ 64 by omega) (show c < 2 ^ 64 by omega), wrapI (by omega) (by omega)]
theorem u_and {a c : Nat} (ha : a < 64) (hc : c < 64) : IntKind.u64.wrap (((BitVec.ofInt IntKind.u64.bits (a : Int) &&& BitVec.ofInt IntKind.u64.bits (c : Int)).toNat : Nat) : Int) = ((a &&& c : Nat) : Int) := by
  have h := and64 (c := c) ha
  rw [b_and (w := IntKind.u64.bits) (show a < 2 ^ 64 by omega) (show c < 2 ^ 64 by omega), wrapU (by omega) (by omega)]
theorem i_and {a c : Nat} (ha : a < 64) (hc : c < 64) : IntKind.i64.wrap (((BitVec.ofInt IntKind.i64.bits (a : Int) &&& BitVec.ofInt IntKind.i64.bits (c : Int)).toNat : Nat) : Int) = ((a &&& c : Nat) : Int) := by
  have h := and64 (c := c) ha
  rw [b_and (w := IntKind.i64.bits) (show a < 2 ^ 64 by omega) (show c < 2 ^ 64 by omega), wrapI (by omega) (by omega)]
theorem pow_small {p : Nat} (h : p < 6) : (2 : Nat) ^ p < 64 := Nat.pow_lt_pow_right (n := 6) (by omega) h
theorem pow_nat (p : Nat) : (2 : Int) ^ p = ((2 ^ p : Nat) : Int) := by simp
theorem u_shl {p : Int} (h0 : 0 ≤ p) (h : p < 6) : IntKind.u64.wrap ((1 : Int) * (2 : Int) ^ min p.toNat IntKind.u64.bits) = ((2 ^ p.toNat : Nat) : Int) := by
  have h6 := pow_small (p := p.toNat) (by omega)
  have : min p.toNat IntKind.u64.bits = p.toNat := Nat.min_eq_left (show p.toNat ≤ 64 by omega)
  rw [this, Int.one_mul, pow_nat, wrapUN h6]
theorem i_shl {p : Int} (h0 : 0 ≤ p) (h : p < 6) : IntKind.i64.wrap ((1 : Int) * (2 : Int) ^ min p.toNat IntKind.i64.bits) = ((2 ^ p.toNat : Nat) : Int) := by
  have h6 := pow_small (p := p.toNat) (by omega)
  have : min p.toNat IntKind.i64.bits = p.toNat := Nat.min_eq_left (show p.toNat ≤ 64 by omega)
  rw [this, Int.one_mul, pow_nat, wrapIN h6]
theorem u_bit {m i : Nat} (hm : m < 64) (hi : i < 6) : (IntKind.u64.wrap (((BitVec.ofInt IntKind.u64.bits ((m : Int).fdiv ((2 : Int) ^ min (i : Int).toNat IntKind.u64.bits)) &&& BitVec.ofInt IntKind.u64.bits (1 : Int)).toNat : Nat) : Int) == (1 : Int)) = m.testBit i := by
  have e1 : min (i : Int).toNat IntKind.u64.bits = i := Nat.min_eq_left (show i ≤ 64 by omega)
  have e2 : (m : Int).fdiv ((2 ^ i : Nat) : Int) = ((m / 2 ^ i : Nat) : Int) := (Int.ofNat_fdiv m (2 ^ i)).symm
  have h3 : m / 2 ^ i < 64 := Nat.lt_of_le_of_lt (Nat.div_le_self _ _) hm
  have e3 := u_and (a := m / 2 ^ i) (c := 1) h3 (by omega)
  rw [e1, pow_nat, e2]
  rw [show (1 : Int) = ((1 : Nat) : Int) from rfl, e3, Nat.and_one_is_mod, Nat.testBit_eq_decide_div_mod_eq]
  by_cases h : m / 2 ^ i % 2 = 1
  · rw [h]; rfl
  · have : m / 2 ^ i % 2 = 0 := by omega
    rw [this]; rfl

end Go.Proofs.Ythdmngalhppkcaa
