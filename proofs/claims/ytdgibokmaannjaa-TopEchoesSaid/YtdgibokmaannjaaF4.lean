/- What the functions compute: printed by a program of this claim's author. -/
import Derived.Test.YtdgibokmaannjaaF3
set_option maxRecDepth 100000
set_option linter.unusedVariables false
set_option linter.unusedSimpArgs false
namespace Go.Proofs.Ytdgibokmaannjaa
open Go Go.Pv

/-! diaphone/echo.exists -/
abbrev ins88 : Fs := [(.dat (.sl (.int .i64)), false)]
abbrev res88 : Sh := .dat .bool
noncomputable def implf88 (K : Nat) (x1 : List Int) : Option Bool := ob (implf95 K x1 ([], ())) fun y => some (decide (0 < y.1.length))
noncomputable def e88 (K : Nat) : Ent := ⟨ins88, res88, Bool, fun x => implf88 K x.1, fun _ => (fun y => (y, ())), false⟩
section
open Go.RowKit Go.Sort
abbrev Acc := List (List Int) × Unit
abbrev Rs := List Int → List Int → Acc → Option Acc

/-! ### What is told stands behind what was told -/
theorem in_acc (K : Nat) (rs : Rs) (c rest : List Int) : ∀ (k : Nat) (acc : Acc) (n y : Int) (own lit : List Int) (m i : Int) (cc : List Int) (nc j : Int) (r : Acc × List Int × Int × Unit), impll111_2 K rs k c rest acc n y own lit m i cc nc j = some r → r.1.1 = acc.1
  | 0, acc, n, y, own, lit, m, i, cc, nc, j, r, h => by rw [impll111_2] at h; cases h
  | k + 1, acc, n, y, own, lit, m, i, cc, nc, j, r, h => by
    rw [impll111_2, implb111_2] at h
    cases h1 : decide (j < nc) with
    | false => rw [h1, cond_false] at h; cases h; rfl
    | true =>
      rw [h1, cond_true] at h
      split at h
      · split at h
        · exact in_acc K rs c rest k _ _ _ _ _ _ _ _ _ _ r h
        · cases h
      · cases h
def Pre (rs : Rs) : Prop := ∀ c rest (acc : Acc) (r : Acc), rs c rest acc = some r → ∃ out, r.1 = acc.1 ++ out
theorem out_acc (K : Nat) {rs : Rs} (hrs : Pre rs) (c rest : List Int) : ∀ (k : Nat) (acc : Acc) (lit : List Int) (m i : Int) (r : Acc × Int × Unit), impll111_0 K rs k c rest acc lit m i = some r → ∃ out, r.1.1 = acc.1 ++ out
  | 0, acc, lit, m, i, r, h => by rw [impll111_0] at h; cases h
  | k + 1, acc, lit, m, i, r, h => by
    rw [impll111_0, implb111_0] at h
    have ih := fun (acc : Acc) i r => out_acc K hrs c rest k acc lit m i r
    cases h1 : decide (i < m) with
    | false => rw [h1, cond_false] at h; cases h; exact ⟨[], (List.append_nil _).symm⟩
    | true =>
      rw [h1, cond_true] at h
      split at h
      · obtain ⟨y1, -, h⟩ := ob_some h
        cases h2 : y1.2 with
        | true => rw [h2, cond_true] at h; exact ih _ _ _ h
        | false =>
          rw [h2, cond_false] at h
          cases h3 : (y1.1 == (0 : Int)) with
          | true => rw [h3, cond_true] at h; exact ih _ _ _ h
          | false =>
            rw [h3, cond_false] at h
            cases h4 : (y1.1 == (c.length : Int)) with
            | true => rw [h4, cond_true] at h; exact ih _ _ _ h
            | false =>
              rw [h4, cond_false] at h
              obtain ⟨y2, hy2, h⟩ := ob_some h
              have e2 := in_acc K rs c rest K _ _ _ _ _ _ _ _ _ _ _ hy2
              obtain ⟨y3, -, h⟩ := ob_some h
              cases h5 : y3.2 with
              | false =>
                rw [h5, cond_false] at h
                obtain ⟨out, e⟩ := ih _ _ _ h
                exact ⟨out, by rw [e]; exact congrArg (· ++ out) e2⟩
              | true =>
                rw [h5, cond_true] at h
                obtain ⟨y4, -, h⟩ := ob_some h
                obtain ⟨y5, -, h⟩ := ob_some h
                obtain ⟨y6, hy6, h⟩ := ob_some h
                obtain ⟨o1, e1⟩ := hrs _ _ _ _ hy6
                obtain ⟨o2, e3⟩ := ih _ _ _ h
                refine ⟨o1 ++ o2, ?_⟩
                rw [e3]
                show y6.1 ++ o2 = _
                rw [e1, ← List.append_assoc]
                exact congrArg (fun z => z ++ o1 ++ o2) e2
      · cases h
theorem search_pre (K : Nat) : ∀ k, Pre (implr111 K k)
  | 0 => fun c rest acc r h => by rw [implr111] at h; cases h
  | k + 1 => fun c rest acc r h => by
    rw [implr111, implg111] at h
    cases h1 : ((rest.length : Int) == (0 : Int)) with
    | true =>
      rw [h1, cond_true] at h
      obtain ⟨y1, hy1, h⟩ := ob_some h
      cases h
      unfold implf96 at hy1
      obtain ⟨z, -, hy1⟩ := ob_some hy1
      split at hy1
      · cases hy1; exact ⟨_, rfl⟩
      · cases hy1
    | false =>
      rw [h1, cond_false] at h
      split at h
      · split at h
        · obtain ⟨y2, hy2, h⟩ := ob_some h
          cases h
          obtain ⟨out, e⟩ := out_acc K (search_pre K k) c rest K _ _ _ _ _ hy2
          exact ⟨out, e⟩
        · cases h
      · cases h
/-- Where nothing is left something is told. -/
theorem told_more {K : Nat} {c : List Int} {acc : List (List Int)} {r : List (List Int)} (h : implf96 K c acc = some r) : r ≠ acc := by
  unfold implf96 at h
  obtain ⟨z, -, h⟩ := ob_some h
  split at h
  · cases h
    intro q
    have := congrArg List.length q
    rw [List.length_append] at this
    simp at this
  · cases h

/-! ### Calls at rows that are read -/
def RdC (base : Nat) (w : World) (v : Value) (xs : List Int) : Prop :=
  ∃ A cap, v = .slice A xs.length cap ∧ xs.length ≤ cap ∧ (0 < xs.length → ∃ b o, A = some ⟨b, o, none⟩ ∧ b < base ∧ ∀ j, j < xs.length → w.cell? ⟨b, o + j, none⟩ = some (.int .i64 (xs.getD j 0)))
theorem RdC.gro {base : Nat} {w w' : World} {v : Value} {xs : List Int} (h : RdC base w v xs) (hg : Gro base w w') : RdC base w' v xs := by
  obtain ⟨A, cap, e, hc, h⟩ := h
  refine ⟨A, cap, e, hc, fun h0 => ?_⟩
  obtain ⟨b, o, e1, h1, h2⟩ := h h0
  exact ⟨b, o, e1, h1, fun j hj => by rw [World.cell?_of_block (hg.same b h1)]; exact h2 j hj⟩
theorem RdC.up {base base2 : Nat} {w : World} {v : Value} {xs : List Int} (h : RdC base w v xs) (hb : base ≤ base2) : RdC base2 w v xs := by
  obtain ⟨A, cap, e, hc, h⟩ := h
  refine ⟨A, cap, e, hc, fun h0 => ?_⟩
  obtain ⟨b, o, e1, h1, h2⟩ := h h0
  exact ⟨b, o, e1, Nat.lt_of_lt_of_le h1 hb, h2⟩
/-- Every block there is. -/
abbrev All (w : World) : Nat → Prop := fun b => b < w.heap.size
theorem own_all (w : World) : Own (All w) w [] := ⟨fun b hb => (by cases hb), .nil, fun b hb => hb, fun q hq => by simp [glob] at hq⟩
theorem RdC.rep {S : Nat → Prop} {w : World} {base : Nat} {v : Value} {xs : List Int} (h : RdC base w v xs) (hS : ∀ b, b < base → S b) : Rep S w (.sl (.int .i64)) xs [v] := by
  obtain ⟨A, cap, rfl, hc, h⟩ := h
  refine ⟨A, cap, rfl, hc, fun h0 => ?_⟩
  obtain ⟨b, o, rfl, h1, h2⟩ := h h0
  refine ⟨b, o, xs.map (Value.int .i64), rfl, hS b h1, fun j d hd => ?_, ints_row xs⟩
  rw [List.getElem?_map] at hd
  cases hq : xs[j]? with
  | none => rw [hq] at hd; cases hd
  | some y =>
    rw [hq] at hd
    cases hd
    have hj : j < xs.length := (List.getElem?_eq_some_iff.1 hq).1
    have := h2 j hj
    rw [List.getD_eq_getElem?_getD, hq] at this
    exact this
theorem rd_of_rep {S : Nat → Prop} {w : World} {xs : List Int} {v : Value} (hS : ∀ b, S b → b < w.heap.size) (h : Rep S w (.sl (.int .i64)) xs [v]) : RdC w.heap.size w v xs := by
  obtain ⟨A, cap, e, h1, h2⟩ := h
  refine ⟨A, cap, (List.cons.inj e).1, h1, fun h0 => ?_⟩
  obtain ⟨b, o, ds, rfl, hb, hc, hr⟩ := h2 h0
  refine ⟨b, o, rfl, hS b hb, fun j hj => hc j _ ?_⟩
  rw [row_ints hr, List.getElem?_map, List.getD_eq_getElem?_getD, List.getElem?_eq_getElem hj]
  rfl
theorem rd_of_row {S : Nat → Prop} {w : World} {xs : List Int} {p : At} (h : RowAt S w p (.int .i64) xs) : RdC w.heap.size w (rowVal p) xs := by
  obtain ⟨e1, h⟩ := h
  rcases h with ⟨hn, h0, hc⟩ | ⟨hn, cs, ty, hh, h1, h2, h3, h4⟩
  · refine ⟨none, 0, ?_, by rw [h0]; exact Nat.le_refl _, fun h => by rw [h0] at h; exact absurd h (Nat.lt_irrefl 0)⟩
    unfold rowVal
    rw [hn, hc, e1]; rfl
  · have hb : p.b < w.heap.size := by
      rcases Nat.lt_or_ge p.b w.heap.size with g | g
      · exact g
      · simp [Array.getElem?_eq_none g] at hh
    refine ⟨some ⟨p.b, p.o, none⟩, p.cap, by unfold rowVal; rw [hn, e1]; rfl, h1, fun h0 => ⟨p.b, p.o, rfl, hb, fun j hj => ?_⟩⟩
    have h5 : (cs.drop p.o).take (xs.length * 1) = xs.map (Value.int .i64) := row_ints h4
    have h6 : ((cs.drop p.o).take (xs.length * 1))[j]? = some (.int .i64 (xs.getD j 0)) := by
      rw [h5, List.getElem?_map, List.getD_eq_getElem?_getD, List.getElem?_eq_getElem hj]; rfl
    rw [List.getElem?_take] at h6
    split at h6
    · rw [List.getElem?_drop] at h6
      unfold World.cell?
      simp only []
      rw [hh]
      simpa using h6
    · cases h6
theorem rd_of_in {w : World} {base : Nat} {v : Value} {xs : List Int} (h : Go.Pv.RowIn w base 3 v xs) : RdC w.heap.size w v xs := by
  rcases h.2 with ⟨rfl, hn⟩ | ⟨g, cap, cur, rfl, -, -, hc, -⟩
  · exact ⟨none, 0, by rw [hn], by omega, fun h0 => by omega⟩
  · refine ⟨some ⟨g, 0, none⟩, cap, rfl, hc, fun h0 => ⟨g, 0, rfl, (World.ownsRow.lt h g rfl).2, fun j hj => ?_⟩⟩
    have := World.ownsRow.cells h rfl j (.int .i64 (xs.getD j 0)) (by rw [List.getElem?_map, List.getD_eq_getElem?_getD, List.getElem?_eq_getElem hj]; rfl)
    rwa [Addr.add_lit] at this
theorem row_any {S S2 : Nat → Prop} {w : World} {xs : List Int} {p : At} (h : RowAt S w p (.int .i64) xs) : RowAt S2 w p (.int .i64) xs := by
  obtain ⟨e1, h⟩ := h
  refine ⟨e1, ?_⟩
  rcases h with h | ⟨hn, cs, ty, hh, h1, h2, h3, h4⟩
  · exact .inl h
  · refine .inr ⟨hn, cs, ty, hh, h1, h2, h3, ?_⟩
    rw [row_ints h4]; exact ints_row xs
theorem gro_of_ran {S S' : Nat → Prop} {w w' : World} {bs : List Nat} (h : Ran S w [] S' w' bs) : Gro w.heap.size w w' := ⟨h.os, h.tape, h.output, h.size, fun b hb => h.same b hb (by simp)⟩
theorem call84 {K : Nat} {w : World} {v : Value} {c : List Int} {n : Int} {r : Int × Bool} (hv : RdC w.heap.size w v c) (h : implf84 K c n = some r) :
    Calls Try.prog 84 #[v, .int .i64 n] w fun e w' => e = .returned (.tuple #[.int .i64 r.1, .bool r.2]) ∧ Gro w.heap.size w w' := by
  refine ((e84_ok K).2 (All w) w [v, .int .i64 n] (c, n, ()) [] r (own_all w) ⟨_, _, [], [], rfl, rfl, ⟨hv.rep fun b hb => hb, rfl⟩, _, _, [], [], rfl, rfl, ⟨rfl, rfl⟩, rfl, rfl⟩ h).mono ?_
  intro e w' he
  cases e with
  | returned u =>
    obtain ⟨S', b1, b2, hr, ⟨vs, rfl, u1, r1, d1, d2, rfl, rfl, ⟨h1, rfl⟩, u2, r2, d3, d4, rfl, rfl, ⟨h2, rfl⟩, rfl, rfl⟩, -⟩ := he
    have h1 : [u1] = [Value.int .i64 r.1] := h1
    have h2 : [u2] = [Value.bool r.2] := h2
    rw [(List.cons.inj h1).1, (List.cons.inj h2).1]
    exact ⟨rfl, gro_of_ran hr⟩
  | panicked c => exact he.elim
  | outgrown => exact he.elim

theorem call126 {K : Nat} {w : World} {v u : Value} {l o : List Int} {r : List Int × Bool} (hv : RdC w.heap.size w v l) (hu : RdC w.heap.size w u o) (h : implf126 K l o = some r) :
    Calls Try.prog 126 #[v, u] w fun e w' => ∃ x, e = .returned (.tuple #[x, .bool r.2]) ∧ Gro w.heap.size w w' ∧ RdC w'.heap.size w' x r.1 := by
  refine ((e126_ok K).2 (All w) w [v, u] (l, o, ()) [] r (own_all w) ⟨_, _, [], [], rfl, rfl, ⟨hv.rep fun b hb => hb, rfl⟩, _, _, [], [], rfl, rfl, ⟨hu.rep fun b hb => hb, rfl⟩, rfl, rfl⟩ h).mono ?_
  intro e w' he
  cases e with
  | returned u =>
    obtain ⟨S', b1, b2, hr, ⟨vs, rfl, u1, r1, d1, d2, rfl, rfl, ⟨p, h1, hrow, -⟩, u2, r2, d3, d4, rfl, rfl, ⟨h2, rfl⟩, rfl, rfl⟩, -⟩ := he
    have h2 : [u2] = [Value.bool r.2] := h2
    rw [(List.cons.inj h1).1, (List.cons.inj h2).1]
    exact ⟨_, rfl, gro_of_ran hr, rd_of_row hrow⟩
  | panicked c => exact he.elim
  | outgrown => exact he.elim
theorem call83 {K : Nat} {w : World} {v : Value} {c r : List Int} (hv : RdC w.heap.size w v c) (h : implf83 K c = some r) :
    Calls Try.prog 83 #[v] w fun e w' => ∃ p, e = .returned (rowVal p) ∧ Gro w.heap.size w w' ∧ RowAt (fun _ => False) w' p (.int .i64) r ∧ (p.nl = false → w.heap.size ≤ p.b ∧ p.b < w'.heap.size) := by
  refine ((e83_ok K).2 (All w) w [v] (c, ()) [] r (own_all w) ⟨_, _, [], [], rfl, rfl, ⟨hv.rep fun b hb => hb, rfl⟩, rfl, rfl⟩ h).mono ?_
  intro e w' he
  cases e with
  | returned u =>
    obtain ⟨S', b1, b2, hr, ⟨p, hu, hrow, rfl⟩, -⟩ := he
    obtain rfl := (List.cons.inj hu).1
    refine ⟨p, rfl, gro_of_ran hr, row_any hrow, fun hn => ?_⟩
    have hm : p.b ∈ (cond p.nl [] [p.b] ++ b2 : List Nat) := by rw [hn]; simp
    have h1 := (hr.old p.b hm).1
    rcases hr.liv p.b hm with h2 | h2
    · cases h2
    · exact ⟨h2, h1⟩
  | panicked c => exact he.elim
  | outgrown => exact he.elim
theorem call86 {K base : Nat} {w : World} {p : At} {d : Nat} {c r : List Int} {i n : Int} (hp : RowAt (fun _ => False) w p (.int .i64) c) (hpb : p.nl = false → base ≤ p.b ∧ p.b < d) (hd : base ≤ d) (hdw : w.heap[d]? = some (.cells #[.int .i64 n] 3 (0, 0))) (h : implf86 K c i [n] = some r) :
    Calls Try.prog 86 #[rowVal p, .int .i64 i, .slice (some ⟨d, 0, none⟩) 1 1] w fun e w' => ∃ x, e = .returned x ∧ Gro base w w' ∧ RdC w'.heap.size w' x r := by
  have hdlt : d < w.heap.size := by
    rcases Nat.lt_or_ge d w.heap.size with g | g
    · exact g
    · simp [Array.getElem?_eq_none g] at hdw
  have hin : ∀ b ∈ (cond p.nl [] [p.b] ++ ([] ++ ([d] ++ [])) : List Nat), base ≤ b ∧ b < w.heap.size ∧ ((p.nl = false ∧ b = p.b) ∨ b = d) := by
    intro b hb
    rcases List.mem_append.1 hb with hb | hb
    · cases hn : p.nl with
      | true => rw [hn] at hb; cases hb
      | false =>
        rw [hn] at hb
        have : b = p.b := List.mem_singleton.1 hb
        have := hpb hn
        exact ⟨by omega, by omega, .inl ⟨rfl, by assumption⟩⟩
    · have : b = d := by simpa using hb
      exact ⟨by omega, by omega, .inr this⟩
  have hown : Own (fun b => b < base) w (cond p.nl [] [p.b] ++ ([] ++ ([d] ++ []))) := by
    refine ⟨fun b hb => ⟨(hin b hb).2.1, fun h => by have := (hin b hb).1; omega⟩, ?_, fun b hb => by omega, fun q hq => by simp [glob] at hq⟩
    cases hn : p.nl with
    | true => simp
    | false => have := hpb hn; simp; omega
  have hrow2 : RowAt (fun b => b < base) w ⟨d, 1, 0, 1, false⟩ (.int .i64) [n] := ⟨rfl, .inr ⟨rfl, [.int .i64 n], 3, hdw, Nat.le_refl _, (by decide : 1 ≤ maxLen), Nat.le_refl 1, ⟨[.int .i64 n], [], rfl, rfl, rfl⟩⟩⟩
  refine ((e86_ok K).2 (fun b => b < base) w [rowVal p, .int .i64 i, rowVal ⟨d, 1, 0, 1, false⟩] (c, i, [n], ()) _ r hown ⟨_, _, _, _, rfl, rfl, ⟨p, rfl, row_any hp, rfl⟩, _, _, [], _, rfl, rfl, ⟨rfl, rfl⟩, _, _, _, [], rfl, rfl, ⟨_, rfl, hrow2, rfl⟩, rfl, rfl⟩ h).mono ?_
  intro e w' he
  cases e with
  | returned u =>
    obtain ⟨S', b1, hr, ⟨q, hu, hrow, rfl⟩⟩ := he
    obtain rfl := (List.cons.inj hu).1
    refine ⟨_, rfl, ⟨hr.os, hr.tape, hr.output, hr.size, fun b hb => hr.same b (by omega) fun hm => by have := (hin b hm).1; omega⟩, rd_of_row hrow⟩
  | panicked c => exact he.elim
  | outgrown => exact he.elim
/-- Nothing is left: it is told. -/
theorem search_tells' (cv : Value) (A : Option Addr) (cap : Nat) (w : World) : Calls Try.prog 111 #[cv, .slice A 0 cap, .func (.func 108) #[] #[]] w fun e w' => e = .panicked foundC ∧ w' = w := by
  have e108 : ∀ args w, (callFunc 108 args).run Try.prog w = .ok (.enter 108 args) w := enter_of Try.func108 rfl (by kernel_rfl)
  go_enter Try.func111, Try.ntmps111
  go_wp2_with (go_at_fn 108; refine (tell_panics cv w).mono ?_; rintro e W ⟨rfl, rfl⟩)
  simp [bodyPost]

theorem wrapEq (x : Int) : IntKind.i64.wrap x = wrap64 x := by unfold wrap64; exact IntKind.wrap_i64 x
/-- How the search ends: nothing told, or the first thing told stops it. -/
def Ends (acc acc' : List (List Int)) (w : World) : Ending → World → Prop := fun e w' => ((acc' = acc → e = .returned (.tuple #[])) ∧ (acc' ≠ acc → e = .panicked foundC)) ∧ Gro w.heap.size w w'
set_option maxHeartbeats 4000000 in
theorem search_step (K : Nat) (rs : Rs) (hpre : Pre rs)
    (ih : ∀ (c rest : List Int) (acc acc' : List (List Int)) (w : World) (v0 v1 : Value), RdC w.heap.size w v0 c → RdC w.heap.size w v1 rest → c.length ≤ 2000 → rs c rest (acc, ()) = some (acc', ()) → Calls Try.prog 111 #[v0, v1, .func (.func 108) #[] #[]] w (Ends acc acc' w))
    (c rest : List Int) (acc acc' : List (List Int)) (w : World) (v0 v1 : Value) (h0 : RdC w.heap.size w v0 c) (h1 : RdC w.heap.size w v1 rest) (hcl : c.length ≤ 2000) (h : implg111 K rs c rest (acc, ()) = some (acc', ())) : Calls Try.prog 111 #[v0, v1, .func (.func 108) #[] #[]] w (Ends acc acc' w) := by
  rw [implg111] at h
  cases hr0 : ((rest.length : Int) == (0 : Int)) with
  | true =>
    rw [hr0, cond_true] at h
    obtain ⟨y1, hy1, h⟩ := ob_some h
    cases h
    have hne := told_more hy1
    obtain ⟨A, cap, rfl, -, -⟩ := h1
    have hl : rest.length = 0 := by have := eq_of_beq hr0; omega
    rw [hl]
    refine (search_tells' v0 A cap w).mono ?_
    rintro e w' ⟨rfl, rfl⟩
    exact ⟨⟨fun q => absurd q hne, fun _ => rfl⟩, Gro.refl _ _⟩
  | false =>
    rw [hr0, cond_false] at h
    split at h
    · rename_i hz
      split at h
      · rename_i hz2
        obtain ⟨⟨⟨a2, u2⟩, i2, u3⟩, hy2, h⟩ := ob_some h
        have ha2 : a2 = acc' := congrArg Prod.fst (Option.some.inj h)
        subst ha2
        clear h
        have e84 : ∀ args w, (callFunc 84 args).run Try.prog w = .ok (.enter 84 args) w := enter_of Try.func84 rfl (by kernel_rfl)
        have e83 : ∀ args w, (callFunc 83 args).run Try.prog w = .ok (.enter 83 args) w := enter_of Try.func83 rfl (by kernel_rfl)
        have e86 : ∀ args w, (callFunc 86 args).run Try.prog w = .ok (.enter 86 args) w := enter_of Try.func86 rfl (by kernel_rfl)
        have e126 : ∀ args w, (callFunc 126 args).run Try.prog w = .ok (.enter 126 args) w := enter_of Try.func126 rfl (by kernel_rfl)
        have e111 : ∀ args w, (callFunc 111 args).run Try.prog w = .ok (.enter 111 args) w := enter_of Try.func111 rfl (by kernel_rfl)
        obtain ⟨A0, cap0, rfl, hc0, hA0⟩ := h0
        obtain ⟨A1, cap1, rfl, hc1, hA1⟩ := h1
        obtain ⟨z1, hz1⟩ : ∃ z : Nat, IntKind.i64.wrap ((rest.length : Int) - 1) = (z : Int) := ⟨(IntKind.i64.wrap ((rest.length : Int) - 1)).toNat, by omega⟩
        obtain ⟨z0, hz0⟩ : ∃ z : Nat, IntKind.i64.wrap ((c.length : Int) - 1) = (z : Int) := ⟨(IntKind.i64.wrap ((c.length : Int) - 1)).toNat, by omega⟩
        rw [hz1] at hz
        rw [hz0] at hz2
        obtain ⟨b0, o0, rfl, hb0, hl0⟩ := hA0 (by omega)
        obtain ⟨b1, o1, rfl, hb1, hl1⟩ := hA1 (by omega)
        have la := hl1 z1 (by omega)
        have lb := hl0 z0 (by omega)
        rw [hz1, hz0, Int.toNat_natCast, Int.toNat_natCast] at hy2
        obtain ⟨far, hfar⟩ : ∃ x, x = rest.getD z1 0 := ⟨_, rfl⟩
        obtain ⟨ed, hed⟩ : ∃ x, x = c.getD z0 0 := ⟨_, rfl⟩
        rw [← hfar, ← hed] at hy2
        rw [← hfar] at la
        rw [← hed] at lb
        have dr : decide ((rest.length : Int) = 0) = false := decide_eq_false (fun q => by rw [q] at hr0; cases hr0)
        have bz1 : (z1 : Int) < (rest.length : Int) := hz.2
        have bz0 : (z0 : Int) < (c.length : Int) := hz2.2
        rw [wrapEq] at hy2
        have HY : Aside (∃ kk x, impll111_0 K rs kk c rest (acc, ()) [far, wrap64 (ed - far)] 2 0 = some ((a2, ()), x, ())) := ⟨K, i2, hy2⟩
        have V0 : Aside (RdC w.heap.size w (.slice (some ⟨b0, o0, none⟩) c.length cap0) c) := ⟨_, _, rfl, hc0, fun _ => ⟨b0, o0, rfl, hb0, hl0⟩⟩
        have V1 : Aside (RdC w.heap.size w (.slice (some ⟨b1, o1, none⟩) rest.length cap1) rest) := ⟨_, _, rfl, hc1, fun _ => ⟨b1, o1, rfl, hb1, hl1⟩⟩
        clear hy2 hr0 hfar hed hl0 hl1
        go_enter Try.func111, Try.ntmps111
        go_wp2
        generalize wrap64 (ed - far) = n1 at HY ⊢
        have hlw : (w.alloc (.cells #[.int .i64 far, .int .i64 n1] 3)).heap[w.heap.size]? = some (.cells #[.int .i64 far, .int .i64 n1] 3 (0, 0)) := heap_alloc_new w _
        have hsw : (w.alloc (.cells #[.int .i64 far, .int .i64 n1] 3)).heap.size = w.heap.size + 1 := World.size_alloc _ _
        have G0 := (Gro.refl w.heap.size w).alloc (Nat.le_refl _) (.cells #[.int .i64 far, .int .i64 n1] 3)
        generalize w.alloc (.cells #[.int .i64 far, .int .i64 n1] 3) = wl at hlw hsw G0 ⊢
        have W0 : Aside (wl.heap[w.heap.size]? = some (.cells #[.int .i64 far, .int .i64 n1] 3 (0, 0)) ∧ wl.heap.size = w.heap.size + 1 ∧ Gro w.heap.size w wl) := ⟨hlw, hsw, G0⟩
        clear hlw hsw G0 la lb
        go_loopg [39] 2 (fun g v39 wr => ∃ i : Nat, v39 = .int .i64 i ∧ i ≤ 2 ∧ 2 - i ≤ g ∧ Aside (Gro wl.heap.size wl wr) ∧ Aside (∃ kk x, impll111_0 K rs kk c rest (acc, ()) [far, n1] 2 (i : Int) = some ((a2, ()), x, ())))
        case atStart => exact ⟨0, rfl, Nat.zero_le _, Nat.le_refl _, Gro.refl _ _, HY⟩
        case round =>
          rename World => w1
          obtain ⟨i, rfl, hi, hg, D, HX⟩ := hrel
          obtain ⟨e1, e2, e3⟩ := W0.out
          obtain ⟨kk, x, hx⟩ := HX.out
          cases kk with
          | zero => rw [impll111_0] at hx; cases hx
          | succ kk =>
          rw [impll111_0, implb111_0] at hx
          by_cases hlt : i < 2
          · have hlti : (i : Int) < 2 := by omega
            rw [decide_eq_true hlti, cond_true, if_pos ⟨by omega, by show (i : Int) < 2; omega⟩, Int.toNat_natCast] at hx
            obtain ⟨n, hn⟩ : ∃ n, n = [far, n1].getD i 0 := ⟨_, rfl⟩
            rw [← hn] at hx
            have hcell : w1.cell? ⟨w.heap.size, i, none⟩ = some (.int .i64 n) := by
              rw [World.cell?_of_block (D.out.same w.heap.size (by omega))]
              unfold World.cell?
              simp only []
              rw [e1, hn]
              obtain rfl | rfl : i = 0 ∨ i = 1 := by omega
              · rfl
              · rfl
            have D1 : Gro w.heap.size w w1 := e3.trans D.out (by omega)
            have r0 := (V0.out.gro D1).up D1.size
            have r1 := (V1.out.gro D1).up D1.size
            obtain ⟨⟨y, th⟩, hy1, hx⟩ := ob_some hx
            dsimp only at hx
            have c84 := call84 (K := K) r0 hy1
            have HR : Aside (RdC w1.heap.size w1 (.slice (some ⟨b0, o0, none⟩) c.length cap0) c ∧ RdC w1.heap.size w1 (.slice (some ⟨b1, o1, none⟩) rest.length cap1) rest) := ⟨r0, r1⟩
            clear r0 r1 hy1 hn e1 e2 e3 D1 HX
            cases th with
            | true =>
              rw [cond_true] at hx
              have HX : Aside (∃ kk x, impll111_0 K rs kk c rest (acc, ()) [far, n1] 2 ((i + 1 : Nat) : Int) = some ((a2, ()), x, ())) := ⟨kk, x, by rw [← wrapS (by omega)]; exact hx⟩
              clear hx
              go_wp2_with (go_at_call 84; refine c84.mono ?_; rintro ev w2 ⟨rfl, hgw⟩)
              go_roundg (2 - (i + 1))
              case measure => omega
              case rel => exact ⟨i + 1, by go_num, by omega, Nat.le_refl _, D.out.trans hgw D.out.size, HX⟩
            | false =>
              rw [cond_false] at hx
              by_cases hy0 : y = 0
              · subst hy0
                rw [show ((0 : Int) == 0) = true from rfl, cond_true] at hx
                have HX : Aside (∃ kk x, impll111_0 K rs kk c rest (acc, ()) [far, n1] 2 ((i + 1 : Nat) : Int) = some ((a2, ()), x, ())) := ⟨kk, x, by rw [← wrapS (by omega)]; exact hx⟩
                clear hx
                go_wp2_with (go_at_call 84; refine c84.mono ?_; rintro ev w2 ⟨rfl, hgw⟩)
                go_roundg (2 - (i + 1))
                case measure => omega
                case rel => exact ⟨i + 1, by go_num, by omega, Nat.le_refl _, D.out.trans hgw D.out.size, HX⟩
              · rw [ibeq, decide_eq_false hy0, cond_false] at hx
                have dy0 : (y == (0 : Int)) = false := by rw [ibeq]; exact decide_eq_false hy0
                by_cases hyl : y = (c.length : Int)
                · rw [ibeq, decide_eq_true hyl, cond_true] at hx
                  have dyl : (y == (c.length : Int)) = true := by rw [ibeq]; exact decide_eq_true hyl
                  have HY2 : Aside (y = (c.length : Int)) := hyl
                  clear hyl
                  have HX : Aside (∃ kk x, impll111_0 K rs kk c rest (acc, ()) [far, n1] 2 ((i + 1 : Nat) : Int) = some ((a2, ()), x, ())) := ⟨kk, x, by rw [← wrapS (by omega)]; exact hx⟩
                  clear hx
                  go_wp2_with (go_at_call 84; refine c84.mono ?_; rintro ev w2 ⟨rfl, hgw⟩)
                  go_roundg (2 - (i + 1))
                  case measure => omega
                  case rel => exact ⟨i + 1, by go_num, by omega, Nat.le_refl _, D.out.trans hgw D.out.size, HX⟩
                · rw [ibeq, decide_eq_false hyl, cond_false] at hx
                  have dyl : (y == (c.length : Int)) = false := by rw [ibeq]; exact decide_eq_false hyl
                  obtain ⟨z2, hz2', hx⟩ := ob_some hx
                  have he2 := in_acc K rs c rest K _ _ _ _ _ _ _ _ _ _ _ hz2'
                  have HZ : Aside (∃ k2, impll111_2 K rs k2 c rest (acc, ()) n y [] [far, n1] 2 (i : Int) c (c.length : Int) 0 = some z2) := ⟨K, hz2'⟩
                  have HX : Aside _ := hx
                  have HE : Aside _ := he2
                  clear hx hz2' he2
                  go_wp2_with (go_at_call 84; refine c84.mono ?_; rintro ev w2 ⟨rfl, hgw⟩)
                  have D2 := D.out.trans hgw D.out.size
                  have R0 := HR.out.1.gro hgw
                  have R1 := HR.out.2.gro hgw
                  have HR2 : Aside (RdC w1.heap.size w2 (.slice (some ⟨b0, o0, none⟩) c.length cap0) c ∧ RdC w1.heap.size w2 (.slice (some ⟨b1, o1, none⟩) rest.length cap1) rest ∧ w1.heap.size ≤ w2.heap.size) := ⟨R0, R1, hgw.size⟩
                  have DD : Aside (Gro wl.heap.size wl w2) := D2
                  clear D2 R0 R1 hgw HR c84
                  go_loopg [11, 62] (c.length) (fun g v11 v62 wr => ∃ (j : Nat) (own : List Int), v62 = .int .i64 j ∧ j ≤ c.length ∧ c.length - j ≤ g ∧ Hid (own.length = j) ∧ Aside (Go.Pv.RowIn wr w2.heap.size 3 v11 own) ∧ Aside (Gro w2.heap.size w2 wr) ∧ Aside (∃ k2, impll111_2 K rs k2 c rest (acc, ()) n y own [far, n1] 2 (i : Int) c (c.length : Int) (j : Int) = some z2))
                  case atStart => exact ⟨0, [], rfl, Nat.zero_le _, Nat.le_refl _, rfl, World.ownsRow_nil _ _ _ _, Gro.refl _ _, HZ⟩
                  case round =>
                    rename World => w3
                    obtain ⟨j, own, rfl, hj, hg2, hol, O, D3, HQ⟩ := hrel
                    obtain ⟨k2, hq⟩ := HQ.out
                    cases k2 with
                    | zero => rw [impll111_2] at hq; cases hq
                    | succ k2 =>
                    rw [impll111_2, implb111_2] at hq
                    by_cases hltj : j < c.length
                    · have hltz : (j : Int) < (c.length : Int) := by omega
                      rw [decide_eq_true hltz, cond_true, if_pos ⟨by omega, hltz⟩, Int.toNat_natCast] at hq
                      obtain ⟨A', cap', q1, q2, q3⟩ := HR2.out.1
                      cases q1
                      obtain ⟨b', o', q4, q5, q6⟩ := q3 (by omega)
                      cases q4
                      have lc := q6 j hltj
                      rw [← World.cell?_of_block (w' := w3) (D3.out.same b0 (by have := HR2.out.2.2; omega))] at lc
                      obtain ⟨k, hk⟩ : ∃ k, k = c.getD j 0 := ⟨_, rfl⟩
                      rw [← hk] at lc hq
                      clear q6 q3 hk
                      split at hq
                      rotate_left
                      · cases hq
                      have hol := hol.out
                      have hcn := cell_alloc_new w3 (.int .i64 (max (wrap64 (n - k)) (wrap64 (k - n)))) 3
                      obtain ⟨v', w4, hap, hru, hgA, hdr, hnew, hsome⟩ := app_int (RowIn.alloc O.out (.cells #[.int .i64 (max (wrap64 (n - k)) (wrap64 (k - n)))] 3)) (ad := ⟨w3.heap.size, 0, none⟩) (m := 1) (cp := 1) (news := [max (wrap64 (n - k)) (wrap64 (k - n))]) Nat.one_pos rfl (fun q hq => by (obtain rfl : q = 0 := by omega); rw [Addr.add_lit]; exact hcn) (by omega) (Nat.le_trans D3.out.size (size_alloc_le w3 _))
                      have G4 : Gro w2.heap.size w2 w4 := (D3.out.alloc (Nat.le_refl _) _).grown hgA hdr (Nat.le_refl _) (fun d hd => (World.ownsRow.lt O.out d hd).1)
                      have R : Aside (Go.Pv.RowIn w4 w2.heap.size 3 v' (own ++ [max (wrap64 (n - k)) (wrap64 (k - n))]) ∧ Gro w2.heap.size w2 w4 ∧ ∃ k2, impll111_2 K rs k2 c rest (acc, ()) n y (own ++ [max (wrap64 (n - k)) (wrap64 (k - n))]) [far, n1] 2 (i : Int) c (c.length : Int) ((j + 1 : Nat) : Int) = some z2) := by
                        refine ⟨hru, G4, k2, ?_⟩
                        rw [← wrapS (by omega), ← wrapEq, ← wrapEq]
                        exact hq
                      have HAP : Aside _ := hap
                      clear hq hcn hru hgA hdr hnew hsome G4 hap
                      go_wp2_with (at_builtin; refine wpList_app_run rfl (.tmp 66) (.tmp 74) 22 rfl rfl rfl HAP.out ?_)
                      go_roundg (c.length - (j + 1))
                      case measure => omega
                      case rel => exact ⟨j + 1, _, by go_num, by omega, Nat.le_refl _, by rw [List.length_append, hol]; rfl, R.out.1, R.out.2.1, R.out.2.2⟩
                    · rw [decide_eq_false (by omega), cond_false] at hq
                      have hzz : z2 = ((acc, ()), own, (j : Int), ()) := (Option.some.inj hq).symm
                      have hge : ¬ (j : Int) < (c.length : Int) := by omega
                      have hx := HX.out
                      rw [hzz] at hx
                      clear hzz hq HX HE
                      obtain ⟨⟨less, ok⟩, hl3, hx⟩ := ob_some hx
                      dsimp only at hx hl3
                      have hsz := HR2.out.2.2
                      have gD : Gro w1.heap.size w2 w3 := ⟨D3.out.os, D3.out.tape, D3.out.out, D3.out.size, fun b hb => D3.out.same b (by omega)⟩
                      have r0 := (HR2.out.1.gro gD).up (base2 := w3.heap.size) (Nat.le_trans hsz D3.out.size)
                      have r1 := (HR2.out.2.1.gro gD).up (base2 := w3.heap.size) (Nat.le_trans hsz D3.out.size)
                      have c126 := call126 (K := K) r1 (rd_of_in O.out) hl3
                      have DD3 : Aside (Gro wl.heap.size wl w3) := DD.out.trans D3.out DD.out.size
                      have HR3 : Aside (RdC w3.heap.size w3 (.slice (some ⟨b0, o0, none⟩) c.length cap0) c) := r0
                      clear r0 r1 gD hl3 hsz
                      cases ok with
                      | false =>
                        rw [cond_false] at hx
                        have HX : Aside (∃ kk x, impll111_0 K rs kk c rest (acc, ()) [far, n1] 2 ((i + 1 : Nat) : Int) = some ((a2, ()), x, ())) := ⟨kk, x, by rw [← wrapS (by omega)]; exact hx⟩
                        clear hx
                        go_wp2_with (go_at_call 126; refine c126.mono ?_; rintro ev w4 ⟨xv, rfl, hg4, hr4⟩)
                        go_roundg (2 - (i + 1))
                        case measure => omega
                        case rel => exact ⟨i + 1, by go_num, by omega, Nat.le_refl _, DD3.out.trans hg4 DD3.out.size, HX⟩
                      | true =>
                        rw [cond_true] at hx
                        obtain ⟨y4, hy4, hx⟩ := ob_some hx
                        obtain ⟨y5, hy5, hx⟩ := ob_some hx
                        obtain ⟨⟨y6, u6⟩, hy6, hx⟩ := ob_some hx
                        dsimp only at hx
                        have hy5l : y5.length ≤ 2000 := by
                          unfold implf86 at hy5
                          split at hy5
                          · rename_i hh
                            cases hy5
                            rw [List.length_append, List.length_append, List.length_take, List.length_drop]
                            have h1 := hh.2.2.1
                            have h2 := hh.2.2.2
                            omega
                          · cases hy5
                        have HH : Aside ((implf83 K c = some y4) ∧ (implf86 K y4 y [n] = some y5) ∧ (rs y5 less (acc, ()) = some (y6, ())) ∧ (impll111_0 K rs kk c rest (y6, ()) [far, n1] 2 (IntKind.i64.wrap ((i : Int) + 1)) = some ((a2, ()), x, ()))) := ⟨hy4, hy5, hy6, hx⟩
                        clear hy4 hy5 hy6 hx
                        have c83 : ∀ w4 : World, Gro w3.heap.size w3 w4 → Calls Try.prog 83 #[.slice (some ⟨b0, o0, none⟩) c.length cap0] w4 fun e w' => ∃ p, e = .returned (rowVal p) ∧ Gro w4.heap.size w4 w' ∧ RowAt (fun _ => False) w' p (.int .i64) y4 ∧ (p.nl = false → w4.heap.size ≤ p.b ∧ p.b < w'.heap.size) :=
                          fun w4 hg => call83 ((HR3.out.gro hg).up hg.size) HH.out.1
                        by_cases hacc : y6 = acc
                        · have HA : Aside (y6 = acc) := hacc
                          have HX : Aside (∃ kk x, impll111_0 K rs kk c rest (acc, ()) [far, n1] 2 ((i + 1 : Nat) : Int) = some ((a2, ()), x, ())) := ⟨kk, x, by rw [← wrapS (by omega), ← hacc]; exact HH.out.2.2.2⟩
                          clear hacc
                          go_wp2_with (first
                            | (go_at_call 126; refine c126.mono ?_; rintro ev w4 ⟨xv, rfl, hg4, hr4⟩)
                            | (go_at_call 83; refine (c83 w4 hg4).mono ?_; rintro ev w5 ⟨p, rfl, hg5, hp5, hpb⟩
                               have c86 := call86 (K := K) (base := w4.heap.size) (w := w5.alloc (.cells #[.int .i64 n] 3)) (d := w5.heap.size) (i := y) (n := n) (r := y5) (c := y4) (p := p) (hp5.move (fun _ h => h) (fun _ h => h.elim) (fun hn => heap_alloc_old w5 _ (hpb hn).2)) hpb hg5.size (heap_alloc_new w5 _) HH.out.2.1)
                            | (go_at_call 86; refine c86.mono ?_; rintro ev w7 ⟨x5, rfl, hg7, hr7⟩
                               have hg47 := (hg5.alloc (Nat.le_refl _) (.cells #[.int .i64 n] 3)).trans hg7 (Nat.le_refl _))
                            | (go_at_call 111; refine (ih y5 less acc y6 w7 x5 xv hr7 ((hr4.gro hg47).up hg47.size) hy5l HH.out.2.2.1).mono ?_; rintro ev w8 ⟨⟨hend1, hend2⟩, hg8⟩; obtain rfl := hend1 HA.out))
                          have G8 := ((DD3.out.trans hg4 DD3.out.size).trans hg47 (Nat.le_trans DD3.out.size hg4.size)).trans hg8 (Nat.le_trans DD3.out.size (Nat.le_trans hg4.size hg47.size))
                          go_roundg (2 - (i + 1))
                          case measure => omega
                          case rel => exact ⟨i + 1, by go_num, by omega, Nat.le_refl _, G8, HX⟩
                        · have HA : Aside (¬ y6 = acc) := hacc
                          clear hacc
                          go_wp2_with (first
                            | (go_at_call 126; refine c126.mono ?_; rintro ev w4 ⟨xv, rfl, hg4, hr4⟩)
                            | (go_at_call 83; refine (c83 w4 hg4).mono ?_; rintro ev w5 ⟨p, rfl, hg5, hp5, hpb⟩
                               have c86 := call86 (K := K) (base := w4.heap.size) (w := w5.alloc (.cells #[.int .i64 n] 3)) (d := w5.heap.size) (i := y) (n := n) (r := y5) (c := y4) (p := p) (hp5.move (fun _ h => h) (fun _ h => h.elim) (fun hn => heap_alloc_old w5 _ (hpb hn).2)) hpb hg5.size (heap_alloc_new w5 _) HH.out.2.1)
                            | (go_at_call 86; refine c86.mono ?_; rintro ev w7 ⟨x5, rfl, hg7, hr7⟩
                               have hg47 := (hg5.alloc (Nat.le_refl _) (.cells #[.int .i64 n] 3)).trans hg7 (Nat.le_refl _))
                            | (go_at_call 111; refine (ih y5 less acc y6 w7 x5 xv hr7 ((hr4.gro hg47).up hg47.size) hy5l HH.out.2.2.1).mono ?_; rintro ev w8 ⟨⟨hend1, hend2⟩, hg8⟩; obtain rfl := hend2 HA.out))
                          have G8 := ((DD3.out.trans hg4 DD3.out.size).trans hg47 (Nat.le_trans DD3.out.size hg4.size)).trans hg8 (Nat.le_trans DD3.out.size (Nat.le_trans hg4.size hg47.size))
                          have hne : a2 ≠ acc := by
                            obtain ⟨o1, q1⟩ := out_acc K hpre c rest _ _ _ _ _ _ HH.out.2.2.2
                            obtain ⟨o2, q2⟩ := hpre _ _ _ _ HH.out.2.2.1
                            have q1 : a2 = y6 ++ o1 := q1
                            have q2 : y6 = acc ++ o2 := q2
                            intro q
                            rw [q1, q2, List.append_assoc] at q
                            have q3 : o2 ++ o1 = [] := by
                              have := congrArg (List.drop acc.length) q
                              rwa [List.drop_left, List.drop_length] at this
                            have q4 := (List.append_eq_nil_iff.1 q3).1
                            exact HA.out (by rw [q2, q4, List.append_nil])
                          simp [bodyPost]
                          exact ⟨⟨fun q => absurd q hne, fun _ => rfl⟩, W0.out.2.2.trans G8 (by have := W0.out.2.1; omega)⟩
          · rw [decide_eq_false (by omega), cond_false] at hx
            have hx : a2 = acc := by
              have := congrArg (fun z => z.1.1) (Option.some.inj hx)
              exact this.symm
            have hge : ¬ (i : Int) < 2 := by omega
            have HA : Aside (a2 = acc) := hx
            clear hx
            go_wp2
            go_end0
            exact ⟨⟨fun _ => rfl, fun q => absurd HA.out q⟩, W0.out.2.2.trans D.out (by have := W0.out.2.1; omega)⟩
      · cases h
    · cases h

theorem search_ends (K : Nat) : ∀ (k : Nat) (c rest : List Int) (acc acc' : List (List Int)) (w : World) (v0 v1 : Value), RdC w.heap.size w v0 c → RdC w.heap.size w v1 rest → c.length ≤ 2000 → implr111 K k c rest (acc, ()) = some (acc', ()) →
    Calls Try.prog 111 #[v0, v1, .func (.func 108) #[] #[]] w (Ends acc acc' w)
  | 0, c, rest, acc, acc', w, v0, v1, _, _, _, h => by rw [implr111] at h; cases h
  | k + 1, c, rest, acc, acc', w, v0, v1, h0, h1, hl, h => by
    rw [implr111] at h
    exact search_step K _ (search_pre K k) (fun c rest acc acc' w v0 v1 h0 h1 hl h => search_ends K k c rest acc acc' w v0 v1 h0 h1 hl h) c rest acc acc' w v0 v1 h0 h1 hl h
/-- A new list of two numbers. -/
theorem lit2 (w : World) (x : Int) : RdC (w.alloc (.cells #[.int .i64 0, .int .i64 x] 3)).heap.size (w.alloc (.cells #[.int .i64 0, .int .i64 x] 3)) (.slice (some ⟨w.heap.size, 0, none⟩) 2 2) [0, x] := by
  refine ⟨_, 2, rfl, Nat.le_refl _, fun _ => ⟨w.heap.size, 0, rfl, size_alloc_lt w _, fun j hj => ?_⟩⟩
  have := heap_alloc_new w (.cells #[.int .i64 0, .int .i64 x] 3)
  unfold World.cell?
  simp only []
  rw [this]
  have hj : j < 2 := hj
  obtain rfl | rfl : j = 0 ∨ j = 1 := by omega
  · rfl
  · rfl
noncomputable def ops95 : Array Oper := match opsOf 3 (codeOf Try.f95) with | some o => o | none => #[]
noncomputable def pos95 (i : Nat) : String := match ops95.toList[i]? with | some o => o.pos | none => ""
noncomputable def aft95 (i : Nat) : Array Edge := match ops95.toList[i]? with | some o => o.after | none => #[]
theorem o95_0 : ops95[0]? = some ⟨some 14, .move (.tmp 0), 22, pos95 0, aft95 0, none⟩ := by kernel_rfl
theorem o95_1 : ops95[1]? = some ⟨some 15, .move (.tmp 4), 3, pos95 1, aft95 1, none⟩ := by kernel_rfl
theorem o95_2 : ops95[2]? = some ⟨some 16, .indexAddr 22 (.tmp 14) (.tmp 15), 0, pos95 2, aft95 2, none⟩ := by kernel_rfl
theorem o95_3 : ops95[3]? = some ⟨some 17, .load 3 (.tmp 16), 3, pos95 3, aft95 3, none⟩ := by kernel_rfl
theorem o95_4 : ops95[4]? = some ⟨some 18, .buildSlice 22 2 #[(0, .const (.int .i64 0)), (1, .tmp 17)], 22, pos95 4, aft95 4, none⟩ := by kernel_rfl
theorem o95_5 : ops95[5]? = some ⟨some 19, .move (.tmp 0), 22, pos95 5, aft95 5, none⟩ := by kernel_rfl
theorem o95_6 : ops95[6]? = some ⟨some 20, .move (.tmp 4), 3, pos95 6, aft95 6, none⟩ := by kernel_rfl
theorem o95_7 : ops95[7]? = some ⟨some 21, .slice 22 (.tmp 19) none (some (.tmp 20)) none, 22, pos95 7, aft95 7, none⟩ := by kernel_rfl
theorem o95_8 : ops95[8]? = some ⟨some 22, .move (.tmp 1), 54, pos95 8, aft95 8, none⟩ := by kernel_rfl
theorem o95_9 : ops95[9]? = some ⟨some 23, .call ⟨.value (.func 111), #[.tmp 18, .tmp 21, .tmp 22], #[22, 22, 54]⟩, 0, pos95 9, aft95 9, none⟩ := by kernel_rfl
theorem s95 : ops95.size = 10 := by kernel_rfl
theorem low95 : lowB ops95 = true := by kernel_rfl
theorem x_build2 (a : Act) (d : Option Tmp) (t ty : Nat) (p : String) (f : Array Edge) (w : World) {x : Int} (h : a.tmps.getD t undef = .int .i64 x) :
    (execOp a.eval ⟨d, .buildSlice 22 2 #[(0, .const (.int .i64 0)), (1, .tmp t)], ty, p, f, none⟩).run Try.prog w = .ok (.value (.slice (some ⟨w.heap.size, 0, none⟩) 2 2)) (w.alloc (.cells #[.int .i64 0, .int .i64 x] 3)) := by
  have e1 : a.eval (.tmp t) = .int .i64 x := h
  have e2 : a.eval (.const (.int .i64 0)) = .int .i64 0 := rfl
  simp only [execOp, List.map_toArray, List.map_cons, List.map_nil, e1, e2]
  simp [go_sem]
theorem x_slice (a : Act) (d : Option Tmp) (s t ty : Nat) (p : String) (f : Array Edge) (w : World) {b o n c z : Nat} (h1 : a.tmps.getD s undef = .slice (some ⟨b, o, none⟩) n c) (h2 : a.tmps.getD t undef = .int .i64 (z : Int)) (hz : z ≤ c) (hc : 0 < c) :
    (execOp a.eval ⟨d, .slice 22 (.tmp s) none (some (.tmp t)) none, ty, p, f, none⟩).run Try.prog w = .ok (.value (.slice (some ⟨b, o, none⟩) z c)) w := by
  have e1 : a.eval (.tmp s) = .slice (some ⟨b, o, none⟩) n c := h1
  have e2 : a.eval (.tmp t) = .int .i64 (z : Int) := h2
  have hz' : (z : Int) ≤ (c : Int) := by omega
  simp only [execOp, Option.map_none, Option.map_some, e1, e2]
  simp [go_sem, hz', hz, hc]
structure C95 where
  tm : Array Value
  df : List Deferred
  w0 : World
  b : Nat
  o : Nat
  n : Nat
  c : Nat
  z : Nat
  x : Int
  l : List Int
  told : List (List Int)
structure H95 (c : C95) : Prop where
  t0 : c.tm.getD 0 undef = .slice (some ⟨c.b, c.o, none⟩) c.n c.c
  t1 : c.tm.getD 1 undef = .func (.func 108) #[] #[]
  t4 : c.tm.getD 4 undef = .int .i64 (c.z : Int)
  hz : c.z < c.n
  hc : c.n ≤ c.c
  hb : c.b < c.w0.heap.size
  cz : c.w0.cell? ⟨c.b, c.o + c.z, none⟩ = some (.int .i64 c.x)
  rd : RdC c.w0.heap.size c.w0 (.slice (some ⟨c.b, c.o, none⟩) c.z c.c) c.l
  call : ∀ (w : World) (v0 v1 : Value), RdC w.heap.size w v0 [0, c.x] → RdC w.heap.size w v1 c.l → Calls Try.prog 111 #[v0, v1, .func (.func 108) #[] #[]] w (Ends [] c.told w)
structure I95 (c : C95) (L : Nat → Bool) (a : Act) (w : World) : Prop where
  down : ∀ k q, L k = true → needs ops95 k q = true → L q = true
  df : a.defers = c.df
  size : a.tmps.size = 24
  keep : ∀ t, t < 14 → a.tmps.getD t undef = c.tm.getD t undef
  gro : Gro c.w0.heap.size c.w0 w
  f0 : L 0 = true → a.tmps.getD 14 undef = .slice (some ⟨c.b, c.o, none⟩) c.n c.c
  f1 : L 1 = true → a.tmps.getD 15 undef = .int .i64 (c.z : Int)
  f2 : L 2 = true → a.tmps.getD 16 undef = .pointer (some ⟨c.b, c.o + c.z, none⟩)
  f3 : L 3 = true → a.tmps.getD 17 undef = .int .i64 c.x
  f5 : L 5 = true → a.tmps.getD 19 undef = .slice (some ⟨c.b, c.o, none⟩) c.n c.c
  f6 : L 6 = true → a.tmps.getD 20 undef = .int .i64 (c.z : Int)
  f7 : L 7 = true → a.tmps.getD 21 undef = .slice (some ⟨c.b, c.o, none⟩) c.z c.c
  f8 : L 8 = true → a.tmps.getD 22 undef = .func (.func 108) #[] #[]
  f4 : L 4 = true → RdC w.heap.size w (a.tmps.getD 18 undef) [0, c.x]
  f9 : L 9 = true → c.told = []
section
variable {c : C95} {L : Nat → Bool} {a : Act} {w : World} {Q : Exit → Act → World → Prop}
theorem I95.ext {L' : Nat → Bool} (h : I95 c L a w) (e : ∀ k, L k = L' k) : I95 c L' a w := by
  have : L = L' := funext e
  rw [← this]; exact h
theorem I95.no (h : I95 c L a w) {k q : Nat} (hq : L q = false) (hn : needs ops95 k q = true) : L k = false := by
  cases hk : L k with
  | false => rfl
  | true => rw [h.down k q hk hn] at hq; cases hq
theorem st95_0 (H : H95 c) (hI : I95 c L a w) (hL : L 0 = false) (hn : ∀ k, needs ops95 0 k = true → L k = true) : wpOp Try.prog ops95 Q 0 (I95 c fun k => L k || Nat.beq k 0) a w := by
  have hrun := x_move a (some 14) 0 22 (pos95 0) (aft95 0) w
  rw [(hI.keep 0 (by decide)).trans H.t0] at hrun
  obtain ⟨u, hu⟩ : ∃ u : Value, u = .slice (some ⟨c.b, c.o, none⟩) c.n c.c := ⟨_, rfl⟩
  rw [← hu] at hrun
  have e : ∀ k, Nat.beq k 0 = false → (L k || Nat.beq k 0) = L k := fun k h => by rw [h, Bool.or_false]
  have hd : 14 < a.tmps.size := by rw [hI.size]; decide
  refine wpOp_val o95_0 rfl hrun ?_
  have ps := put_at (v := u) hd
  have pg := fun t (h : 14 ≠ t) => put_ne (v := u) hd h
  constructor
  case down => exact down_put hI.down hn
  case df => exact hI.df
  case size => exact (put_size a 14 u).trans hI.size
  case keep => intro t h1; rw [pg t (by omega)]; exact hI.keep t h1
  case gro => exact hI.gro
  case f0 => intro _; exact ps.trans hu
  case f1 => intro h; rw [e 1 rfl] at h; rw [pg 15 (by decide)]; exact hI.f1 h
  case f2 => intro h; rw [e 2 rfl] at h; rw [pg 16 (by decide)]; exact hI.f2 h
  case f3 => intro h; rw [e 3 rfl] at h; rw [pg 17 (by decide)]; exact hI.f3 h
  case f5 => intro h; rw [e 5 rfl] at h; rw [pg 19 (by decide)]; exact hI.f5 h
  case f6 => intro h; rw [e 6 rfl] at h; rw [pg 20 (by decide)]; exact hI.f6 h
  case f7 => intro h; rw [e 7 rfl] at h; rw [pg 21 (by decide)]; exact hI.f7 h
  case f8 => intro h; rw [e 8 rfl] at h; rw [pg 22 (by decide)]; exact hI.f8 h
  case f4 => intro h; rw [e 4 rfl] at h; rw [pg 18 (by decide)]; exact hI.f4 h
  case f9 => intro h; rw [e 9 rfl] at h; exact hI.f9 h
theorem st95_1 (H : H95 c) (hI : I95 c L a w) (hL : L 1 = false) (hn : ∀ k, needs ops95 1 k = true → L k = true) : wpOp Try.prog ops95 Q 1 (I95 c fun k => L k || Nat.beq k 1) a w := by
  have hrun := x_move a (some 15) 4 3 (pos95 1) (aft95 1) w
  rw [(hI.keep 4 (by decide)).trans H.t4] at hrun
  obtain ⟨u, hu⟩ : ∃ u : Value, u = .int .i64 (c.z : Int) := ⟨_, rfl⟩
  rw [← hu] at hrun
  have e : ∀ k, Nat.beq k 1 = false → (L k || Nat.beq k 1) = L k := fun k h => by rw [h, Bool.or_false]
  have hd : 15 < a.tmps.size := by rw [hI.size]; decide
  refine wpOp_val o95_1 rfl hrun ?_
  have ps := put_at (v := u) hd
  have pg := fun t (h : 15 ≠ t) => put_ne (v := u) hd h
  constructor
  case down => exact down_put hI.down hn
  case df => exact hI.df
  case size => exact (put_size a 15 u).trans hI.size
  case keep => intro t h1; rw [pg t (by omega)]; exact hI.keep t h1
  case gro => exact hI.gro
  case f0 => intro h; rw [e 0 rfl] at h; rw [pg 14 (by decide)]; exact hI.f0 h
  case f1 => intro _; exact ps.trans hu
  case f2 => intro h; rw [e 2 rfl] at h; rw [pg 16 (by decide)]; exact hI.f2 h
  case f3 => intro h; rw [e 3 rfl] at h; rw [pg 17 (by decide)]; exact hI.f3 h
  case f5 => intro h; rw [e 5 rfl] at h; rw [pg 19 (by decide)]; exact hI.f5 h
  case f6 => intro h; rw [e 6 rfl] at h; rw [pg 20 (by decide)]; exact hI.f6 h
  case f7 => intro h; rw [e 7 rfl] at h; rw [pg 21 (by decide)]; exact hI.f7 h
  case f8 => intro h; rw [e 8 rfl] at h; rw [pg 22 (by decide)]; exact hI.f8 h
  case f4 => intro h; rw [e 4 rfl] at h; rw [pg 18 (by decide)]; exact hI.f4 h
  case f9 => intro h; rw [e 9 rfl] at h; exact hI.f9 h
theorem st95_5 (H : H95 c) (hI : I95 c L a w) (hL : L 5 = false) (hn : ∀ k, needs ops95 5 k = true → L k = true) : wpOp Try.prog ops95 Q 5 (I95 c fun k => L k || Nat.beq k 5) a w := by
  have hrun := x_move a (some 19) 0 22 (pos95 5) (aft95 5) w
  rw [(hI.keep 0 (by decide)).trans H.t0] at hrun
  obtain ⟨u, hu⟩ : ∃ u : Value, u = .slice (some ⟨c.b, c.o, none⟩) c.n c.c := ⟨_, rfl⟩
  rw [← hu] at hrun
  have e : ∀ k, Nat.beq k 5 = false → (L k || Nat.beq k 5) = L k := fun k h => by rw [h, Bool.or_false]
  have hd : 19 < a.tmps.size := by rw [hI.size]; decide
  refine wpOp_val o95_5 rfl hrun ?_
  have ps := put_at (v := u) hd
  have pg := fun t (h : 19 ≠ t) => put_ne (v := u) hd h
  constructor
  case down => exact down_put hI.down hn
  case df => exact hI.df
  case size => exact (put_size a 19 u).trans hI.size
  case keep => intro t h1; rw [pg t (by omega)]; exact hI.keep t h1
  case gro => exact hI.gro
  case f0 => intro h; rw [e 0 rfl] at h; rw [pg 14 (by decide)]; exact hI.f0 h
  case f1 => intro h; rw [e 1 rfl] at h; rw [pg 15 (by decide)]; exact hI.f1 h
  case f2 => intro h; rw [e 2 rfl] at h; rw [pg 16 (by decide)]; exact hI.f2 h
  case f3 => intro h; rw [e 3 rfl] at h; rw [pg 17 (by decide)]; exact hI.f3 h
  case f5 => intro _; exact ps.trans hu
  case f6 => intro h; rw [e 6 rfl] at h; rw [pg 20 (by decide)]; exact hI.f6 h
  case f7 => intro h; rw [e 7 rfl] at h; rw [pg 21 (by decide)]; exact hI.f7 h
  case f8 => intro h; rw [e 8 rfl] at h; rw [pg 22 (by decide)]; exact hI.f8 h
  case f4 => intro h; rw [e 4 rfl] at h; rw [pg 18 (by decide)]; exact hI.f4 h
  case f9 => intro h; rw [e 9 rfl] at h; exact hI.f9 h
theorem st95_6 (H : H95 c) (hI : I95 c L a w) (hL : L 6 = false) (hn : ∀ k, needs ops95 6 k = true → L k = true) : wpOp Try.prog ops95 Q 6 (I95 c fun k => L k || Nat.beq k 6) a w := by
  have hrun := x_move a (some 20) 4 3 (pos95 6) (aft95 6) w
  rw [(hI.keep 4 (by decide)).trans H.t4] at hrun
  obtain ⟨u, hu⟩ : ∃ u : Value, u = .int .i64 (c.z : Int) := ⟨_, rfl⟩
  rw [← hu] at hrun
  have e : ∀ k, Nat.beq k 6 = false → (L k || Nat.beq k 6) = L k := fun k h => by rw [h, Bool.or_false]
  have hd : 20 < a.tmps.size := by rw [hI.size]; decide
  refine wpOp_val o95_6 rfl hrun ?_
  have ps := put_at (v := u) hd
  have pg := fun t (h : 20 ≠ t) => put_ne (v := u) hd h
  constructor
  case down => exact down_put hI.down hn
  case df => exact hI.df
  case size => exact (put_size a 20 u).trans hI.size
  case keep => intro t h1; rw [pg t (by omega)]; exact hI.keep t h1
  case gro => exact hI.gro
  case f0 => intro h; rw [e 0 rfl] at h; rw [pg 14 (by decide)]; exact hI.f0 h
  case f1 => intro h; rw [e 1 rfl] at h; rw [pg 15 (by decide)]; exact hI.f1 h
  case f2 => intro h; rw [e 2 rfl] at h; rw [pg 16 (by decide)]; exact hI.f2 h
  case f3 => intro h; rw [e 3 rfl] at h; rw [pg 17 (by decide)]; exact hI.f3 h
  case f5 => intro h; rw [e 5 rfl] at h; rw [pg 19 (by decide)]; exact hI.f5 h
  case f6 => intro _; exact ps.trans hu
  case f7 => intro h; rw [e 7 rfl] at h; rw [pg 21 (by decide)]; exact hI.f7 h
  case f8 => intro h; rw [e 8 rfl] at h; rw [pg 22 (by decide)]; exact hI.f8 h
  case f4 => intro h; rw [e 4 rfl] at h; rw [pg 18 (by decide)]; exact hI.f4 h
  case f9 => intro h; rw [e 9 rfl] at h; exact hI.f9 h
theorem st95_8 (H : H95 c) (hI : I95 c L a w) (hL : L 8 = false) (hn : ∀ k, needs ops95 8 k = true → L k = true) : wpOp Try.prog ops95 Q 8 (I95 c fun k => L k || Nat.beq k 8) a w := by
  have hrun := x_move a (some 22) 1 54 (pos95 8) (aft95 8) w
  rw [(hI.keep 1 (by decide)).trans H.t1] at hrun
  obtain ⟨u, hu⟩ : ∃ u : Value, u = .func (.func 108) #[] #[] := ⟨_, rfl⟩
  rw [← hu] at hrun
  have e : ∀ k, Nat.beq k 8 = false → (L k || Nat.beq k 8) = L k := fun k h => by rw [h, Bool.or_false]
  have hd : 22 < a.tmps.size := by rw [hI.size]; decide
  refine wpOp_val o95_8 rfl hrun ?_
  have ps := put_at (v := u) hd
  have pg := fun t (h : 22 ≠ t) => put_ne (v := u) hd h
  constructor
  case down => exact down_put hI.down hn
  case df => exact hI.df
  case size => exact (put_size a 22 u).trans hI.size
  case keep => intro t h1; rw [pg t (by omega)]; exact hI.keep t h1
  case gro => exact hI.gro
  case f0 => intro h; rw [e 0 rfl] at h; rw [pg 14 (by decide)]; exact hI.f0 h
  case f1 => intro h; rw [e 1 rfl] at h; rw [pg 15 (by decide)]; exact hI.f1 h
  case f2 => intro h; rw [e 2 rfl] at h; rw [pg 16 (by decide)]; exact hI.f2 h
  case f3 => intro h; rw [e 3 rfl] at h; rw [pg 17 (by decide)]; exact hI.f3 h
  case f5 => intro h; rw [e 5 rfl] at h; rw [pg 19 (by decide)]; exact hI.f5 h
  case f6 => intro h; rw [e 6 rfl] at h; rw [pg 20 (by decide)]; exact hI.f6 h
  case f7 => intro h; rw [e 7 rfl] at h; rw [pg 21 (by decide)]; exact hI.f7 h
  case f8 => intro _; exact ps.trans hu
  case f4 => intro h; rw [e 4 rfl] at h; rw [pg 18 (by decide)]; exact hI.f4 h
  case f9 => intro h; rw [e 9 rfl] at h; exact hI.f9 h
theorem st95_2 (H : H95 c) (hI : I95 c L a w) (hL : L 2 = false) (hn : ∀ k, needs ops95 2 k = true → L k = true) : wpOp Try.prog ops95 Q 2 (I95 c fun k => L k || Nat.beq k 2) a w := by
  have n0 : L 0 = true := hn 0 (by kernel_rfl)
  have n1 : L 1 = true := hn 1 (by kernel_rfl)
  have hrun := x_index22 a (some 16) 14 15 0 (pos95 2) (aft95 2) w (k := c.z) (hI.f0 n0) (hI.f1 n1) H.hz
  obtain ⟨u, hu⟩ : ∃ u : Value, u = .pointer (some ⟨c.b, c.o + c.z, none⟩) := ⟨_, rfl⟩
  rw [← hu] at hrun
  have e : ∀ k, Nat.beq k 2 = false → (L k || Nat.beq k 2) = L k := fun k h => by rw [h, Bool.or_false]
  have hd : 16 < a.tmps.size := by rw [hI.size]; decide
  refine wpOp_val o95_2 rfl hrun ?_
  have ps := put_at (v := u) hd
  have pg := fun t (h : 16 ≠ t) => put_ne (v := u) hd h
  constructor
  case down => exact down_put hI.down hn
  case df => exact hI.df
  case size => exact (put_size a 16 u).trans hI.size
  case keep => intro t h1; rw [pg t (by omega)]; exact hI.keep t h1
  case gro => exact hI.gro
  case f0 => intro h; rw [e 0 rfl] at h; rw [pg 14 (by decide)]; exact hI.f0 h
  case f1 => intro h; rw [e 1 rfl] at h; rw [pg 15 (by decide)]; exact hI.f1 h
  case f2 => intro _; exact ps.trans hu
  case f3 => intro h; rw [e 3 rfl] at h; rw [pg 17 (by decide)]; exact hI.f3 h
  case f5 => intro h; rw [e 5 rfl] at h; rw [pg 19 (by decide)]; exact hI.f5 h
  case f6 => intro h; rw [e 6 rfl] at h; rw [pg 20 (by decide)]; exact hI.f6 h
  case f7 => intro h; rw [e 7 rfl] at h; rw [pg 21 (by decide)]; exact hI.f7 h
  case f8 => intro h; rw [e 8 rfl] at h; rw [pg 22 (by decide)]; exact hI.f8 h
  case f4 => intro h; rw [e 4 rfl] at h; rw [pg 18 (by decide)]; exact hI.f4 h
  case f9 => intro h; rw [e 9 rfl] at h; exact hI.f9 h
theorem st95_3 (H : H95 c) (hI : I95 c L a w) (hL : L 3 = false) (hn : ∀ k, needs ops95 3 k = true → L k = true) : wpOp Try.prog ops95 Q 3 (I95 c fun k => L k || Nat.beq k 3) a w := by
  have n2 : L 2 = true := hn 2 (by kernel_rfl)
  have hrun := x_load3 a (some 17) 16 3 (pos95 3) (aft95 3) w (hI.f2 n2) ((World.cell?_of_block (hI.gro.same c.b H.hb)).trans H.cz)
  obtain ⟨u, hu⟩ : ∃ u : Value, u = .int .i64 c.x := ⟨_, rfl⟩
  rw [← hu] at hrun
  have e : ∀ k, Nat.beq k 3 = false → (L k || Nat.beq k 3) = L k := fun k h => by rw [h, Bool.or_false]
  have hd : 17 < a.tmps.size := by rw [hI.size]; decide
  refine wpOp_val o95_3 rfl hrun ?_
  have ps := put_at (v := u) hd
  have pg := fun t (h : 17 ≠ t) => put_ne (v := u) hd h
  constructor
  case down => exact down_put hI.down hn
  case df => exact hI.df
  case size => exact (put_size a 17 u).trans hI.size
  case keep => intro t h1; rw [pg t (by omega)]; exact hI.keep t h1
  case gro => exact hI.gro
  case f0 => intro h; rw [e 0 rfl] at h; rw [pg 14 (by decide)]; exact hI.f0 h
  case f1 => intro h; rw [e 1 rfl] at h; rw [pg 15 (by decide)]; exact hI.f1 h
  case f2 => intro h; rw [e 2 rfl] at h; rw [pg 16 (by decide)]; exact hI.f2 h
  case f3 => intro _; exact ps.trans hu
  case f5 => intro h; rw [e 5 rfl] at h; rw [pg 19 (by decide)]; exact hI.f5 h
  case f6 => intro h; rw [e 6 rfl] at h; rw [pg 20 (by decide)]; exact hI.f6 h
  case f7 => intro h; rw [e 7 rfl] at h; rw [pg 21 (by decide)]; exact hI.f7 h
  case f8 => intro h; rw [e 8 rfl] at h; rw [pg 22 (by decide)]; exact hI.f8 h
  case f4 => intro h; rw [e 4 rfl] at h; rw [pg 18 (by decide)]; exact hI.f4 h
  case f9 => intro h; rw [e 9 rfl] at h; exact hI.f9 h
theorem st95_7 (H : H95 c) (hI : I95 c L a w) (hL : L 7 = false) (hn : ∀ k, needs ops95 7 k = true → L k = true) : wpOp Try.prog ops95 Q 7 (I95 c fun k => L k || Nat.beq k 7) a w := by
  have n5 : L 5 = true := hn 5 (by kernel_rfl)
  have n6 : L 6 = true := hn 6 (by kernel_rfl)
  have hrun := x_slice a (some 21) 19 20 22 (pos95 7) (aft95 7) w (hI.f5 n5) (hI.f6 n6) (by have := H.hz; have := H.hc; omega) (by have := H.hz; have := H.hc; omega)
  obtain ⟨u, hu⟩ : ∃ u : Value, u = .slice (some ⟨c.b, c.o, none⟩) c.z c.c := ⟨_, rfl⟩
  rw [← hu] at hrun
  have e : ∀ k, Nat.beq k 7 = false → (L k || Nat.beq k 7) = L k := fun k h => by rw [h, Bool.or_false]
  have hd : 21 < a.tmps.size := by rw [hI.size]; decide
  refine wpOp_val o95_7 rfl hrun ?_
  have ps := put_at (v := u) hd
  have pg := fun t (h : 21 ≠ t) => put_ne (v := u) hd h
  constructor
  case down => exact down_put hI.down hn
  case df => exact hI.df
  case size => exact (put_size a 21 u).trans hI.size
  case keep => intro t h1; rw [pg t (by omega)]; exact hI.keep t h1
  case gro => exact hI.gro
  case f0 => intro h; rw [e 0 rfl] at h; rw [pg 14 (by decide)]; exact hI.f0 h
  case f1 => intro h; rw [e 1 rfl] at h; rw [pg 15 (by decide)]; exact hI.f1 h
  case f2 => intro h; rw [e 2 rfl] at h; rw [pg 16 (by decide)]; exact hI.f2 h
  case f3 => intro h; rw [e 3 rfl] at h; rw [pg 17 (by decide)]; exact hI.f3 h
  case f5 => intro h; rw [e 5 rfl] at h; rw [pg 19 (by decide)]; exact hI.f5 h
  case f6 => intro h; rw [e 6 rfl] at h; rw [pg 20 (by decide)]; exact hI.f6 h
  case f7 => intro _; exact ps.trans hu
  case f8 => intro h; rw [e 8 rfl] at h; rw [pg 22 (by decide)]; exact hI.f8 h
  case f4 => intro h; rw [e 4 rfl] at h; rw [pg 18 (by decide)]; exact hI.f4 h
  case f9 => intro h; rw [e 9 rfl] at h; exact hI.f9 h
theorem st95_4 (H : H95 c) (hI : I95 c L a w) (hL : L 4 = false) (hn : ∀ k, needs ops95 4 k = true → L k = true) : wpOp Try.prog ops95 Q 4 (I95 c fun k => L k || Nat.beq k 4) a w := by
  have n3 : L 3 = true := hn 3 (by kernel_rfl)
  have hrun := x_build2 a (some 18) 17 22 (pos95 4) (aft95 4) w (hI.f3 n3)
  obtain ⟨u, hu⟩ : ∃ u : Value, u = .slice (some ⟨w.heap.size, 0, none⟩) 2 2 := ⟨_, rfl⟩
  rw [← hu] at hrun
  have e : ∀ k, Nat.beq k 4 = false → (L k || Nat.beq k 4) = L k := fun k h => by rw [h, Bool.or_false]
  have hd : 18 < a.tmps.size := by rw [hI.size]; decide
  refine wpOp_val o95_4 rfl hrun ?_
  have ps := put_at (v := u) hd
  have pg := fun t (h : 18 ≠ t) => put_ne (v := u) hd h
  constructor
  case down => exact down_put hI.down hn
  case df => exact hI.df
  case size => exact (put_size a 18 u).trans hI.size
  case keep => intro t h1; rw [pg t (by omega)]; exact hI.keep t h1
  case gro => exact hI.gro.alloc (Nat.le_refl _) _
  case f0 => intro h; rw [e 0 rfl] at h; rw [pg 14 (by decide)]; exact hI.f0 h
  case f1 => intro h; rw [e 1 rfl] at h; rw [pg 15 (by decide)]; exact hI.f1 h
  case f2 => intro h; rw [e 2 rfl] at h; rw [pg 16 (by decide)]; exact hI.f2 h
  case f3 => intro h; rw [e 3 rfl] at h; rw [pg 17 (by decide)]; exact hI.f3 h
  case f5 => intro h; rw [e 5 rfl] at h; rw [pg 19 (by decide)]; exact hI.f5 h
  case f6 => intro h; rw [e 6 rfl] at h; rw [pg 20 (by decide)]; exact hI.f6 h
  case f7 => intro h; rw [e 7 rfl] at h; rw [pg 21 (by decide)]; exact hI.f7 h
  case f8 => intro h; rw [e 8 rfl] at h; rw [pg 22 (by decide)]; exact hI.f8 h
  case f4 => intro _; rw [ps, hu]; exact lit2 w c.x
  case f9 => intro h; rw [e 9 rfl] at h; exact hI.f9 h
theorem st95_9 (H : H95 c) (hI : I95 c L a w) (hL : L 9 = false) (hn : ∀ k, needs ops95 9 k = true → L k = true) (hP : ∀ a' w', c.told ≠ [] → Gro c.w0.heap.size c.w0 w' → a'.defers = c.df → Q (.panic foundC) a' w') : wpOp Try.prog ops95 Q 9 (I95 c fun k => L k || Nat.beq k 9) a w := by
  have n4 : L 4 = true := hn 4 (by kernel_rfl)
  have n7 : L 7 = true := hn 7 (by kernel_rfl)
  have n8 : L 8 = true := hn 8 (by kernel_rfl)
  have hcall := H.call w (a.tmps.getD 18 undef) (a.tmps.getD 21 undef) (hI.f4 n4) (by rw [hI.f7 n7]; exact (H.rd.gro hI.gro).up hI.gro.size)
  have hrun : (execOp a.eval ⟨some 23, .call ⟨.value (.func 111), #[.tmp 18, .tmp 21, .tmp 22], #[22, 22, 54]⟩, 0, pos95 9, aft95 9, none⟩).run Try.prog w = .ok (.enter 111 #[a.tmps.getD 18 undef, a.tmps.getD 21 undef, .func (.func 108) #[] #[]]) w := by
    have e3 : a.eval (.tmp 22) = .func (.func 108) #[] #[] := hI.f8 n8
    have e111 : ∀ args w, (callFunc 111 args).run Try.prog w = .ok (.enter 111 args) w := enter_of Try.func111 rfl (by kernel_rfl)
    simp only [execOp, Sem.run_bind, resolve, Sem.run_pure, Result.andThen_ok, invoke, List.map_toArray, List.map_cons, List.map_nil, e3]
    exact e111 _ w
  have key : ∀ (u : Value) (w2 : World), c.told = [] → Gro w.heap.size w w2 → I95 c (fun k => L k || Nat.beq k 9) (a.put (some 23) u) w2 := by
    intro u w2 htold hgw
    have e : ∀ k, Nat.beq k 9 = false → (L k || Nat.beq k 9) = L k := fun k h => by rw [h, Bool.or_false]
    have hd : 23 < a.tmps.size := by rw [hI.size]; decide
    have ps := put_at (v := u) hd
    have pg := fun t (h : 23 ≠ t) => put_ne (v := u) hd h
    constructor
    case down => exact down_put hI.down hn
    case df => exact hI.df
    case size => exact (put_size a 23 u).trans hI.size
    case keep => intro t h1; rw [pg t (by omega)]; exact hI.keep t h1
    case gro => exact hI.gro.trans hgw hI.gro.size
    case f0 => intro h; rw [e 0 rfl] at h; rw [pg 14 (by decide)]; exact hI.f0 h
    case f1 => intro h; rw [e 1 rfl] at h; rw [pg 15 (by decide)]; exact hI.f1 h
    case f2 => intro h; rw [e 2 rfl] at h; rw [pg 16 (by decide)]; exact hI.f2 h
    case f3 => intro h; rw [e 3 rfl] at h; rw [pg 17 (by decide)]; exact hI.f3 h
    case f5 => intro h; rw [e 5 rfl] at h; rw [pg 19 (by decide)]; exact hI.f5 h
    case f6 => intro h; rw [e 6 rfl] at h; rw [pg 20 (by decide)]; exact hI.f6 h
    case f7 => intro h; rw [e 7 rfl] at h; rw [pg 21 (by decide)]; exact hI.f7 h
    case f8 => intro h; rw [e 8 rfl] at h; rw [pg 22 (by decide)]; exact hI.f8 h
    case f4 => intro h; rw [e 4 rfl] at h; rw [pg 18 (by decide)]; exact ((hI.f4 h).gro hgw).up hgw.size
    case f9 => intro _; exact htold
  unfold wpOp
  rw [o95_9]
  have hw : Region.wanted (⟨some 23, .call ⟨.value (.func 111), #[.tmp 18, .tmp 21, .tmp 22], #[22, 22, 54]⟩, 0, pos95 9, aft95 9, none⟩ : Oper) (yielded ops95 a.tmps) = true := rfl
  simp only [hw, if_true]
  left
  unfold Oper.wp
  rw [hrun, Oper.upon_enter]
  refine hcall.mono ?_
  rintro en w2 ⟨⟨h1, h2⟩, h3⟩
  by_cases ht : c.told = []
  · obtain rfl := h1 ht
    exact key _ w2 ht h3
  · obtain rfl := h2 ht
    exact hP a w2 ht (hI.gro.trans h3 hI.gro.size) hI.df
/-- begin's region: the search ends it. -/
theorem region95 (H : H95 c) (hsz : c.tm.size = 24) {id : Nat} {ops : Array Oper} (hops : ops = ops95) (hP : ∀ a' w', c.told ≠ [] → Gro c.w0.heap.size c.w0 w' → a'.defers = c.df → Q (.panic foundC) a' w')
    (hQ : ∀ a' w', c.told = [] → Gro c.w0.heap.size c.w0 w' → a'.defers = c.df → Q .normal a' w') : (Code.region id ops true).wp Try.prog Q ⟨c.tm, c.df⟩ c.w0 := by
  subst hops
  refine wp_region_inv order (I95 c) low95 ?_ ?_ (fun L L' a w e h => h.ext e) ?_
  · exact ⟨fun k q h => (by cases h), rfl, hsz, fun _ _ => rfl, ⟨rfl, rfl, ⟨rfl, Nat.le_succ _⟩, Nat.le_refl _, fun _ _ => rfl⟩, fun h => (by cases h), fun h => (by cases h), fun h => (by cases h), fun h => (by cases h), fun h => (by cases h), fun h => (by cases h), fun h => (by cases h), fun h => (by cases h), fun h => (by cases h), fun h => (by cases h)⟩
  · intro i o L a w ho hI hL hn
    have hi : i < 10 := by rw [← s95]; exact (Array.getElem?_eq_some_iff.1 ho).1
    obtain rfl | rfl | rfl | rfl | rfl | rfl | rfl | rfl | rfl | rfl : i = 0 ∨ i = 1 ∨ i = 2 ∨ i = 3 ∨ i = 4 ∨ i = 5 ∨ i = 6 ∨ i = 7 ∨ i = 8 ∨ i = 9 := by omega
    · exact st95_0 H hI hL hn
    · exact st95_1 H hI hL hn
    · exact st95_2 H hI hL hn
    · exact st95_3 H hI hL hn
    · exact st95_4 H hI hL hn
    · exact st95_5 H hI hL hn
    · exact st95_6 H hI hL hn
    · exact st95_7 H hI hL hn
    · exact st95_8 H hI hL hn
    · exact st95_9 H hI hL hn hP
  · intro L a w hall hI
    rw [s95] at hall
    exact hQ a w (hI.f9 (hall 9 (by decide))) hI.gro hI.df
end
set_option maxHeartbeats 4000000 in
theorem begin_ends (K : Nat) (l : List Int) (out : List (List Int)) (w : World) (v : Value) (h0 : RdC w.heap.size w v l) (h : implf95 K l ([], ()) = some (out, ())) : Calls Try.prog 95 #[v, .func (.func 108) #[] #[]] w (Ends [] out w) := by
  rw [implf95] at h
  cases hr0 : ((l.length : Int) == (0 : Int)) with
  | true =>
    rw [hr0, cond_true] at h
    obtain ⟨y1, hy1, h⟩ := ob_some h
    cases h
    have hne := told_more hy1
    obtain ⟨A, cap, rfl, -, -⟩ := h0
    have hl : l.length = 0 := by have := eq_of_beq hr0; omega
    rw [hl]
    have e108 : ∀ args w, (callFunc 108 args).run Try.prog w = .ok (.enter 108 args) w := enter_of Try.func108 rfl (by kernel_rfl)
    have G0 := (Gro.refl w.heap.size w).alloc (Nat.le_refl _) (.cells #[.int .i64 0] 3)
    have HA : Aside (out ≠ [] ∧ Gro w.heap.size w (w.alloc (.cells #[.int .i64 0] 3))) := ⟨hne, G0⟩
    clear hne hy1 G0 hr0 hl
    go_enter Try.func95, Try.ntmps95
    go_wp2_with (go_at_fn 108; refine (tell_panics _ _).mono ?_; rintro e W ⟨rfl, rfl⟩)
    simp [bodyPost]
    exact ⟨⟨fun q => absurd q HA.out.1, fun _ => rfl⟩, HA.out.2⟩
  | false =>
    rw [hr0, cond_false] at h
    split at h
    · rename_i hz
      split at h
      · rename_i hz2
        obtain ⟨⟨a2, u2⟩, hy2, h⟩ := ob_some h
        have ha2 : a2 = out := congrArg Prod.fst (Option.some.inj h)
        subst ha2
        clear h
        obtain ⟨A, cap, rfl, hc, hA⟩ := h0
        obtain ⟨z, hz1⟩ : ∃ z : Nat, IntKind.i64.wrap ((l.length : Int) - 1) = (z : Int) := ⟨(IntKind.i64.wrap ((l.length : Int) - 1)).toNat, by omega⟩
        rw [hz1] at hz hz2 hy2
        obtain ⟨b, o, rfl, hb, hl⟩ := hA (by omega)
        have la := hl z (by omega)
        rw [Int.toNat_natCast] at hy2
        obtain ⟨x, hx⟩ : ∃ x, x = l.getD z 0 := ⟨_, rfl⟩
        rw [← hx] at la hy2
        have bz : (z : Int) < (l.length : Int) := hz.2
        have bz2 : z ≤ cap := by omega
        have bz3 : z ≤ l.length := by omega
        have dr : ((l.length : Int) == 0) = false := hr0
        have e111 : ∀ args w, (callFunc 111 args).run Try.prog w = .ok (.enter 111 args) w := enter_of Try.func111 rfl (by kernel_rfl)
        have HY : Aside (implr111 K K [0, x] (l.take z) ([], ()) = some (a2, ())) := hy2
        clear hy2 hx hA hr0
        go_enter Try.func95, Try.ntmps95
        go_wp2
        have hrd : RdC w.heap.size w (.slice (some ⟨b, o, none⟩) z cap) (l.take z) := by
          refine ⟨some ⟨b, o, none⟩, cap, by rw [List.length_take, Nat.min_eq_left (by omega)], by rw [List.length_take]; omega, fun _ => ⟨b, o, rfl, hb, fun j hj => ?_⟩⟩
          rw [List.length_take] at hj
          rw [hl j (by omega), List.getD_eq_getElem?_getD, List.getD_eq_getElem?_getD, List.getElem?_take, if_pos (by omega)]
        refine region95 (c := ⟨_, _, w, b, o, l.length, cap, z, x, l.take z, a2⟩) ⟨rfl, rfl, rfl, by show z < l.length; omega, hc, hb, la, hrd, fun w' v0 v1 q0 q1 => search_ends K K [0, x] (l.take z) [] a2 w' v0 v1 q0 q1 (by show 2 ≤ 2000; decide) HY.out⟩ rfl (by kernel_rfl) ?_ ?_
        · rintro ⟨t, d⟩ w' h1 h2 h3
          obtain rfl : d = [] := h3
          simp [bodyPost]
          exact ⟨⟨fun q => absurd q h1, fun _ => rfl⟩, h2⟩
        · rintro ⟨t, d⟩ w' h1 h2 h3
          obtain rfl : d = [] := h3
          go_end0
          exact ⟨⟨fun _ => rfl, fun q => absurd h1 q⟩, h2⟩
      · cases h
    · cases h
theorem ran_of_gro {S : Nat → Prop} {w w' : World} (h : Gro w.heap.size w w') (hS : ∀ b, S b → b < w.heap.size) : Ran S w [] S w' [] :=
  ⟨h.os, h.tape, h.out, h.size, fun b hb _ => h.same b hb, fun _ h => h, fun _ h => .inl h, fun b hb => (by cases hb), fun b hb => (by cases hb), .nil, fun b hb => Nat.lt_of_lt_of_le (hS b hb) h.size⟩
theorem gro_grow (w : World) (q : Nat) (os : Array Obj) : Gro w.heap.size w (grow (w.drewN q) os) :=
  ⟨rfl, rfl, ⟨rfl, Nat.le_add_right _ _⟩, by simp [grow], fun b hb => heap_grow_old _ _ hb⟩
theorem gro_set {base : Nat} {w w1 : World} (h : Gro base w w1) (a : Addr) (ha : base ≤ a.block) (v : Value) : Gro base w (w1.setCell a v) :=
  ⟨h.os, h.tape, h.out, by rw [World.size_setCell]; exact h.size, fun b hb => (heap_setCell_other _ _ _ _ (by omega)).trans (h.same b hb)⟩
theorem exists_walk (K : Nat) (l : List Int) (out : List (List Int)) (w : World) (v : Value) (h0 : RdC w.heap.size w v l) (h : implf95 K l ([], ()) = some (out, ())) :
    Calls Try.prog 88 #[v] w fun e w' => e = .returned (.bool (decide (0 < out.length))) ∧ Gro w.heap.size w w' := by
  have G0 := (Gro.refl w.heap.size w).alloc (Nat.le_refl _) (.cells #[.bool false] 4)
  have hb := begin_ends K l out (w.alloc (.cells #[.bool false] 4)) v ((h0.gro G0).up G0.size) h
  have hw : ∀ q os, Gro w.heap.size w (grow ((w.alloc (.cells #[.bool false] 4)).drewN q) os) := fun q os => G0.trans (gro_grow _ q os) G0.size
  by_cases ho : out = []
  · refine (exists_none v w (hb.mono ?_)).mono ?_
    · rintro e w' ⟨⟨h1, -⟩, h2⟩
      exact ⟨h1 ho, (ran_of_gro (S := fun _ => False) h2 (fun _ h => h.elim)).grown⟩
    · rintro e w' ⟨rfl, q, os, rfl⟩
      refine ⟨by rw [ho]; rfl, gro_set (hw q os) _ (Nat.le_refl _) _⟩
  · refine (exists_panics v w (hb.mono ?_)).mono ?_
    · rintro e w' ⟨⟨-, h1⟩, h2⟩
      exact ⟨h1 ho, (ran_of_gro (S := fun _ => False) h2 (fun _ h => h.elim)).grown⟩
    · rintro e w' ⟨rfl, q, os, o, rfl⟩
      have hl : 0 < out.length := by
        cases out with
        | nil => exact absurd rfl ho
        | cons a r => exact Nat.succ_pos _
      exact ⟨by rw [decide_eq_true hl], gro_set ((hw q os).alloc (Nat.le_refl _) o) _ (Nat.le_refl _) _⟩
/-- Whether there are cliffs with delays: the search tells something, and that is caught. -/
theorem exists_ent88 (K : Nat) : EntOk Try.prog 88 ⟨[(.dat (.sl (.int .i64)), false)], .dat .bool, Bool, fun x => ob (implf95 K x.1 ([], ())) fun y => some (decide (0 < y.1.length)), fun _ => (fun y => (y, ())), false⟩ := by
  refine ⟨⟨_, _, Try.func88, rfl, by kernel_rfl⟩, ?_⟩
  rintro S w vs ⟨l, u⟩ bs y ho ⟨v, r, b1, b2, rfl, rfl, ⟨hv, rfl⟩, rfl, rfl⟩ hy
  have hv : Rep S w (.sl (.int .i64)) l [v] := hv
  have ho : Own S w [] := ho
  obtain ⟨⟨out, u2⟩, h1, h2⟩ := ob_some (show (ob (implf95 K l ([], ())) fun y => some (decide (0 < y.1.length))) = some y from hy)
  have h2 : decide (0 < out.length) = y := Option.some.inj h2
  subst h2
  refine (exists_walk K l out w v (rd_of_rep ho.sb hv) h1).mono ?_
  rintro e w' ⟨rfl, hg⟩
  have hr := ran_of_gro hg ho.sb
  exact ⟨S, [], [], hr, ⟨rfl, rfl⟩, v, _, [], [], rfl, rfl, ⟨Rep.move (fun _ h => h) (fun b hb => hr.still ho b hb) hv, rfl⟩, rfl, rfl⟩
end

theorem e88_ok (K : Nat) : EntOk Try.prog 88 (e88 K) := exists_ent88 K

end Go.Proofs.Ytdgibokmaannjaa
