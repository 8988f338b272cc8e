/- The library's CompactFunc at rows of slices. -/
import Derived.Test.YtdgibokmaannjaaR3
import Derived.Lib.SlKept
import Derived.Shelf.SlSortCmp.Kit1
import Derived.Shelf.SlicesE.DeleteFunc
set_option linter.unusedVariables false
set_option linter.unusedSimpArgs false
namespace Go.Proofs.Ytdgibokmaannjaa
open Go Go.Pv Go.RowKit Go.Shelf Go.Lib Go.Sort
variable {α : Type} [Inhabited α]

theorem SW.set {enc : α → Value} {w0 W : World} {blk off : Nat} {dk : Array α} (h : SW enc w0 blk off dk W) (hblk : blk < w0.heap.size) (i : Nat) (x : α) (hi : i < dk.size) : SW enc w0 blk off (dk.setIfInBounds i x) (W.setCell ⟨blk, off + i, none⟩ (enc x)) := by
  obtain ⟨n, os, rfl⟩ := h
  refine ⟨n, os, ?_⟩
  unfold sortWorld
  rw [← putRow_grow enc (Sort.ahead w0 n) os blk off dk hblk, putRow_set enc _ blk off dk i x hi, putRow_grow enc (Sort.ahead w0 n) os blk off _ hblk]
theorem SW.sets {enc : α → Value} {w0 W : World} {blk off : Nat} {dk : Array α} (h : SW enc w0 blk off dk W) (hblk : blk < w0.heap.size) (i : Nat) (xs : List α) (hi : i + xs.length ≤ dk.size) : SW enc w0 blk off (lay dk i xs) (W.setCells blk (off + i) (xs.map enc)) := by
  obtain ⟨n, os, rfl⟩ := h
  refine ⟨n, os, ?_⟩
  unfold sortWorld
  rw [← putRow_grow enc (Sort.ahead w0 n) os blk off dk hblk, putRow_setCells enc _ blk off xs dk i hi, putRow_grow enc (Sort.ahead w0 n) os blk off _ hblk]

/-- Does a place begin a run? -/
def begins (eq : α → α → Bool) (d : Array α) (j : Nat) : Bool := Nat.beq j 0 || !eq d[j]! d[j - 1]!
theorem begins_pos {eq : α → α → Bool} {d : Array α} {j : Nat} (h : eq d[j]! d[j - 1]! = false) : begins eq d j = true := by unfold begins; rw [h]; simp
theorem begins_neg {eq : α → α → Bool} {d : Array α} {j : Nat} (h0 : 0 < j) (h : eq d[j]! d[j - 1]! = true) : begins eq d j = false := by
  unfold begins; rw [h]
  cases j with
  | zero => omega
  | succ j => rfl
theorem begins_zero (eq : α → α → Bool) (d : Array α) : begins eq d 0 = true := rfl

/-- What is asked of the test. -/
def EqLays (enc : α → Value) (eq : α → α → Bool) (blk off size : Nat) (w : World) : Prop :=
  ∀ (m : Nat) (os : Array Obj) (dk : Array α), dk.size = size → ∀ x y : α,
    Calls Try.prog 69 #[enc x, enc y] (sortWorld enc w blk off m dk os) fun e w' => e = .returned (.bool (eq x y)) ∧ ∃ q os', w' = grow ((sortWorld enc w blk off m dk os).drewN q) os'
theorem SW.eq {enc : α → Value} {w0 W : World} {blk off size : Nat} {dk : Array α} {eq : α → α → Bool} (h : SW enc w0 blk off dk W) (hC : EqLays enc eq blk off size w0) (hs : dk.size = size) (x y : α) (n : Nat) (os : Array Obj) :
    Calls Try.prog 69 #[enc x, enc y] (grow (W.drewN n) os) fun e w' => e = .returned (.bool (eq x y)) ∧ ∃ q os', w' = grow ((grow (W.drewN n) os).drewN q) os' := by
  obtain ⟨m, os0, hw⟩ := SW.grown h n os
  rw [hw]
  exact hC m os0 dk hs x y

set_option maxHeartbeats 4000000 in
set_option maxRecDepth 1000000 in
theorem compactF (enc : α → Value) (hO : OneCell enc) (eq : α → α → Bool) (zr : α) (v22 : ∀ w, (zeroValue 22).run Try.prog w = .ok (enc zr) w) (blk off cap : Nat) (d : Array α) (w : World) (hE : EqLays enc eq blk off d.size w) (hH : Holds enc w blk off d) (hblk : blk < w.heap.size) (hsz : d.size ≤ 1000) (hcap : d.size ≤ cap) :
    Calls Try.prog 98 #[.slice (some ⟨blk, off, none⟩) d.size cap, .func (.func 69) #[] #[]] w fun e w' => e = .returned (.slice (some ⟨blk, off, none⟩) (keptUpTo (begins eq d) d d.size).length cap) ∧ SW enc w blk off (keptUpTo (begins eq d) d d.size ++ List.replicate (d.size - (keptUpTo (begins eq d) d d.size).length) zr).toArray w' := by
  have mixed : Try.prog.follows .mixedOrders = true := order
  have eg : ∀ args w, (callFunc 69 args).run Try.prog w = .ok (.enter 69 args) w := enter_of Try.func69 rfl (by kernel_rfl)
  have hcl0 := hO.cells
  simp only [Value.cells] at hcl0
  have hst := hO.store Try.prog
  have S0 : Aside (SW enc w blk off d w) := SW.start hH
  have HR : Aside (Row1 enc w blk off d) := ⟨hO, hH, hblk⟩
  have HE : Aside (EqLays enc eq blk off d.size w) := hE
  have same : ∀ W, SW enc w blk off d W → (∀ j, j < d.size → begins eq d j = true) → (keptUpTo (begins eq d) d d.size).length = d.size ∧ SW enc w blk off (keptUpTo (begins eq d) d d.size ++ List.replicate (d.size - (keptUpTo (begins eq d) d d.size).length) zr).toArray W := by
    intro W hW hall
    have e : keptUpTo (begins eq d) d d.size = d.toList := by rw [keptUpTo_all _ d _ hall, range_map_get]
    rw [e]
    refine ⟨by simp, ?_⟩
    simpa using hW
  have HS : Aside _ := same
  clear same hE hH
  by_cases h2 : d.size < 2
  · go_enter Try.func98, Try.ntmps98
    go_wp2
    go_ret
    obtain ⟨e1, e2⟩ := HS.out w S0.out (fun j hj => by obtain rfl : j = 0 := by omega
                                                       rfl)
    exact ⟨by rw [e1]; rfl, e2⟩
  · go_enter Try.func98, Try.ntmps98
    go_wp2
    go_loopg [5] d.size (fun g s5 wr => ∃ j : Nat, j + 1 ≤ d.size ∧ d.size - (j + 1) ≤ g ∧ s5 = .int .i64 ((j : Int) + 1) ∧ Aside (SW enc w blk off d wr) ∧ Hid (∀ i, i < j + 1 → begins eq d i = true))
    case atStart => exact ⟨0, by omega, by omega, rfl, S0, fun i hi => by obtain rfl : i = 0 := by omega
                                                                          rfl⟩
    case round =>
      clear S0
      obtain ⟨j, hj, hg, rfl, S1, HA⟩ := hrel
      by_cases hlt : j + 1 < d.size
      · have hltz : (j : Int) + 1 < (d.size : Int) := by omega
        have hltd : decide ((j : Int) + 1 < (d.size : Int)) = true := decide_eq_true hltz
        obtain ⟨iN, hiN⟩ : ∃ q, q = j + 1 := ⟨_, rfl⟩
        obtain ⟨jN, hjN⟩ : ∃ q, q = j := ⟨_, rfl⟩
        have ea : ((j : Int) + 1).toNat = iN := by omega
        have pa : (0 : Int) ≤ (j : Int) + 1 := by omega
        have ra : IntKind.i64.wrap ((j : Int) + 1) = (j : Int) + 1 := by rw [IntKind.wrap_i64]; omega
        have ec : ((j : Int)).toNat = jN := by omega
        have pc : (0 : Int) ≤ (j : Int) := by omega
        have bc : (j : Int) < (d.size : Int) := by omega
        have rc : IntKind.i64.wrap (j : Int) = (j : Int) := by rw [IntKind.wrap_i64]; omega
        obtain ⟨x, hx⟩ : ∃ x, x = d[j + 1]! := ⟨_, rfl⟩
        obtain ⟨y, hy⟩ : ∃ x, x = d[j]! := ⟨_, rfl⟩
        have la := S1.out.cl HR.out rfl (j + 1) (by omega)
        have lb := S1.out.cl HR.out rfl j (by omega)
        rw [← hx, ← hiN] at la
        rw [← hy, ← hjN] at lb
        have hc := SW.eq S1.out HE.out rfl x y
        have B : Aside (x = d[j + 1]! ∧ y = d[j]!) := ⟨hx, hy⟩
        have IN : Aside (iN = j + 1) := hiN
        clear hx hy hiN hjN
        cases hq : eq x y with
        | false =>
          rw [hq] at hc
          go_wp2_with fail
          go_quiet_grown (first | (go_at_fn 69; refine Calls.grown_of (hc _ _)))
          have S2 : Aside (SW enc w blk off d (grow (wr.drewN nq) osq)) := SW.grown S1.out nq osq
          clear la lb hc S1
          generalize grow (wr.drewN nq) osq = w2 at S2 ⊢
          clear nq osq
          clear ea ec
          go_wp2
          go_roundg (d.size - (j + 1 + 1))
          case measure => omega
          case rel => exact ⟨j + 1, by omega, Nat.le_refl _, by go_num, S2, fun i hi => (by
            rcases Nat.lt_succ_iff_lt_or_eq.1 hi with h | rfl
            · exact HA.out i h
            · exact begins_pos (by rw [Nat.add_sub_cancel, ← B.out.1, ← B.out.2]; exact hq))⟩
        | true =>
          rw [hq] at hc
          go_wp2_with fail
          go_quiet_grown (first | (go_at_fn 69; refine Calls.grown_of (hc _ _)))
          have S2 : Aside (SW enc w blk off d (grow (wr.drewN nq) osq)) := SW.grown S1.out nq osq
          clear la lb hc S1
          generalize grow (wr.drewN nq) osq = w2 at S2 ⊢
          clear nq osq
          go_wp2
          have hiN := IN.out
          generalize hM : d.size - iN = M
          generalize hOb : off + iN = Ob
          generalize cap - iN = C2
          clear ea ra pa ec rc pc bc hltz hltd
          go_loopg [5, 7] d.size (fun g s5 s7 wr => ∃ (kk k2 : Nat) (dk : Array α), s5 = .int .i64 kk ∧ s7 = .int .i64 ((k2 : Int) + 1) ∧ j + 1 + (k2 + 1) ≤ d.size ∧ d.size - (j + 1 + (k2 + 1)) ≤ g ∧ Aside (SW enc w blk off dk wr) ∧ Aside (KeptInv (begins eq d) d (j + 1 + (k2 + 1)) kk dk))
          case atStart => exact ⟨j + 1, 0, d, by go_num, by go_num, by omega, by omega, S2, KeptInv.start HA.out (begins_neg (by omega) (by rw [Nat.add_sub_cancel, ← B.out.1, ← B.out.2]; exact hq))⟩
          case round =>
            clear S2
            obtain ⟨kk, k2, dk, rfl, rfl, hle, hg2, S3, I2⟩ := hrel
            have hkk := I2.out.lt
            have hds := I2.out.size
            by_cases hlt2 : j + 1 + (k2 + 1) < d.size
            · have hltz : (k2 : Int) + 1 < (M : Int) := by omega
              have hltd : decide ((k2 : Int) + 1 < (M : Int)) = true := decide_eq_true hltz
              obtain ⟨aN, haN⟩ : ∃ q, q = k2 + 1 := ⟨_, rfl⟩
              obtain ⟨bN, hbN⟩ : ∃ q, q = k2 := ⟨_, rfl⟩
              have ea : ((k2 : Int) + 1).toNat = aN := by omega
              have pa : (0 : Int) ≤ (k2 : Int) + 1 := by omega
              have ra : IntKind.i64.wrap ((k2 : Int) + 1) = (k2 : Int) + 1 := by rw [IntKind.wrap_i64]; omega
              have ec : ((k2 : Int)).toNat = bN := by omega
              have pc : (0 : Int) ≤ (k2 : Int) := by omega
              have bc : (k2 : Int) < (M : Int) := by omega
              have rc : IntKind.i64.wrap (k2 : Int) = (k2 : Int) := by rw [IntKind.wrap_i64]; omega
              have hkz : (kk : Int) < (d.size : Int) := by omega
              obtain ⟨u, hu⟩ : ∃ x, x = d[j + 1 + (k2 + 1)]! := ⟨_, rfl⟩
              obtain ⟨v, hv⟩ : ∃ x, x = d[j + 1 + k2]! := ⟨_, rfl⟩
              have la := S3.out.cl HR.out hds (j + 1 + (k2 + 1)) (by omega)
              have lb := S3.out.cl HR.out hds (j + 1 + k2) (by omega)
              rw [I2.out.high _ (by omega), ← hu, show off + (j + 1 + (k2 + 1)) = Ob + aN by omega] at la
              rw [I2.out.high _ (by omega), ← hv, show off + (j + 1 + k2) = Ob + bN by omega] at lb
              have hc := SW.eq S3.out HE.out hds u v
              have C : Aside (u = d[j + 1 + (k2 + 1)]! ∧ v = d[j + 1 + k2]! ∧ Ob + aN = off + (j + 1 + (k2 + 1))) := ⟨hu, hv, by omega⟩
              clear hu hv haN hbN hiN hM hOb
              cases hq2 : eq u v with
              | true =>
                rw [hq2] at hc
                go_wp2_with fail
                go_quiet_grown (first | (go_at_fn 69; refine Calls.grown_of (hc _ _)))
                have S4 : Aside (SW enc w blk off dk (grow (wr.drewN nq) osq)) := SW.grown S3.out nq osq
                clear la lb hc S3
                generalize grow (wr.drewN nq) osq = w3 at S4 ⊢
                clear nq osq
                clear ea ec
                go_wp2
                go_roundg (d.size - (j + 1 + (k2 + 1 + 1)))
                case measure => omega
                case rel => exact ⟨kk, k2 + 1, dk, rfl, by go_num, by omega, Nat.le_refl _, S4, I2.out.skip (begins_neg (by omega) (by rw [show j + 1 + (k2 + 1) - 1 = j + 1 + k2 by omega, ← C.out.1, ← C.out.2.1]; exact hq2))⟩
              | false =>
                rw [hq2] at hc
                go_wp2_with fail
                go_quiet_grown (first | (go_at_fn 69; refine Calls.grown_of (hc _ _)))
                have S4 : Aside (SW enc w blk off dk (grow (wr.drewN nq) osq)) := SW.grown S3.out nq osq
                clear la lb hc S3
                generalize grow (wr.drewN nq) osq = w3 at S4 ⊢
                clear nq osq
                have ca := S4.out.c1 HR.out hds (j + 1 + (k2 + 1)) (by omega)
                rw [I2.out.high _ (by omega), ← C.out.1, ← C.out.2.2] at ca
                have ck := S4.out.c1 HR.out hds kk (by omega)
                have fk := S4.out.f1 HR.out hds kk (by omega)
                generalize dk[kk]! = old at ck
                go_wp2
                go_roundg (d.size - (j + 1 + (k2 + 1 + 1)))
                case measure => omega
                case rel => exact ⟨kk + 1, k2 + 1, dk.setIfInBounds kk u, by go_num, by go_num, by omega, Nat.le_refl _, SW.set S4.out hblk kk u (by omega), (by
                  have := I2.out.keep hlt2 (begins_pos (by rw [show j + 1 + (k2 + 1) - 1 = j + 1 + k2 by omega, ← C.out.1, ← C.out.2.1]; exact hq2))
                  rwa [← C.out.1] at this)⟩
            · have hend : j + 1 + (k2 + 1) = d.size := by omega
              have hltz : ¬ (k2 : Int) + 1 < (M : Int) := by omega
              have hcl : ∀ ty, (Builtin.clear_ #[38] ty #[.slice (some ⟨blk, off + kk, none⟩) (d.size - kk) (cap - kk)]).run Try.prog wr = .ok (.tuple #[]) (wr.setCells blk (off + kk) (List.replicate (d.size - kk) (enc zr))) :=
                fun ty => Lib.run_clear_slice wr _ _ ty _ Try.underlying38 v22 (hO.cells zr) (hO zr) blk (off + kk) _ _ (by omega) (fun t ht => by rw [show off + kk + t = off + (kk + t) by omega, S3.out.c1 HR.out hds (kk + t) (by omega)]; rfl) (fun t ht => by rw [show off + kk + t = off + (kk + t) by omega]; exact S3.out.f1 HR.out hds (kk + t) (by omega))
              clear hiN hM hOb
              go_wp2
              go_ret
              have hI := I2.out
              rw [hend] at hI
              refine ⟨by rw [hI.len]; rfl, ?_⟩
              rw [hI.len, ← hI.done zr, ← List.map_replicate]
              exact SW.sets S3.out hblk kk _ (by simp; omega)
      · have hltz : ¬ (j : Int) + 1 < (d.size : Int) := by omega
        go_wp2
        go_ret
        obtain ⟨e1, e2⟩ := HS.out wr S1.out (fun i hi => HA.out i (by omega))
        exact ⟨by rw [e1]; rfl, e2⟩

theorem cmpGoL_snoc (y : List Int) : ∀ (l : List (List Int)) (p : List Int), cmpGoL p (l ++ [y]) = cmpGoL p l ++ if y = (p :: l).getLast (by simp) then [] else [y]
  | [], p => by by_cases h : y = p <;> simp [cmpGoL, h]
  | z :: l, p => by
    rw [List.cons_append, cmpGoL, cmpGoL]
    by_cases h : z = p
    · rw [if_pos h, if_pos h, cmpGoL_snoc y l p]
      congr 1
      cases l with
      | nil => subst h; rfl
      | cons a l => rfl
    · rw [if_neg h, if_neg h, cmpGoL_snoc y l z, List.cons_append]
      rfl
def eqH {S : Nat → Prop} {w : World} (x y : Hdr S w) : Bool := decide (x.dt = y.dt)
theorem kept_eq {S : Nat → Prop} {w : World} (d : Array (Hdr S w)) : ∀ m, m ≤ d.size → (keptUpTo (begins eqH d) d m).map Hdr.dt = compactL ((d.toList.map Hdr.dt).take m)
  | 0, _ => by simp [keptUpTo, compactL]
  | m + 1, h => by
    have ih := kept_eq d m (by omega)
    have hm : m < (d.toList.map Hdr.dt).length := by simp; omega
    have hm' : m < d.size := by omega
    rw [keptUpTo_succ, List.map_append, ih, List.take_add_one, List.getElem?_eq_getElem hm]
    have hx : (d.toList.map Hdr.dt)[m] = d[m]!.dt := by simp [getElem!_pos d m hm']
    rw [hx]
    cases ht : (d.toList.map Hdr.dt).take m with
    | nil =>
      have : m = 0 := by
        have := congrArg List.length ht
        rw [List.length_take, List.length_nil] at this
        omega
      subst this
      simp [begins_zero, compactL, cmpGoL]
    | cons a l =>
      show compactL (a :: l) ++ _ = compactL (a :: (l ++ [d[m]!.dt]))
      rw [compactL, compactL, cmpGoL_snoc, List.cons_append]
      congr 2
      have hm0 : 0 < m := by
        rcases Nat.eq_zero_or_pos m with h0 | h0
        · subst h0; simp at ht
        · exact h0
      have hlast : (a :: l).getLast (by simp) = d[m - 1]!.dt := by
        have : ((d.toList.map Hdr.dt).take m).getLast (by rw [ht]; simp) = d[m - 1]!.dt := by
          rw [List.getLast_eq_getElem, List.getElem_take]
          have e : ((d.toList.map Hdr.dt).take m).length - 1 = m - 1 := by rw [List.length_take]; omega
          simp only [e]
          simp [getElem!_pos d (m - 1) (by omega)]
        simpa [ht] using this
      rw [hlast]
      by_cases h3 : d[m]!.dt = d[m - 1]!.dt
      · rw [begins_neg hm0 (decide_eq_true h3), if_pos h3]; simp
      · rw [begins_pos (decide_eq_false h3), if_neg h3]; simp
theorem kept_le {α : Type} [Inhabited α] (kp : Nat → Bool) (d : Array α) (m : Nat) : (keptUpTo kp d m).length ≤ m := by
  unfold keptUpTo
  rw [List.length_map]
  exact Nat.le_trans (List.length_filter_le _ _) (by simp)

set_option maxRecDepth 100000 in
set_option maxHeartbeats 2000000 in
theorem compactF_nil_in (F : Fence) (n : Nat) (h98 : F.fn 98) (hro : F.round = none) (v : Value) (w : World) : CallsIn F n Try.prog 98 #[.slice none 0 0, v] w fun e w' => e = .returned (.slice none 0 0) ∧ w' = w := by
  refine callsIn_of_wp Try.func98 rfl h98 ?_ hro
  simp only [Try.ntmps98, List.size_toArray, List.length_cons, List.length_nil, Nat.reduceAdd, Nat.reduceSub, Array.replicate_succ, Array.replicate_zero, List.push_toArray, List.append_toArray, List.nil_append, List.cons_append]
  gi_wp2
  go_ret
  exact ⟨rfl, rfl⟩

theorem compactL_ent {fn : (Fs.ty [(.dat slI, false), (.dat slI, false)]).den → Option Bool}
    (hg : EntOk Try.prog 69 ⟨[(.dat slI, false), (.dat slI, false)], .dat .bool, Bool, fn, fun _ y => (y, ()), false⟩) (hfn : ∀ x y : List Int, x.length ≤ 1000 → y.length ≤ 1000 → fn (x, y, ()) = some (decide (x = y))) :
    EntOk Try.prog 98 ⟨[(.own slI, false), (.fn 69 .un, false)], .own slI, List (List Int), fun x => if x.1.length ≤ 1000 ∧ (∀ y ∈ x.1, y.length ≤ 1000) then some (compactL x.1) else none, fun _ y => (y, ()), true⟩ := by
  refine ⟨⟨_, _, Try.func98, rfl, by kernel_rfl⟩, ?_⟩
  rintro S w vs ⟨xs, u, uu⟩ bs y ho hx hy
  have hy : (if xs.length ≤ 1000 ∧ (∀ y ∈ xs, List.length (α := Int) y ≤ 1000) then some (compactL xs) else none) = some y := hy
  have hc : xs.length ≤ 1000 ∧ (∀ y ∈ xs, List.length (α := Int) y ≤ 1000) := by
    by_cases hc : xs.length ≤ 1000 ∧ (∀ y ∈ xs, List.length (α := Int) y ≤ 1000)
    · exact hc
    · rw [if_neg hc] at hy; cases hy
  rw [if_pos hc] at hy
  cases hy
  obtain ⟨v, r, b1, b2, rfl, rfl, ⟨p, e1, hrow, e2⟩, v2, r2, b3, b4, rfl, rfl, ⟨us, e3, ⟨rfl, rfl⟩, -⟩, rfl, rfl⟩ := hx
  simp only [List.cons.injEq, and_true] at e1 e3
  subst e1 e3
  have hrow : RowAt S w p slI xs := hrow
  have key : Calls Try.prog 98 #[rowVal p, .func (.func 69) #[] #[]] w fun
      | .returned v, w' => ∃ S' c1, Ran S w (b1 ++ ([] ++ [])) S' w' c1 ∧ ShR S' w' (.own slI) (compactL xs) v c1
      | _, _ => False := by
    cases hnl : p.nl with
    | true =>
      obtain ⟨hn, hr⟩ := hrow
      obtain ⟨-, hxs, hcap⟩ : p.nl = true ∧ xs = [] ∧ p.cap = 0 := by
        rcases hr with h | ⟨h, _⟩
        · exact h
        · rw [hnl] at h; cases h
      have e : rowVal p = .slice none 0 0 := by unfold rowVal; rw [hnl, hn, hxs, hcap]; rfl
      rw [e]
      refine ((callsIn_wide (n := 2)).1 (compactF_nil_in Fence.wide 2 trivial rfl _ w)).mono ?_
      rintro en w' ⟨rfl, rfl⟩
      refine ⟨S, b1 ++ ([] ++ []), ho.refl, ?_⟩
      refine ⟨p, by rw [e], ⟨hn.trans (by rw [hxs]; rfl), .inl ⟨hnl, by rw [hxs]; rfl, hcap⟩⟩, by rw [e2]; simp⟩
    | false =>
      obtain ⟨cs, ty, h1, hn, h2, h3, h4, h5⟩ := hrow.cells hnl
      have hblt : p.b < w.heap.size := (Array.getElem?_eq_some_iff.1 h1).1
      have hbm : p.b ∈ b1 ++ ([] ++ []) := by rw [e2, hnl]; simp
      have hpS : ∀ b, S b → b ≠ p.b := fun b hb e => (ho.old p.b hbm).2 (e ▸ hb)
      obtain ⟨d, hd1, hd2⟩ := rows_hdr h5 hc.2
      have hdl : d.length = xs.length := by rw [← hd1]; simp
      have h4' : p.o + p.cap ≤ cs.length := by have : p.o + p.cap * 1 ≤ cs.length := h4; omega
      have hid : Holds id w p.b p.o (d.map Hdr.vl).toArray := holds_id h1 (by
        rw [List.toList_toArray, ← hd2]
        simp only [List.size_toArray, List.length_map, hdl]
        rw [show slI.size = 1 from rfl, Nat.mul_one, ← hdl]
        simp [hdl]) (by simp [hdl]; omega)
      have hH : Holds Hdr.vl w p.b p.o d.toArray := by
        intro j hj
        have := hid j (by simpa using hj)
        refine ⟨this.1.trans ?_, this.2⟩
        have hj' : j < d.length := by simpa using hj
        simp [hj']
      have hE : EqLays (Hdr.vl (S := S) (w := w)) eqH p.b p.o d.toArray.size w := by
        intro m os dk _ x y
        refine EntOk.hdrs hg (S := S) (w := w) (fun q hq => by simp [glob] at hq) (fun b hb => Nat.lt_of_lt_of_le (ho.sb b hb) sortW_size) (fun b hb => sortW_heap (ho.sb b hb) (hpS b hb)) x y (r := decide (x.dt = y.dt)) (hfn _ _ x.2.2 y.2.2) (fun S' w' v bs h => ?_)
        obtain ⟨h1, h2⟩ := (show Rep S' w' .bool (decide (x.dt = y.dt)) [v] ∧ bs = [] from h)
        exact ⟨by simpa [Rep, eqH] using h1, h2⟩
      have e' : rowVal p = .slice (some ⟨p.b, p.o, none⟩) d.toArray.size p.cap := by unfold rowVal; rw [hnl, hn]; simp [hdl]
      rw [e']
      refine (compactF Hdr.vl Hdr.one eqH default Try.zeroValue22 p.b p.o p.cap d.toArray w hE hH hblt (by simp; omega) (by simp; omega)).mono ?_
      rintro en w' ⟨rfl, n, os, rfl⟩
      obtain ⟨K, hK⟩ : ∃ K, keptUpTo (begins eqH d.toArray) d.toArray d.toArray.size = K := ⟨_, rfl⟩
      have hKd : K.map Hdr.dt = compactL xs := by
        have := kept_eq d.toArray d.toArray.size (Nat.le_refl _)
        rw [hK] at this
        rw [this, hd1, List.take_of_length_le (by simp [hdl])]
      have hKl : K.length ≤ xs.length := by have := kept_le (begins eqH d.toArray) d.toArray d.toArray.size; rw [hK] at this; simpa [hdl] using this
      rw [hK]
      obtain ⟨F, hF⟩ : ∃ F, K ++ List.replicate (d.toArray.size - K.length) default = F := ⟨_, rfl⟩
      rw [hF]
      have hFl : F.length = xs.length := by rw [← hF]; simp; omega
      have hw' : sortWorld Hdr.vl w p.b p.o n F.toArray os = grow (putRow id (Sort.ahead w n) p.b p.o (F.toArray.map Hdr.vl)) os := by unfold sortWorld; rw [same_put]
      rw [hw']
      obtain ⟨g1, g2⟩ := rowAt_put2 (n := n) (os := os) (ys := F.map Hdr.dt) (F := F.toArray.map Hdr.vl) hrow hnl (by simp [hFl]) (by simp [Ty.size]) (fun b hb => ⟨ho.sb b hb, hpS b hb⟩) (by
        rw [← hw']
        have := hdr_rows (fun b hb => sortW_heap (enc := Hdr.vl) (o := p.o) (m := n) (d := F.toArray) (os := os) (ho.sb b hb) (hpS b hb)) F
        simpa using this)
      have g3 := g1.first hnl K.length (by simp; omega)
      have ht : (F.map Hdr.dt).take K.length = compactL xs := by rw [← hKd, ← hF]; simp
      rw [ht] at g3
      exact ⟨S, b1 ++ ([] ++ []), ran_row ho hbm g2, ⟨p.b, K.length, p.o, p.cap, false⟩, rfl, g3, by rw [e2, hnl]; simp⟩
  exact key
end Go.Proofs.Ytdgibokmaannjaa
