/- The loop over a function of this layer: its reading holds. -/
import Derived.Test.YtdgibokmaannjaaR1
set_option linter.unusedVariables false
set_option linter.unusedSimpArgs false
namespace Go.Proofs.Ytdgibokmaannjaa
open Go Go.Pv Go.RowKit

noncomputable def L0 : Lib := mkLib ti [] [] 0 []
theorem hT0 : ∀ t, TiOk Try.prog L0.ti t := tiOk
theorem enc1_ok : ∀ (x : Int × Int) (μ : Nat → Option At) (S : Nat → Prop) (w : World), RV μ S w (AV.dat (.int .i64) x.1) (Value.int .i64 x.1) := fun x μ S w => RV.of (a := .dat (.int .i64) x.1) rfl
theorem enc2_ok : ∀ (x : Int × Int) (μ : Nat → Option At) (S : Nat → Prop) (w : World), RV μ S w (AV.dat (.int .i64) x.2) (Value.int .i64 x.2) := fun x μ S w => RV.of (a := .dat (.int .i64) x.2) rfl
abbrev wI (n : Int) : Int := IntKind.i64.wrap n
abbrev rI : Ty := .int .i64
noncomputable def fr77 (c ys : List Int) (i x : Int) : List (Nat × AV) :=
  [(24, .own 5), (23, .own 4), (22, .dat rI (wI (wI (c.getD 0 0 + c.getD (wI ((c.length : Int) - 1)).toNat 0) - x))), (21, .dat rI x), (20, .dat rI (wI (c.getD 0 0 + c.getD (wI ((c.length : Int) - 1)).toNat 0))),
   (19, .dat rI (c.getD (wI ((c.length : Int) - 1)).toNat 0)), (18, .iptr rI (c.getD (wI ((c.length : Int) - 1)).toNat 0)), (17, .dat rI (wI ((c.length : Int) - 1))), (16, .dat rI (c.length : Int)), (15, .dat (.sl rI) c), (14, .dat (.sl rI) c),
   (13, .dat rI (c.getD 0 0)), (12, .iptr rI (c.getD 0 0)), (11, .dat (.sl rI) c), (10, .own 3)]
noncomputable def bl77 (c ys : List Int) (x : Int) : List (Nat × Blk) :=
  [(1, .box (.own 5)), (5, .row rI (ys ++ [wI (wI (c.getD 0 0 + c.getD (wI ((c.length : Int) - 1)).toNat 0) - x)])), (3, .dead), (4, .row rI [wI (wI (c.getD 0 0 + c.getD (wI ((c.length : Int) - 1)).toNat 0) - x)])]
def fr0 : List (Nat × AV) := [(3, .ptr 1 0), (1, .ptr 0 0)]
def bl0 (c : List Int) (y : Blk) : List (Nat × Blk) := [(2, .dead), (2, y), (1, .box .nil), (0, .box (.dat (.sl rI) c))]
noncomputable def body77 : Code := match rngsIn (codeOf Try.f77) 0 with
  | (_, .rangeFunc _ _ _ b) :: _ => b
  | _ => .skip
theorem ev77 (c ys : List Int) (y : Blk) (i x : Int) :
    evR L0 body77 ⟨(5, .dat rI x) :: (9, .dat rI x) :: (8, .dat rI i) :: fr0, (1, .box (.own 3)) :: (3, .row rI ys) :: bl0 c y, 4⟩ =
      if (0 : Int) ≤ 0 ∧ (0 : Int) < (c.length : Int) then (if (0 : Int) ≤ wI ((c.length : Int) - 1) ∧ wI ((c.length : Int) - 1) < (c.length : Int) then
        (if (ys.length + 1) * 8 ≤ 140737488355328 then some ⟨fr77 c ys i x ++ ((5, .dat rI x) :: (9, .dat rI x) :: (8, .dat rI i) :: fr0), bl77 c ys x ++ ((1, .box (.own 3)) :: (3, .row rI ys) :: bl0 c y), 6⟩ else none) else none) else none := by kernel_rfl

theorem and3_some {a b c : Bool} (h : and3 a b c = true) : a = true ∧ b = true ∧ c = true := by
  cases a <;> cases b <;> cases c <;> simp_all [and3]

noncomputable def asg77 : Code := match rngsIn (codeOf Try.f77) 0 with
  | (_, .rangeFunc _ _ a _) :: _ => a
  | _ => .skip
theorem ea77 (f : List (Nat × AV)) (b : List (Nat × Blk)) (n : Nat) (v : AV) (x : Int) : evR L0 asg77 ⟨(9, .dat rI x) :: (8, v) :: f, b, n⟩ = some ⟨(5, .dat rI x) :: (9, .dat rI x) :: (8, v) :: f, b, n⟩ := by kernel_rfl
theorem lastI {xs : List Int} (hlen : xs.length ≤ 1000) (h : 0 < xs.length) : wI ((xs.length : Int) - 1) = ((xs.length - 1 : Nat) : Int) := by
  rw [show ((xs.length : Int) - 1) = ((xs.length - 1 : Nat) : Int) by omega]
  exact wrapI (by omega) (by omega)
theorem key77 : RngOk Try.prog (.rangeFunc (.tmp 7) #[8, 9] asg77 body77) rd77 := by
  intro μ S w st st' a hrd h0 hf hdst
  unfold rd77 at hrd
  split at hrd
  · rename_i a1 a2 y k i u cs i' o' k' o v hbl h1 h3 h7
    obtain ⟨hq, hrd2⟩ := condT hrd
    clear hrd
    obtain ⟨q1, q2, q3⟩ := and3_some hq
    obtain ⟨p1, p2, p3⟩ := and3_some q1
    obtain ⟨p4, p5, p6⟩ := and3_some q2
    obtain ⟨p7, p8, p9⟩ := and3_some q3
    have p1 := nat_beq_iff.1 p1
    have p2 := nat_beq_iff.1 p2
    have p3 := nat_beq_iff.1 p3
    have p4 := nat_beq_iff.1 p4
    have p5 := nat_beq_iff.1 p5
    have p6 := nat_beq_iff.1 p6
    have p7 := nat_beq_iff.1 p7
    have p8 := nat_beq_iff.1 p8
    have p9 := nat_beq_iff.1 p9
    subst p1 p2 p3 p4 p5 p6 p7 p8
    split at hrd2
    · rename_i h _
      obtain ⟨h⟩ := h
      subst h
      obtain ⟨⟨b, xs⟩, hxs, hrd3⟩ := ob_some hrd2
      simp only [Option.some.injEq, Prod.mk.injEq] at hrd3
      obtain ⟨hb, rfl⟩ := hrd3
      have hx : ∃ x : List Int, x = (Ty.as (Eq.refl _) cs : List Int) := ⟨_, rfl⟩
      obtain ⟨x, hx⟩ := hx
      have hx' : x = cs := hx
      subst hx'
      clear hx
      have hb2 : b = true ∧ 0 < x.length ∧ x.length ≤ 1000 := by
        have hb : cond b (decide (0 < x.length ∧ x.length ≤ 1000)) false = true := hb
        cases b with
        | true => exact ⟨rfl, of_decide_eq_true hb⟩
        | false => cases hb
      obtain ⟨rfl, hpos, hlen⟩ := hb2
      have hL := lastI hlen hpos
      obtain ⟨g, caps, hg, eg, hit⟩ := seqBack_ok v xs μ S w st.bl st.nb _ hxs h0 (hf.slot 7 v h7)
      have hk : lk st.bl 1 = some (.box .nil) := by rw [hbl]; rfl
      have hmir : ∀ z, wI (wI (x.getD 0 0 + x.getD (wI ((x.length : Int) - 1)).toNat 0) - z) = mirV x z := by
        intro z; rw [hL]; rfl
      refine rng_law3 hT0 order h0 hf hg eg enc1_ok enc2_ok hit hdst (fr0 := fr0) ?_ (can := fun pre => (1, .box (.own 3)) :: (3, .row (.int .i64) (pre.map fun q => mirV x q.2)) :: st.bl) (ncan := 4) ?_ ?_ ⟨rfl, rfl⟩ rfl ⟨[(1, .box (.own 3)), (3, .row (.int .i64) (xs.map fun q => mirV x q.2))], rfl⟩
      · intro t u ht
        by_cases e3 : 3 = t
        · subst e3; have ht : some (AV.ptr 1 0) = some u := ht; cases ht; exact h3
        · by_cases e1 : 1 = t
          · subst e1; have ht : some (AV.ptr 0 0) = some u := ht; cases ht; exact h1
          · rw [fr0, lk_cons, if_neg e3, lk_cons, if_neg e1] at ht; cases ht
      · have hn := StepB.newNil (w' := w) h0 (p := ⟨0, 0, 0, 0, true⟩) (e := .int .i64) rfl rfl rfl rfl rfl ⟨rfl, Nat.le_refl _⟩ rfl
        have hk2 : lk ((st.nb, Blk.row (.int .i64) []) :: st.bl) 1 = some (.box .nil) := by rw [lk_cons, if_neg (by omega)]; exact hk
        obtain ⟨p, hp, hnl, cs', ty, hcs, hx⟩ := hn.1.blk 1 _ hk2
        have hw := StepB.write hn.1 (w' := w) hk2 (by simp) hp hnl rfl rfl ⟨rfl, Nat.le_refl _⟩ rfl (fun _ _ => rfl) (x' := .box (.own st.nb))
          ⟨p, hp, hnl, cs', ty, hcs, _, upd_self _ _ _, hx⟩
        have := hn.trans hw
        rw [p9] at this ⊢
        exact ⟨_, S, this⟩
      · intro pre q hpl
        have he := ev77 x (pre.map fun q => mirV x q.2) y q.1 q.2
        rw [if_pos ⟨Int.le_refl _, by omega⟩, if_pos (by rw [hL]; omega), if_pos (by rw [List.length_map]; omega)] at he
        have hz : (1, Blk.box (.own 3)) :: (3, Blk.row rI (pre.map fun q => mirV x q.2)) :: bl0 x y = (1, Blk.box (.own 3)) :: (3, Blk.row rI (pre.map fun q => mirV x q.2)) :: st.bl := by rw [hbl]; rfl
        rw [hz] at he
        refine ⟨_, _, ea77 _ _ _ _ _, he, ?_⟩
        · intro μ' S' W hst
          rw [p9] at hst ⊢
          have hst : StepB μ S w st.bl 3 μ' S' W (bl77 x (pre.map fun q => mirV x q.2) q.2 ++ ((1, .box (.own 3)) :: (3, .row rI (pre.map fun q => mirV x q.2)) :: st.bl)) 6 := hst
          obtain ⟨μ2, h1, h2⟩ := StepB.recastL (p9 ▸ h0) hst (k := 1) (j := 5) (e := .int .i64) (v := .nil) (xs := (pre ++ [q]).map fun q => mirV x q.2) hk rfl
            (by rw [List.map_append, List.map_singleton, ← hmir]; rfl) (by omega) (by
              intro i hi hik
              rw [hbl]
              have : i = 0 ∨ i = 2 := by omega
              rcases this with rfl | rfl <;> rfl)
          exact ⟨μ2, h1, h2⟩
    · cases hrd2
  · cases hrd
theorem rd77_at : RngAt Try.prog 77 0 rd77 := by
  refine ⟨Try.f77, codeOf Try.f77, Try.func77, rfl, ?_⟩
  intro c hc
  simp only [codeOf, Try.f77, rngsIn, sapp, List.mem_cons, List.not_mem_nil, or_false, Prod.mk.injEq, true_and] at hc
  have e : c = .rangeFunc (.tmp 7) #[8, 9] asg77 body77 := by subst hc; rfl
  subst e
  exact key77
end Go.Proofs.Ytdgibokmaannjaa
