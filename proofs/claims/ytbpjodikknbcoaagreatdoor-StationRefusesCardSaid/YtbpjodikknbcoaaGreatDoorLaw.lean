/- The frame of a law's row that lists variables. -/
import Derived.Test.YtbpjodikknbcoaaGreatDoorLaid
import Derived.Test.YtbpjodikknbcoaaGreatDoorPg
import Derived.WalkKit
import Derived.ProofKit
import Derived.OpenShut
import Derived.ShutString
import Derived.ChangeOld
import Derived.Below
import Derived.SizedLaws
set_option maxRecDepth 100000
set_option linter.unusedVariables false
namespace Go.Proofs.YtbpjodikknbcoaaGreatDoor
open Go Go.Pv Go.ChangeShapes Go.WideShapes Go.RowKit

theorem ownK : ownKnob Tryz.prog.godebug = none := by kernel_rfl
theorem laidOut : laidOutB Tryz.prog = true := by kernel_rfl

theorem law_laid {os : Os} {f : FuncId} {fn : Func} {s : ChangeSpec} {H : Type} {enc : TypeId × Value → H} {rt : Nat}
    (started : os.Started) (noInit : Tryz.checked.prog.inits.idxOf? f = none) (hfn : Tryz.prog.funcs[f]? = some fn)
    (witness : ∃ (w : World) (tape : Tape) (i : Input), w.os = os ∧ (w.forCall tape i).Shaped Tryz.prog ∧ i.vars = [] ∧ Input.okWide Tryz.prog (w.forCall tape i) .any w.heap.size f i ∧
      ((s.pre enc Tryz.prog fn [] false (w.forCall tape i).memory i.args ∧ laidMetH Tryz.prog laidL (w.forCall tape i).memory) ∧ sizedMet enc Tryz.prog fn (OpenSpec.ofChange s) false (w.forCall tape i).memory i.args) ∧ Assume.holds {} Tryz.prog (lone (Frame.enter Tryz.prog f i.args .normal) [] (w.forCall tape i)))
    (hsv : s.vars = []) (hres : fn.resultTypes = #[rt]) (hrt : Tryz.prog.underlying rt = some .bool) {ts : List Nat} (hts : fn.params.toList = ts)
    (hpure : sall (fun t => (teAt tl t).pure) ts = true) (hread : sall (fun t => Tryz.prog.readableRec t && decide (t < Tryz.prog.types.size)) ts = true)
    (hspec : ∀ ds : List (DataW H), ds.length = ts.length → s.fn H ds = { results := [.lit (.bool true)], args := ds })
    (g : Nat → (insOf tl ts).ty.den → Option Bool) (u : (insOf tl ts).back.den) (he : ∀ k, EntOk Tryz.prog f ⟨insOf tl ts, .dat .bool, Bool, g k, fun _ y => (y, u), false⟩) (hg : ∀ x, wfAll tl ts x → ∃ k, g k x = some true) :
    ReturnsInHanded {} Tryz.checked os f .any (fun w args => (s.pre enc Tryz.prog fn [] false w args ∧ laidMetH Tryz.prog laidL w) ∧ sizedMet enc Tryz.prog fn (OpenSpec.ofChange s) false w args) (s.post enc Tryz.prog fn false true false false) := by
  refine returnsInHanded_of_calls ownK started noInit witness ?_
  intro w tape i _ hsh _ hok hpre hholds
  obtain ⟨_, _, _, fn', hfn', _, _, _, _, hval⟩ := hok
  have e : fn' = fn := Option.some.inj (hfn'.symm.trans hfn)
  subst e
  obtain ⟨⟨⟨ds, gs, before, hw, hc⟩, hx⟩, hz⟩ := hpre
  have hw' := DataW.Whole.of_heap (w' := w.forCall tape i) (by rfl) hw
  have hx' : laidMetH Tryz.prog laidL (w.forCall tape i) := hx.of_heap (by rfl)
  refine (law_contract (C := Tryz.checked) (tl := tl) tl_ok laidOut hsv hres hrt hts hpure hread hspec g u he hg (w.forCall tape i) w.heap.size i.args ds gs before hval hw' (gl_of hx' hsh)).mono fun e W' ⟨v, he, hp⟩ => ?_
  subst he
  exact ChangeSpec.post_blind hp
end Go.Proofs.YtbpjodikknbcoaaGreatDoor
