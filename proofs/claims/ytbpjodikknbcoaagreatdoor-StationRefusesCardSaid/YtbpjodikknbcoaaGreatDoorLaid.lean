/- What the rows list: the variables as the program's text lays them. -/
import Derived.Test.YtbpjodikknbcoaaGreatDoorRows
import Derived.Test.YtbpjodikknbcoaaGreatDoorR2
import Derived.ChangeSame
import Derived.ChangeVars
import Derived.JoinedOf
import Derived.RowKit
import Derived.RowKitTokens
import Derived.LaidLaws
import Derived.LaidHandle
import Derived.LaidSub
import Derived.Lay
import Derived.Lib.LaidTab
import Derived.Stop.Joined
import Derived.Stop.LaidErr
import Derived.HandedShaped
import Derived.Shelf.Vars
set_option maxRecDepth 100000
set_option linter.unusedVariables false
set_option linter.unusedSimpArgs false
namespace Go.Proofs.YtbpjodikknbcoaaGreatDoor
open Go Go.Pv Go.Shelf Go.RowKit Go.ChangeShapes Go.WideShapes Go.Stop

abbrev laidL : List (String × DataW Unit) := Rows.stationHoursRow.laid
abbrev laidD : List (String × DataW Unit) := laidL.filter fun x => x.2.handleName?.isNone

theorem laid_et : Tryz.prog.globalNamed "errors.errorType" = some 0 := by kernel_rfl
theorem laid_rt : (Tryz.prog.cutTypes.find? (·.1 == "internal/reflectlite.rtype")).map (·.2) = some 197 := by kernel_rfl
theorem laid_oneRow : ((List.range 268).filter fun t => Tryz.prog.rowNamed t [101, 114, 114, 111, 114]) = [112] := by kernel_rfl
theorem laid_size : Tryz.prog.types.size = 268 := by kernel_rfl

theorem laid_handle {W : World} (h : laidMetH Tryz.prog laidL W) : W.var? Tryz.prog "errors.errorType" = some #[.iface 197 (.agg #[.pointer (some ⟨7, 112, none⟩)])] := by
  obtain ⟨name, u, ty, e1, e2, e3, e4, e5⟩ := (laidMetH_iff.1 h).2 ("errors.errorType", Rows.laid_errors_errorType) (by
    refine List.mem_filter.2 ⟨?_, by rfl⟩
    simp [laidL, Rows.stationHoursRow])
  have en : name = [101, 114, 114, 111, 114] := (Option.some.inj e1).symm
  subst en
  obtain rfl := Option.some.inj (laid_rt.symm.trans e2)
  have hm : ty ∈ (List.range 268).filter fun t => Tryz.prog.rowNamed t [101, 114, 114, 111, 114] := List.mem_filter.2 ⟨List.mem_range.2 (by rw [← laid_size]; exact e3), e4⟩
  rw [laid_oneRow] at hm
  obtain rfl := List.mem_singleton.1 hm
  have hh : typeHandle Tryz.prog 112 = .pointer (some ⟨7, 112, none⟩) := by kernel_rfl
  rw [hh] at e5
  exact e5

theorem laid_tab {W : World} (h : laidMetH Tryz.prog laidL W) : Lib.TabIs Tryz.prog W "internal/strconv.uint64pow10" .u64 Lib.pow10Tab := by
  have h1 := (laidMetH_iff.1 h).1.filter (fun x => x.1 == "internal/strconv.uint64pow10")
  exact Lib.tabIs_of_head (g := 2) (t := 227) (e := 213) (n := 20) (by kernel_rfl) (by kernel_rfl) (by kernel_rfl) (by kernel_rfl) (by kernel_rfl) (by kernel_rfl) h1

theorem star : "*" ++ "errors.errorString" = "*errors.errorString" := by decide
theorem row237 (u : TypeId) (h : Tryz.prog.typeName? 3 u = some "*errors.errorString") : u = 237 :=
  typeName_ptr_named (nm := "errors.errorString") (by rw [star]; kernel_rfl) (by kernel_rfl) (by decide) u (by rw [star]; exact h)

theorem laid_syntax {W : World} (h : laidMetH Tryz.prog laidL W) : ∃ t p, W.var? Tryz.prog "strconv.ErrSyntax" = some #[.iface t p] := by
  have h1 := (laidMetH_iff.1 h).1.filter (fun x => x.1 == "strconv.ErrSyntax")
  obtain ⟨a, s, e, -⟩ := laid_sentinel (g := 3) (ti := 112) (tp := 237) (te := 239) (ts := 9) h1 (by kernel_rfl) (by kernel_rfl) Tryz.underlying112 row237 Tryz.underlying237 Tryz.underlying239 rfl rfl Tryz.underlying9 (by kernel_rfl) (by kernel_rfl)
  exact ⟨_, _, e⟩
theorem laid_range {W : World} (h : laidMetH Tryz.prog laidL W) : ∃ t p, W.var? Tryz.prog "strconv.ErrRange" = some #[.iface t p] := by
  have h1 := (laidMetH_iff.1 h).1.filter (fun x => x.1 == "strconv.ErrRange")
  obtain ⟨a, s, e, -⟩ := laid_sentinel (g := 4) (ti := 112) (tp := 237) (te := 239) (ts := 9) h1 (by kernel_rfl) (by kernel_rfl) Tryz.underlying112 row237 Tryz.underlying237 Tryz.underlying239 rfl rfl Tryz.underlying9 (by kernel_rfl) (by kernel_rfl)
  exact ⟨_, _, e⟩

theorem var_block {W : World} {n : String} {g : Nat} {cs : Array Value} (hg : Tryz.prog.globalNamed n = some g) (h : W.var? Tryz.prog n = some cs) : ∃ ty fr, W.heap[g]? = some (.cells cs ty fr) := by
  unfold World.var? at h
  rw [hg] at h
  have h : (match W.heap[g]? with | some (.cells cs _ _) => some cs | _ => none) = some cs := h
  split at h
  · rename_i c ty fr e
    cases h
    exact ⟨ty, fr, e⟩
  · cases h

theorem g7 : 1 < Tryz.prog.globals.size := by
  have : Tryz.prog.globals.size = 7 := by kernel_rfl
  omega
theorem gl_of {W : World} (h : laidMetH Tryz.prog laidL W) (hs : W.ShapedOpen Tryz.prog) : Gl (fun b => b < W.heap.size) W := by
  have lt : ∀ {g : Nat} {o : Obj}, W.heap[g]? = some o → g < W.heap.size := fun {g o} e => by
    rcases Nat.lt_or_ge g W.heap.size with h | h
    · exact h
    · simp [Array.getElem?_eq_none h] at e
  intro q hq
  simp only [glob, List.mem_cons, List.not_mem_nil, or_false] at hq
  rcases hq with rfl | rfl | rfl | rfl | rfl
  · obtain ⟨ty, fr, e⟩ := var_block laid_et (laid_handle h)
    exact ⟨lt e, _, ty, fr, e, rfl⟩
  · obtain ⟨cs, hh, hz, -⟩ := hs.1 1 #[.int .i64 0] 3 g7 (by kernel_rfl)
    obtain ⟨m, hm⟩ := cell_of_shapedOpen_int hs (g := 1) (t := 3) (zero := #[.int .i64 0]) (k := .i64) g7 (by kernel_rfl) rfl (by kernel_rfl) (by kernel_rfl) Tryz.underlying3
    refine ⟨lt hh, cs, 3, _, hh, m, ?_⟩
    obtain ⟨l⟩ := cs
    have hz : l.length = 1 := hz
    obtain ⟨v, rfl⟩ := List.length_eq_one_iff.1 hz
    simp [World.cell?, hh] at hm
    simp [hm]
  · obtain ⟨ty, fr, e⟩ := var_block (g := 2) (by kernel_rfl) (laid_tab h)
    refine ⟨lt e, _, ty, fr, e, ?_⟩
    simp [Lib.pow10Tab]
  · obtain ⟨t, p, hv⟩ := laid_syntax h
    obtain ⟨ty, fr, e⟩ := var_block (g := 3) (by kernel_rfl) hv
    exact ⟨lt e, _, ty, fr, e, t, p, rfl⟩
  · obtain ⟨t, p, hv⟩ := laid_range h
    obtain ⟨ty, fr, e⟩ := var_block (g := 4) (by kernel_rfl) hv
    exact ⟨lt e, _, ty, fr, e, t, p, rfl⟩

noncomputable def laid0 (os : Os) : World :=
  let w0 := World.holding Tryz.prog os ⟨#[], #[], []⟩
  { w0 with heap := w0.heap.modify 0 fun
      | .cells _ t frozen => .cells #[.iface 197 (.agg #[.pointer (some ⟨7, 112, none⟩)])] t frozen
      | o => o }
noncomputable def laidWorld (os : Os) : World := (laid0 os).layVars Tryz.prog laidD
theorem laidWorld_os (os : Os) : (laidWorld os).os = os := World.layVars_os _ _ _
theorem laidWorld_met (os : Os) (args : Array Value) : laidMetH Tryz.prog laidL ((laidWorld os).forCall (fun _ _ => 0) ⟨#[], args, []⟩).memory := by
  refine laidMetH_of_parts ?_ (by kernel_rfl)
  have e1 : (laidD.filter fun x => (laidD.map (·.1)).contains x.1) = laidD := List.filter_eq_self.2 fun x hx => List.contains_iff_mem.2 (List.mem_map.2 ⟨x, hx, rfl⟩)
  have e2 : (laidD.filter fun x => !(laidD.map (·.1)).contains x.1) = [] := List.filter_eq_nil_iff.2 fun x hx => by rw [List.contains_iff_mem.2 (List.mem_map.2 ⟨x, hx, rfl⟩)]; simp
  have h : laidMet Tryz.prog laidD (laidWorld os) := laidMet_layVars (w0 := laid0 os) (laidD.map (·.1)) [] (by rw [e1]; rfl) (by rw [e1]; kernel_rfl) (by rw [e1]; kernel_rfl) (by rw [e2]; exact LaidIn.none)
  exact h.of_heap (by simp [World.memory, World.forCall, Input.heap])
end Go.Proofs.YtbpjodikknbcoaaGreatDoor
