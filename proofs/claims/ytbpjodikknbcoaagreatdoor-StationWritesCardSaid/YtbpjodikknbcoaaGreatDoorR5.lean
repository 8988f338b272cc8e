/- strings.Cut at a separator of one byte, at texts of any length. -/
import Derived.Test.YtbpjodikknbcoaaGreatDoorR4
import Derived.Shelf.Strings.Cut
import Derived.Shelf.Strings.Search2
import Derived.Lib.IndexBytes
set_option maxRecDepth 100000
set_option linter.unusedVariables false
set_option linter.unusedSimpArgs false
namespace Go.Proofs.YtbpjodikknbcoaaGreatDoor.OneCut
open Go Go.Proofs Go.Shelf Go.RowKit Go.Lib
variable {P : Program} {ρ : Ren}
set_option maxHeartbeats 2000000 in
theorem slCut_one (L : Lays.n220 P ρ) (s : ByteArray) (c : UInt8) (w : World) (hs : s.size ≤ 9223372036854775807) :
    Calls P (ρ.f 220) #[.string s, .string ⟨#[c]⟩] w fun e w' => e = .returned (.tuple #[.string ⟨(Lib.cut s.data.toList [c]).1.toArray⟩, .string ⟨(Lib.cut s.data.toList [c]).2.1.toArray⟩, .bool (Lib.cut s.data.toList [c]).2.2]) ∧ ∃ n, w' = w.drewN n := by
  rcases Lib.indexB_cases s ⟨#[c]⟩ with hix | ⟨i, hix, hroom⟩
  · obtain ⟨e1, e2, e3⟩ := Lib.cutB_miss s ⟨#[c]⟩ hix
    have e1 : (⟨(Lib.cut s.data.toList [c]).1.toArray⟩ : ByteArray) = s := e1
    have e2 : (⟨(Lib.cut s.data.toList [c]).2.1.toArray⟩ : ByteArray) = ByteArray.empty := e2
    have e3 : (Lib.cut s.data.toList [c]).2.2 = false := e3
    rw [e1, e2, e3]
    have hix : Lib.index s.data.toList [c] = _ := hix
    rw [Lib.index_one] at hix
    have t3 := L.t3; have t4 := L.t4; have t9 := L.t9
    have a3 : ∀ w, (isAgg (ρ.t 3)).run P w = .ok false w := run_isAgg_plain L.t3 rfl; have a4 : ∀ w, (isAgg (ρ.t 4)).run P w = .ok false w := run_isAgg_plain L.t4 rfl; have a9 : ∀ w, (isAgg (ρ.t 9)).run P w = .ok false w := run_isAgg_plain L.t9 rfl
    have e219 : ∀ args w, (callFunc (ρ.f 219) args).run P w = .ok (.enter (ρ.f 219) args) w := enters_of L.f219 (by kernel_rfl) rfl
    have mixed := L.mixed; have z3 := L.z3; have v3 := L.v3; have z4 := L.z4; have v4 := L.v4; have z9 := L.z9; have v9 := L.v9
    go_enter L.f220, Body.n220_ntmps ρ
    go_wp2_with (go_at_fn (ρ.f 219); refine (Any.stringslite_Index_one { L with } s c _).mono ?_; rintro e w' ⟨rfl, rfl⟩; rw [hix])
    go_ret3
    exact ⟨rfl, 0, rfl⟩
  · obtain ⟨e1, e2, e3⟩ := Lib.cutB_hit s ⟨#[c]⟩ i hix
    have e1 : (⟨(Lib.cut s.data.toList [c]).1.toArray⟩ : ByteArray) = _ := e1
    have e2 : (⟨(Lib.cut s.data.toList [c]).2.1.toArray⟩ : ByteArray) = _ := e2
    have e3 : (Lib.cut s.data.toList [c]).2.2 = true := e3
    rw [e1, e2, e3]
    have hix : Lib.index s.data.toList [c] = _ := hix
    rw [Lib.index_one] at hix
    have hsz : (⟨#[c]⟩ : ByteArray).size = 1 := rfl
    have c1 : (0 : Int) ≤ ↑i := by omega
    have c2 : (↑i : Int) ≤ ↑s.size := by omega
    have c3 : (0 : Int) ≤ ↑i + 1 := by omega
    have c4 : (↑i + 1 : Int) ≤ ↑s.size := by omega
    have c5 : (↑s.size : Int) ≤ 9223372036854775807 := by omega
    have t3 := L.t3; have t4 := L.t4; have t9 := L.t9
    have a3 : ∀ w, (isAgg (ρ.t 3)).run P w = .ok false w := run_isAgg_plain L.t3 rfl; have a4 : ∀ w, (isAgg (ρ.t 4)).run P w = .ok false w := run_isAgg_plain L.t4 rfl; have a9 : ∀ w, (isAgg (ρ.t 9)).run P w = .ok false w := run_isAgg_plain L.t9 rfl
    have e219 : ∀ args w, (callFunc (ρ.f 219) args).run P w = .ok (.enter (ρ.f 219) args) w := enters_of L.f219 (by kernel_rfl) rfl
    have mixed := L.mixed; have z3 := L.z3; have v3 := L.v3; have z4 := L.z4; have v4 := L.v4; have z9 := L.z9; have v9 := L.v9
    go_enter L.f220, Body.n220_ntmps ρ
    go_wp2_with (go_at_fn (ρ.f 219); refine (Any.stringslite_Index_one { L with } s c _).mono ?_; rintro e w' ⟨rfl, rfl⟩; rw [hix])
    go_region_o
    go_wp2
    go_ret3
    exact ⟨rfl, 1, rfl⟩
set_option maxHeartbeats 1000000 in
theorem cut_one (L : Lays.n145 P ρ) (s : ByteArray) (c : UInt8) (w : World) (hs : s.size ≤ 9223372036854775807) :
    Calls P (ρ.f 145) #[.string s, .string ⟨#[c]⟩] w fun e w' => e = .returned (.tuple #[.string ⟨(Lib.cut s.data.toList [c]).1.toArray⟩, .string ⟨(Lib.cut s.data.toList [c]).2.1.toArray⟩, .bool (Lib.cut s.data.toList [c]).2.2]) ∧ ∃ n, w' = w.drewN n := by
  have t4 := L.t4; have t9 := L.t9; have t59 := L.t59
  have a4 : ∀ w, (isAgg (ρ.t 4)).run P w = .ok false w := run_isAgg_plain L.t4 rfl; have a9 : ∀ w, (isAgg (ρ.t 9)).run P w = .ok false w := run_isAgg_plain L.t9 rfl; have a59 : ∀ w, (isAgg (ρ.t 59)).run P w = .ok false w := run_isAgg_plain L.t59 rfl
  have e220 : ∀ args w, (callFunc (ρ.f 220) args).run P w = .ok (.enter (ρ.f 220) args) w := enters_of L.f220 (by kernel_rfl) rfl
  have mixed := L.mixed; have z4 := L.z4; have v4 := L.v4; have z9 := L.z9; have v9 := L.v9; have z59 := L.z59; have v59 := L.v59
  go_enter L.f145, Body.n145_ntmps ρ
  go_wp2_with (go_at_fn (ρ.f 220); refine (slCut_one { L with } s c _ hs).mono ?_; rintro e w' ⟨rfl, n, rfl⟩)
  go_ret3
  exact ⟨rfl, n, rfl⟩
end Go.Proofs.YtbpjodikknbcoaaGreatDoor.OneCut
namespace Go.Proofs.YtbpjodikknbcoaaGreatDoor
open Go Go.Pv Go.RowKit
theorem cut_entU : EntOk Tryz.prog 64 ⟨[(.dat .str, false), (.dat .str, false)], .cons (.dat .str) (.cons (.dat .str) (.cons (.dat .bool) .un)), ByteArray × ByteArray × Bool,
    fun x => if (x.1 : ByteArray).size < 4294967281 ∨ ((x.2.1 : ByteArray).size = 1 ∧ (x.1 : ByteArray).size ≤ 9223372036854775807) then some (⟨(Lib.cut (x.1 : ByteArray).data.toList (x.2.1 : ByteArray).data.toList).1.toArray⟩, ⟨(Lib.cut (x.1 : ByteArray).data.toList (x.2.1 : ByteArray).data.toList).2.1.toArray⟩, (Lib.cut (x.1 : ByteArray).data.toList (x.2.1 : ByteArray).data.toList).2.2) else none,
    fun _ => (fun y => ((y.1, y.2.1, y.2.2, ()), ())), false⟩ := by
  refine ⟨⟨_, _, Tryz.func64, rfl, by kernel_rfl⟩, ?_⟩
  rintro S w vs ⟨x1, x2, u⟩ bs y ho ⟨v, r, b1, b2, rfl, rfl, ⟨h1, rfl⟩, v2, r2, b3, b4, rfl, rfl, ⟨h2, rfl⟩, rfl, rfl⟩ hy
  have h1 : [v] = [Value.string x1] := h1
  have h2 : [v2] = [Value.string x2] := h2
  cases h1
  cases h2
  obtain ⟨hc, rfl⟩ := ob_if hy
  rcases hc with hc | ⟨h1, h2⟩
  · obtain ⟨m, hm⟩ := gl_max ho.gl
    refine (Any.strings_Cut cutL x1 x2 m w hc hm).mono ?_
    rintro e w' ⟨rfl, n, rfl⟩
    exact ⟨S, [], [], ran_below ho (below_drewN _ w n), ⟨_, rfl, _, _, [], [], rfl, rfl, ⟨rfl, rfl⟩, _, _, [], [], rfl, rfl, ⟨rfl, rfl⟩, _, _, [], [], rfl, rfl, ⟨rfl, rfl⟩, rfl, rfl⟩, _, _, [], [], rfl, rfl, ⟨rfl, rfl⟩, _, _, [], [], rfl, rfl, ⟨rfl, rfl⟩, rfl, rfl⟩
  · obtain ⟨⟨x2⟩⟩ := x2
    match x2, h1 with
    | [c], h1 =>
      refine (OneCut.cut_one cutL x1 c w h2).mono ?_
      rintro e w' ⟨rfl, n, rfl⟩
      exact ⟨S, [], [], ran_below ho (below_drewN _ w n), ⟨_, rfl, _, _, [], [], rfl, rfl, ⟨rfl, rfl⟩, _, _, [], [], rfl, rfl, ⟨rfl, rfl⟩, _, _, [], [], rfl, rfl, ⟨rfl, rfl⟩, rfl, rfl⟩, _, _, [], [], rfl, rfl, ⟨rfl, rfl⟩, _, _, [], [], rfl, rfl, ⟨rfl, rfl⟩, rfl, rfl⟩
    | [], h1 => cases h1
    | _ :: _ :: _, h1 => cases h1
end Go.Proofs.YtbpjodikknbcoaaGreatDoor
