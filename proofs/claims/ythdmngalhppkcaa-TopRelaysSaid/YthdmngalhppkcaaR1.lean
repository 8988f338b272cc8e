/- The library's contract of sorting numbers, laid at this program. -/
import Derived.Test.YthdmngalhppkcaaBase
set_option linter.unusedVariables false
set_option linter.unusedSimpArgs false
namespace Go.Proofs.Ythdmngalhppkcaa
open Go Go.Pv Go.Shelf
def sortI_ren : Go.Shelf.Ren := ⟨fun | 53 => 84 | 64 => 93 | 63 => 92 | 78 => 108 | 79 => 109 | 70 => 99 | 71 => 100 | 72 => 101 | 73 => 102 | 74 => 103 | 75 => 104 | 59 => 105 | 76 => 106 | 77 => 107 | 88 => 110 | 89 => 111 | 90 => 112 | 91 => 113 | 92 => 114 | 68 => 115 | 96 => 116 | n => n, fun | 22 => 23 | 23 => 3 | 3 => 3 | 51 => 35 | 0 => 0 | 67 => 121 | 69 => 123 | 4 => 4 | 61 => 113 | 60 => 112 | 44 => 118 | 5 => 5 | 9 => 9 | 75 => 124 | 79 => 128 | 83 => 130 | 84 => 131 | n => n, fun | n => n⟩
theorem sortI : Go.Proofs.SlLaysN.n53 Try.prog sortI_ren := {
  mixed := by kernel_rfl
  f53 := ⟨Try.f84.name, by decide, Try.func84.trans (congrArg some (by kernel_rfl))⟩
  f59 := ⟨Try.f105.name, by decide, Try.func105.trans (congrArg some (by kernel_rfl))⟩
  f63 := ⟨Try.f92.name, by decide, Try.func92.trans (congrArg some (by kernel_rfl))⟩
  f64 := Try.func93.trans (congrArg some (by kernel_rfl))
  f68 := ⟨Try.f115.name, by decide, Try.func115.trans (congrArg some (by kernel_rfl))⟩
  f70 := ⟨Try.f99.name, by decide, Try.func99.trans (congrArg some (by kernel_rfl))⟩
  f71 := ⟨Try.f100.name, by decide, Try.func100.trans (congrArg some (by kernel_rfl))⟩
  f72 := ⟨Try.f101.name, by decide, Try.func101.trans (congrArg some (by kernel_rfl))⟩
  f73 := ⟨Try.f102.name, by decide, Try.func102.trans (congrArg some (by kernel_rfl))⟩
  f74 := ⟨Try.f103.name, by decide, Try.func103.trans (congrArg some (by kernel_rfl))⟩
  f75 := ⟨Try.f104.name, by decide, Try.func104.trans (congrArg some (by kernel_rfl))⟩
  f76 := ⟨Try.f106.name, by decide, Try.func106.trans (congrArg some (by kernel_rfl))⟩
  f77 := ⟨Try.f107.name, by decide, Try.func107.trans (congrArg some (by kernel_rfl))⟩
  f78 := Try.func108.trans (congrArg some (by kernel_rfl))
  f79 := Try.func109.trans (congrArg some (by kernel_rfl))
  f88 := ⟨Try.f110.name, by decide, Try.func110.trans (congrArg some (by kernel_rfl))⟩
  f89 := Try.func111.trans (congrArg some (by kernel_rfl))
  f90 := Try.func112.trans (congrArg some (by kernel_rfl))
  f91 := ⟨Try.f113.name, by decide, Try.func113.trans (congrArg some (by kernel_rfl))⟩
  f92 := ⟨Try.f114.name, by decide, Try.func114.trans (congrArg some (by kernel_rfl))⟩
  f96 := ⟨Try.f116.name, by decide, Try.func116.trans (congrArg some (by kernel_rfl))⟩
  t0 := Try.underlying0
  a0 := Try.isAgg0
  z0 := Try.sizeOf0
  v0 := Try.zeroValue0
  t3 := Try.underlying3
  a3 := Try.isAgg3
  z3 := Try.sizeOf3
  v3 := Try.zeroValue3
  t4 := Try.underlying4
  a4 := Try.isAgg4
  z4 := Try.sizeOf4
  v4 := Try.zeroValue4
  t5 := Try.underlying5
  a5 := Try.isAgg5
  z5 := Try.sizeOf5
  v5 := Try.zeroValue5
  t9 := Try.underlying9
  a9 := Try.isAgg9
  z9 := Try.sizeOf9
  v9 := Try.zeroValue9
  t22 := Try.underlying23
  a22 := Try.isAgg23
  z22 := Try.sizeOf23
  v22 := Try.zeroValue23
  t23 := Try.underlying3
  a23 := Try.isAgg3
  z23 := Try.sizeOf3
  v23 := Try.zeroValue3
  t44 := Try.underlying118
  a44 := Try.isAgg118
  z44 := Try.sizeOf118
  v44 := Try.zeroValue118
  t51 := Try.underlying35
  a51 := Try.isAgg35
  z51 := Try.sizeOf35
  v51 := Try.zeroValue35
  t60 := Try.underlying112
  a60 := Try.isAgg112
  z60 := Try.sizeOf112
  v60 := Try.zeroValue112
  t61 := Try.underlying113
  a61 := Try.isAgg113
  z61 := Try.sizeOf113
  v61 := Try.zeroValue113
  t67 := Try.underlying121
  a67 := Try.isAgg121
  z67 := Try.sizeOf121
  v67 := Try.zeroValue121
  t69 := Try.underlying123
  a69 := Try.isAgg123
  z69 := Try.sizeOf123
  v69 := Try.zeroValue123
  t75 := Try.underlying124
  a75 := Try.isAgg124
  z75 := Try.sizeOf124
  v75 := Try.zeroValue124
  t79 := Try.underlying128
  a79 := Try.isAgg128
  z79 := Try.sizeOf128
  v79 := Try.zeroValue128
  t83 := Try.underlying130
  a83 := Try.isAgg130
  z83 := Try.sizeOf130
  v83 := Try.zeroValue130
  t84 := Try.underlying131
  a84 := Try.isAgg131
  z84 := Try.sizeOf131
  v84 := Try.zeroValue131 }

set_option maxRecDepth 100000 in
theorem sort_ent : EntOk Try.prog 84 ⟨[(.own (.int .i64), true)], .nix, List Int, fun x => if x.1.length ≤ 1000 then some (isort leI x.1) else none, fun _ y => ((), (y, ())), false⟩ :=
  sortInt_ent sortI ⟨_, _, Try.func84, rfl, by kernel_rfl⟩
end Go.Proofs.Ythdmngalhppkcaa
