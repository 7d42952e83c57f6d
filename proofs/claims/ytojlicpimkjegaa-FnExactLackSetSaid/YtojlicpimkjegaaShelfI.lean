/-
  DERIVED: THE SHELF's CONTRACTS AT THIS DUMP, IN PLAIN WORDS (tools/lay-plain.mjs out of 'YtojlicpimkjegaaShelfB.lean', which tools/lay-shelf.mjs wrote): THE SAME DECLARATIONS UNDER THE SAME NAMES: 'import', 'namespace', 'open', 'def', 'theorem' AND NOTHING ELSE: no command of the shelf's: FOR A HAND-IN. Each laying: the table of numbers ('.._ren') and one theorem, a field a fact of the dump's own or the kernel's comparison; each contract: ONE APPLICATION.
-/
import Derived.Shelf.SlicesG.CompactI
import Derived.Shelf.SortG.Plain
import Derived.Shelf.SortG.SortNone
import Derived.Ground.SlgnProg
import Derived.Test.YtojlicpimkjegaaProg
namespace Go.Proofs
open Go.Shelf
def Try.sortI_ren : Go.Shelf.Ren := ⟨fun | 53 => 103 | 64 => 126 | 63 => 125 | 78 => 147 | 79 => 148 | 70 => 138 | 71 => 139 | 72 => 140 | 73 => 141 | 74 => 142 | 75 => 143 | 59 => 144 | 76 => 145 | 77 => 146 | 88 => 169 | 89 => 170 | 90 => 171 | 91 => 172 | 92 => 173 | 68 => 157 | 96 => 180 | n => n, fun | 22 => 25 | 23 => 3 | 3 => 3 | 51 => 92 | 0 => 0 | 67 => 107 | 69 => 90 | 4 => 4 | 61 => 117 | 60 => 116 | 44 => 122 | 5 => 5 | 9 => 9 | 75 => 135 | 79 => 139 | 83 => 145 | 84 => 103 | n => n, fun | n => n⟩
theorem Try.sortI : Go.Proofs.SlLaysN.n53 Try.prog Try.sortI_ren := {
  mixed := by kernel_rfl
  f53 := ⟨Try.f103.name, by decide, Try.func103.trans (congrArg some (by kernel_rfl))⟩
  f59 := ⟨Try.f144.name, by decide, Try.func144.trans (congrArg some (by kernel_rfl))⟩
  f63 := ⟨Try.f125.name, by decide, Try.func125.trans (congrArg some (by kernel_rfl))⟩
  f64 := Try.func126.trans (congrArg some (by kernel_rfl))
  f68 := ⟨Try.f157.name, by decide, Try.func157.trans (congrArg some (by kernel_rfl))⟩
  f70 := ⟨Try.f138.name, by decide, Try.func138.trans (congrArg some (by kernel_rfl))⟩
  f71 := ⟨Try.f139.name, by decide, Try.func139.trans (congrArg some (by kernel_rfl))⟩
  f72 := ⟨Try.f140.name, by decide, Try.func140.trans (congrArg some (by kernel_rfl))⟩
  f73 := ⟨Try.f141.name, by decide, Try.func141.trans (congrArg some (by kernel_rfl))⟩
  f74 := ⟨Try.f142.name, by decide, Try.func142.trans (congrArg some (by kernel_rfl))⟩
  f75 := ⟨Try.f143.name, by decide, Try.func143.trans (congrArg some (by kernel_rfl))⟩
  f76 := ⟨Try.f145.name, by decide, Try.func145.trans (congrArg some (by kernel_rfl))⟩
  f77 := ⟨Try.f146.name, by decide, Try.func146.trans (congrArg some (by kernel_rfl))⟩
  f78 := Try.func147.trans (congrArg some (by kernel_rfl))
  f79 := Try.func148.trans (congrArg some (by kernel_rfl))
  f88 := ⟨Try.f169.name, by decide, Try.func169.trans (congrArg some (by kernel_rfl))⟩
  f89 := Try.func170.trans (congrArg some (by kernel_rfl))
  f90 := Try.func171.trans (congrArg some (by kernel_rfl))
  f91 := ⟨Try.f172.name, by decide, Try.func172.trans (congrArg some (by kernel_rfl))⟩
  f92 := ⟨Try.f173.name, by decide, Try.func173.trans (congrArg some (by kernel_rfl))⟩
  f96 := ⟨Try.f180.name, by decide, Try.func180.trans (congrArg some (by kernel_rfl))⟩
  t0 := Try.underlying0
  a0 := Try.isAgg0
  z0 := Try.sizeOf0
  v0 := Try.zeroValue0
  t3 := Try.underlying3
  a3 := Try.isAgg3
  z3 := Try.sizeOf3
  v3 := Try.zeroValue3
  t4 := Try.underlying4
  a4 := Try.isAgg4
  z4 := Try.sizeOf4
  v4 := Try.zeroValue4
  t5 := Try.underlying5
  a5 := Try.isAgg5
  z5 := Try.sizeOf5
  v5 := Try.zeroValue5
  t9 := Try.underlying9
  a9 := Try.isAgg9
  z9 := Try.sizeOf9
  v9 := Try.zeroValue9
  t22 := Try.underlying25
  a22 := Try.isAgg25
  z22 := Try.sizeOf25
  v22 := Try.zeroValue25
  t23 := Try.underlying3
  a23 := Try.isAgg3
  z23 := Try.sizeOf3
  v23 := Try.zeroValue3
  t44 := Try.underlying122
  a44 := Try.isAgg122
  z44 := Try.sizeOf122
  v44 := Try.zeroValue122
  t51 := Try.underlying92
  a51 := Try.isAgg92
  z51 := Try.sizeOf92
  v51 := Try.zeroValue92
  t60 := Try.underlying116
  a60 := Try.isAgg116
  z60 := Try.sizeOf116
  v60 := Try.zeroValue116
  t61 := Try.underlying117
  a61 := Try.isAgg117
  z61 := Try.sizeOf117
  v61 := Try.zeroValue117
  t67 := Try.underlying107
  a67 := Try.isAgg107
  z67 := Try.sizeOf107
  v67 := Try.zeroValue107
  t69 := Try.underlying90
  a69 := Try.isAgg90
  z69 := Try.sizeOf90
  v69 := Try.zeroValue90
  t75 := Try.underlying135
  a75 := Try.isAgg135
  z75 := Try.sizeOf135
  v75 := Try.zeroValue135
  t79 := Try.underlying139
  a79 := Try.isAgg139
  z79 := Try.sizeOf139
  v79 := Try.zeroValue139
  t83 := Try.underlying145
  a83 := Try.isAgg145
  z83 := Try.sizeOf145
  v83 := Try.zeroValue145
  t84 := Try.underlying103
  a84 := Try.isAgg103
  z84 := Try.sizeOf103
  v84 := Try.zeroValue103 }
def Try.compI_ren : Go.Shelf.Ren := ⟨fun | 43 => 105 | n => n, fun | 22 => 25 | 23 => 3 | 3 => 3 | 4 => 4 | 0 => 0 | n => n, fun | n => n⟩
theorem Try.compI : Go.Proofs.SlLaysN.n43 Try.prog Try.compI_ren := {
  mixed := by kernel_rfl
  f43 := ⟨Try.f105.name, by decide, Try.func105.trans (congrArg some (by kernel_rfl))⟩
  t0 := Try.underlying0
  a0 := Try.isAgg0
  z0 := Try.sizeOf0
  v0 := Try.zeroValue0
  t3 := Try.underlying3
  a3 := Try.isAgg3
  z3 := Try.sizeOf3
  v3 := Try.zeroValue3
  t4 := Try.underlying4
  a4 := Try.isAgg4
  z4 := Try.sizeOf4
  v4 := Try.zeroValue4
  t22 := Try.underlying25
  a22 := Try.isAgg25
  z22 := Try.sizeOf25
  v22 := Try.zeroValue25
  t23 := Try.underlying3
  a23 := Try.isAgg3
  z23 := Try.sizeOf3
  v23 := Try.zeroValue3
  i23 := by kernel_rfl }
end Go.Proofs
