/-
  DERIVED: THE SHELF's CONTRACTS AT THIS DUMP, IN PLAIN WORDS (tools/lay-plain.mjs out of 'YtbplnjigoghboaaShelfB.lean', which tools/lay-shelf.mjs wrote): THE SAME DECLARATIONS UNDER THE SAME NAMES: 'import', 'namespace', 'open', 'def', 'theorem' AND NOTHING ELSE: no command of the shelf's: FOR A HAND-IN. Each laying: the table of numbers ('.._ren') and one theorem, a field a fact of the dump's own or the kernel's comparison; each contract: ONE APPLICATION.
-/
import Derived.Shelf.SlicesG.CompactI
import Derived.Shelf.SortG.Plain
import Derived.Shelf.SortG.SortNone
import Derived.Ground.SlgnProg
import Derived.Test.YtbplnjigoghboaaProg
namespace Go.Proofs
open Go.Shelf
def Try.sortI_ren : Go.Shelf.Ren := ⟨fun | 53 => 163 | 64 => 152 | 63 => 195 | 78 => 190 | 79 => 191 | 70 => 212 | 71 => 213 | 72 => 214 | 73 => 215 | 74 => 216 | 75 => 217 | 59 => 218 | 76 => 219 | 77 => 220 | 88 => 232 | 89 => 206 | 90 => 207 | 91 => 233 | 92 => 234 | 68 => 210 | 96 => 240 | n => n, fun | 22 => 33 | 23 => 3 | 3 => 3 | 51 => 127 | 0 => 0 | 67 => 153 | 69 => 138 | 4 => 4 | 61 => 147 | 60 => 146 | 44 => 109 | 5 => 5 | 9 => 9 | 75 => 173 | 79 => 177 | 83 => 190 | 84 => 69 | n => n, fun | n => n⟩
theorem Try.sortI : Go.Proofs.SlLaysN.n53 Try.prog Try.sortI_ren := {
  mixed := by kernel_rfl
  f53 := ⟨Try.f163.name, by decide, Try.func163.trans (congrArg some (by kernel_rfl))⟩
  f59 := ⟨Try.f218.name, by decide, Try.func218.trans (congrArg some (by kernel_rfl))⟩
  f63 := ⟨Try.f195.name, by decide, Try.func195.trans (congrArg some (by kernel_rfl))⟩
  f64 := Try.func152.trans (congrArg some (by kernel_rfl))
  f68 := ⟨Try.f210.name, by decide, Try.func210.trans (congrArg some (by kernel_rfl))⟩
  f70 := ⟨Try.f212.name, by decide, Try.func212.trans (congrArg some (by kernel_rfl))⟩
  f71 := ⟨Try.f213.name, by decide, Try.func213.trans (congrArg some (by kernel_rfl))⟩
  f72 := ⟨Try.f214.name, by decide, Try.func214.trans (congrArg some (by kernel_rfl))⟩
  f73 := ⟨Try.f215.name, by decide, Try.func215.trans (congrArg some (by kernel_rfl))⟩
  f74 := ⟨Try.f216.name, by decide, Try.func216.trans (congrArg some (by kernel_rfl))⟩
  f75 := ⟨Try.f217.name, by decide, Try.func217.trans (congrArg some (by kernel_rfl))⟩
  f76 := ⟨Try.f219.name, by decide, Try.func219.trans (congrArg some (by kernel_rfl))⟩
  f77 := ⟨Try.f220.name, by decide, Try.func220.trans (congrArg some (by kernel_rfl))⟩
  f78 := Try.func190.trans (congrArg some (by kernel_rfl))
  f79 := Try.func191.trans (congrArg some (by kernel_rfl))
  f88 := ⟨Try.f232.name, by decide, Try.func232.trans (congrArg some (by kernel_rfl))⟩
  f89 := Try.func206.trans (congrArg some (by kernel_rfl))
  f90 := Try.func207.trans (congrArg some (by kernel_rfl))
  f91 := ⟨Try.f233.name, by decide, Try.func233.trans (congrArg some (by kernel_rfl))⟩
  f92 := ⟨Try.f234.name, by decide, Try.func234.trans (congrArg some (by kernel_rfl))⟩
  f96 := ⟨Try.f240.name, by decide, Try.func240.trans (congrArg some (by kernel_rfl))⟩
  t0 := Try.underlying0
  a0 := Try.isAgg0
  z0 := Try.sizeOf0
  v0 := Try.zeroValue0
  t3 := Try.underlying3
  a3 := Try.isAgg3
  z3 := Try.sizeOf3
  v3 := Try.zeroValue3
  t4 := Try.underlying4
  a4 := Try.isAgg4
  z4 := Try.sizeOf4
  v4 := Try.zeroValue4
  t5 := Try.underlying5
  a5 := Try.isAgg5
  z5 := Try.sizeOf5
  v5 := Try.zeroValue5
  t9 := Try.underlying9
  a9 := Try.isAgg9
  z9 := Try.sizeOf9
  v9 := Try.zeroValue9
  t22 := Try.underlying33
  a22 := Try.isAgg33
  z22 := Try.sizeOf33
  v22 := Try.zeroValue33
  t23 := Try.underlying3
  a23 := Try.isAgg3
  z23 := Try.sizeOf3
  v23 := Try.zeroValue3
  t44 := Try.underlying109
  a44 := Try.isAgg109
  z44 := Try.sizeOf109
  v44 := Try.zeroValue109
  t51 := Try.underlying127
  a51 := Try.isAgg127
  z51 := Try.sizeOf127
  v51 := Try.zeroValue127
  t60 := Try.underlying146
  a60 := Try.isAgg146
  z60 := Try.sizeOf146
  v60 := Try.zeroValue146
  t61 := Try.underlying147
  a61 := Try.isAgg147
  z61 := Try.sizeOf147
  v61 := Try.zeroValue147
  t67 := Try.underlying153
  a67 := Try.isAgg153
  z67 := Try.sizeOf153
  v67 := Try.zeroValue153
  t69 := Try.underlying138
  a69 := Try.isAgg138
  z69 := Try.sizeOf138
  v69 := Try.zeroValue138
  t75 := Try.underlying173
  a75 := Try.isAgg173
  z75 := Try.sizeOf173
  v75 := Try.zeroValue173
  t79 := Try.underlying177
  a79 := Try.isAgg177
  z79 := Try.sizeOf177
  v79 := Try.zeroValue177
  t83 := Try.underlying190
  a83 := Try.isAgg190
  z83 := Try.sizeOf190
  v83 := Try.zeroValue190
  t84 := Try.underlying69
  a84 := Try.isAgg69
  z84 := Try.sizeOf69
  v84 := Try.zeroValue69 }
def Try.compI_ren : Go.Shelf.Ren := ⟨fun | 43 => 165 | n => n, fun | 22 => 33 | 23 => 3 | 3 => 3 | 4 => 4 | 0 => 0 | n => n, fun | n => n⟩
theorem Try.compI : Go.Proofs.SlLaysN.n43 Try.prog Try.compI_ren := {
  mixed := by kernel_rfl
  f43 := ⟨Try.f165.name, by decide, Try.func165.trans (congrArg some (by kernel_rfl))⟩
  t0 := Try.underlying0
  a0 := Try.isAgg0
  z0 := Try.sizeOf0
  v0 := Try.zeroValue0
  t3 := Try.underlying3
  a3 := Try.isAgg3
  z3 := Try.sizeOf3
  v3 := Try.zeroValue3
  t4 := Try.underlying4
  a4 := Try.isAgg4
  z4 := Try.sizeOf4
  v4 := Try.zeroValue4
  t22 := Try.underlying33
  a22 := Try.isAgg33
  z22 := Try.sizeOf33
  v22 := Try.zeroValue33
  t23 := Try.underlying3
  a23 := Try.isAgg3
  z23 := Try.sizeOf3
  v23 := Try.zeroValue3
  i23 := by kernel_rfl }
end Go.Proofs
