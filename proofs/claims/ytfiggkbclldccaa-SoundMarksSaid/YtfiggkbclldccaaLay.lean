import Derived.Shelf.SlIterI.Nil
import Derived.Shelf.SortM.Plain
import Derived.Shelf.SortM.SortNone
import Derived.Ground.GgzProg
import Derived.Ground.SlgmProg
import Derived.Test.YtfiggkbclldccaaProg
/-
  DERIVED: THE SHELF's CONTRACTS AT THIS DUMP, IN PLAIN WORDS (tools/lay-plain.mjs out of 'YtfiggkbclldccaaLayTry.lean', which tools/lay-shelf.mjs wrote): THE SAME DECLARATIONS UNDER THE SAME NAMES: 'import', 'namespace', 'open', 'def', 'theorem' AND NOTHING ELSE: no command of the shelf's: FOR A HAND-IN. Each laying: the table of numbers ('.._ren') and one theorem, a field a fact of the dump's own or the kernel's comparison; each contract: ONE APPLICATION.
-/
namespace Go.Proofs
open Go.Shelf
def Try.keys116_ren : Go.Shelf.Ren := ⟨fun | 7 => 116 | 10 => 133 | n => n, fun | 23 => 157 | 26 => 3 | 3 => 4 | 28 => 163 | 0 => 0 | 27 => 162 | 33 => 113 | 4 => 4 | n => n, fun | n => n⟩
def Try.keys127_ren : Go.Shelf.Ren := ⟨fun | 7 => 127 | 10 => 140 | n => n, fun | 23 => 151 | 26 => 3 | 3 => 3 | 28 => 163 | 0 => 0 | 27 => 162 | 33 => 113 | 4 => 4 | n => n, fun | n => n⟩
theorem Try.keys127 : Go.Proofs.SlLaysZI.n7 Try.prog Try.keys127_ren := {
  mixed := by kernel_rfl
  f7 := ⟨Try.f127.name, by decide, Try.func127.trans (congrArg some (by kernel_rfl))⟩
  f10 := ⟨Try.f140.name, by decide, Try.func140.trans (congrArg some (by kernel_rfl))⟩
  t0 := Try.underlying0
  a0 := Try.isAgg0
  z0 := Try.sizeOf0
  v0 := Try.zeroValue0
  t4 := Try.underlying4
  a4 := Try.isAgg4
  z4 := Try.sizeOf4
  v4 := Try.zeroValue4
  t23 := Try.underlying151
  a23 := Try.isAgg151
  z23 := Try.sizeOf151
  v23 := Try.zeroValue151
  t26 := Try.underlying3
  a26 := Try.isAgg3
  z26 := Try.sizeOf3
  v26 := Try.zeroValue3
  t27 := Try.underlying162
  a27 := Try.isAgg162
  z27 := Try.sizeOf162
  v27 := Try.zeroValue162
  t28 := Try.underlying163
  a28 := Try.isAgg163
  z28 := Try.sizeOf163
  v28 := Try.zeroValue163
  t33 := Try.underlying113
  a33 := Try.isAgg113
  z33 := Try.sizeOf113
  v33 := Try.zeroValue113 }
def Try.sortedInt_ren : Go.Shelf.Ren := ⟨fun | 6 => 115 | 8 => 131 | 9 => 132 | 11 => 143 | 13 => 145 | 12 => 144 | 23 => 162 | 24 => 163 | 14 => 153 | 15 => 154 | 16 => 155 | 17 => 156 | 18 => 157 | 19 => 158 | 20 => 159 | 21 => 160 | 22 => 161 | 25 => 164 | 26 => 165 | 27 => 166 | 28 => 167 | 29 => 168 | 30 => 169 | 31 => 170 | n => n, fun | 26 => 3 | 28 => 163 | 24 => 25 | 0 => 0 | 3 => 3 | 37 => 123 | 48 => 196 | 50 => 50 | 4 => 4 | 40 => 190 | 39 => 189 | 45 => 140 | 5 => 5 | 9 => 9 | 51 => 198 | 55 => 201 | 57 => 203 | 58 => 204 | 33 => 113 | n => n, fun | n => n⟩
theorem Try.sortedInt : Go.Proofs.SlLaysZI.n6 Try.prog Try.sortedInt_ren := {
  mixed := by kernel_rfl
  f6 := ⟨Try.f115.name, by decide, Try.func115.trans (congrArg some (by kernel_rfl))⟩
  f8 := ⟨Try.f131.name, by decide, Try.func131.trans (congrArg some (by kernel_rfl))⟩
  f11 := ⟨Try.f143.name, by decide, Try.func143.trans (congrArg some (by kernel_rfl))⟩
  t0 := Try.underlying0
  a0 := Try.isAgg0
  z0 := Try.sizeOf0
  v0 := Try.zeroValue0
  t24 := Try.underlying25
  a24 := Try.isAgg25
  z24 := Try.sizeOf25
  v24 := Try.zeroValue25
  t26 := Try.underlying3
  a26 := Try.isAgg3
  z26 := Try.sizeOf3
  v26 := Try.zeroValue3
  t28 := Try.underlying163
  a28 := Try.isAgg163
  z28 := Try.sizeOf163
  v28 := Try.zeroValue163
  i26 := by kernel_rfl }
def Try.sortInt_ren : Go.Shelf.Ren := ⟨fun | 5 => 132 | 8 => 145 | 7 => 144 | 19 => 162 | 20 => 163 | 10 => 153 | 11 => 154 | 12 => 155 | 13 => 156 | 14 => 157 | 15 => 158 | 16 => 159 | 17 => 160 | 18 => 161 | 30 => 164 | 31 => 165 | 32 => 166 | 33 => 167 | 34 => 168 | 35 => 169 | 40 => 170 | n => n, fun | 23 => 25 | 25 => 3 | 3 => 3 | 32 => 123 | 22 => 25 | 0 => 0 | 44 => 196 | 46 => 50 | 4 => 4 | 36 => 190 | 35 => 189 | 41 => 140 | 5 => 5 | 9 => 9 | 53 => 198 | 57 => 201 | 63 => 203 | 64 => 204 | n => n, fun | n => n⟩
theorem Try.sortInt : Go.Proofs.SlLaysM.n5 Try.prog Try.sortInt_ren := {
  mixed := by kernel_rfl
  f5 := ⟨Try.f132.name, by decide, Try.func132.trans (congrArg some (by kernel_rfl))⟩
  f7 := ⟨Try.f144.name, by decide, Try.func144.trans (congrArg some (by kernel_rfl))⟩
  f8 := Try.func145.trans (congrArg some (by kernel_rfl))
  f10 := ⟨Try.f153.name, by decide, Try.func153.trans (congrArg some (by kernel_rfl))⟩
  f11 := ⟨Try.f154.name, by decide, Try.func154.trans (congrArg some (by kernel_rfl))⟩
  f12 := ⟨Try.f155.name, by decide, Try.func155.trans (congrArg some (by kernel_rfl))⟩
  f13 := ⟨Try.f156.name, by decide, Try.func156.trans (congrArg some (by kernel_rfl))⟩
  f14 := ⟨Try.f157.name, by decide, Try.func157.trans (congrArg some (by kernel_rfl))⟩
  f15 := ⟨Try.f158.name, by decide, Try.func158.trans (congrArg some (by kernel_rfl))⟩
  f16 := ⟨Try.f159.name, by decide, Try.func159.trans (congrArg some (by kernel_rfl))⟩
  f17 := ⟨Try.f160.name, by decide, Try.func160.trans (congrArg some (by kernel_rfl))⟩
  f18 := ⟨Try.f161.name, by decide, Try.func161.trans (congrArg some (by kernel_rfl))⟩
  f19 := Try.func162.trans (congrArg some (by kernel_rfl))
  f20 := Try.func163.trans (congrArg some (by kernel_rfl))
  f30 := ⟨Try.f164.name, by decide, Try.func164.trans (congrArg some (by kernel_rfl))⟩
  f31 := Try.func165.trans (congrArg some (by kernel_rfl))
  f32 := Try.func166.trans (congrArg some (by kernel_rfl))
  f33 := ⟨Try.f167.name, by decide, Try.func167.trans (congrArg some (by kernel_rfl))⟩
  f34 := ⟨Try.f168.name, by decide, Try.func168.trans (congrArg some (by kernel_rfl))⟩
  f35 := ⟨Try.f169.name, by decide, Try.func169.trans (congrArg some (by kernel_rfl))⟩
  f40 := ⟨Try.f170.name, by decide, Try.func170.trans (congrArg some (by kernel_rfl))⟩
  t0 := Try.underlying0
  a0 := Try.isAgg0
  z0 := Try.sizeOf0
  v0 := Try.zeroValue0
  t3 := Try.underlying3
  a3 := Try.isAgg3
  z3 := Try.sizeOf3
  v3 := Try.zeroValue3
  t4 := Try.underlying4
  a4 := Try.isAgg4
  z4 := Try.sizeOf4
  v4 := Try.zeroValue4
  t5 := Try.underlying5
  a5 := Try.isAgg5
  z5 := Try.sizeOf5
  v5 := Try.zeroValue5
  t9 := Try.underlying9
  a9 := Try.isAgg9
  z9 := Try.sizeOf9
  v9 := Try.zeroValue9
  t22 := Try.underlying25
  a22 := Try.isAgg25
  z22 := Try.sizeOf25
  v22 := Try.zeroValue25
  t23 := Try.underlying25
  a23 := Try.isAgg25
  z23 := Try.sizeOf25
  v23 := Try.zeroValue25
  t25 := Try.underlying3
  a25 := Try.isAgg3
  z25 := Try.sizeOf3
  v25 := Try.zeroValue3
  t32 := Try.underlying123
  a32 := Try.isAgg123
  z32 := Try.sizeOf123
  v32 := Try.zeroValue123
  t35 := Try.underlying189
  a35 := Try.isAgg189
  z35 := Try.sizeOf189
  v35 := Try.zeroValue189
  t36 := Try.underlying190
  a36 := Try.isAgg190
  z36 := Try.sizeOf190
  v36 := Try.zeroValue190
  t41 := Try.underlying140
  a41 := Try.isAgg140
  z41 := Try.sizeOf140
  v41 := Try.zeroValue140
  t44 := Try.underlying196
  a44 := Try.isAgg196
  z44 := Try.sizeOf196
  v44 := Try.zeroValue196
  t46 := Try.underlying50
  a46 := Try.isAgg50
  z46 := Try.sizeOf50
  v46 := Try.zeroValue50
  t53 := Try.underlying198
  a53 := Try.isAgg198
  z53 := Try.sizeOf198
  v53 := Try.zeroValue198
  t57 := Try.underlying201
  a57 := Try.isAgg201
  z57 := Try.sizeOf201
  v57 := Try.zeroValue201
  t63 := Try.underlying203
  a63 := Try.isAgg203
  z63 := Try.sizeOf203
  v63 := Try.zeroValue203
  t64 := Try.underlying204
  a64 := Try.isAgg204
  z64 := Try.sizeOf204
  v64 := Try.zeroValue204 }
end Go.Proofs
