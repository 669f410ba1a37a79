/- The library's sort and compact at ints, over this program: the shelf's contracts (no body is walked here). -/
import Derived.Test.YtidgcfgkcidkiaaProg
import Derived.Shelf.Slices.In.SortAlone
import Derived.Shelf.Slices.In.SortNone
import Derived.Shelf.Slices.CompactI
namespace Go.Proofs.Ytidgcfgkcidkiaa.Ch
open Go Go.RowKit Go.Proofs Go.Shelf
set_option linter.unusedVariables false

def sortLays_ren : Ren := ⟨fun x => match x with | 189 => 40 | 125 => 77 | 257 => 76 | 128 => 99 | 129 => 100 | 294 => 90 | 295 => 91 | 296 => 92 | 297 => 93 | 298 => 94 | 299 => 95 | 216 => 96 | 300 => 97 | 301 => 98 | 328 => 109 | 329 => 110 | 330 => 111 | 331 => 112 | 332 => 113 | 215 => 114 | 343 => 118 | n => n, fun x => match x with | 28 => 38 | 3 => 3 | 46 => 124 | 0 => 0 | 51 => 145 | 53 => 22 | 4 => 4 | 183 => 138 | 182 => 137 | 131 => 142 | 5 => 5 | 9 => 9 | 218 => 158 | 222 => 162 | 228 => 167 | 229 => 168 | n => n, fun n => n⟩
theorem sortLays : Lays.n189 Try.prog sortLays_ren where
  mixed := by kernel_rfl
  f125 := (Try.func77).trans (congrArg some rfl)
  f128 := (Try.func99).trans (congrArg some rfl)
  f129 := (Try.func100).trans (congrArg some rfl)
  f189 := (Try.func40).trans (congrArg some rfl)
  f215 := (Try.func114).trans (congrArg some rfl)
  f216 := (Try.func96).trans (congrArg some rfl)
  f257 := (Try.func76).trans (congrArg some rfl)
  f294 := (Try.func90).trans (congrArg some rfl)
  f295 := (Try.func91).trans (congrArg some rfl)
  f296 := (Try.func92).trans (congrArg some rfl)
  f297 := (Try.func93).trans (congrArg some rfl)
  f298 := (Try.func94).trans (congrArg some rfl)
  f299 := (Try.func95).trans (congrArg some rfl)
  f300 := (Try.func97).trans (congrArg some rfl)
  f301 := (Try.func98).trans (congrArg some rfl)
  f328 := (Try.func109).trans (congrArg some rfl)
  f329 := (Try.func110).trans (congrArg some rfl)
  f330 := (Try.func111).trans (congrArg some rfl)
  f331 := (Try.func112).trans (congrArg some rfl)
  f332 := (Try.func113).trans (congrArg some rfl)
  f343 := (Try.func118).trans (congrArg some rfl)
  t0 := Try.underlying0
  a0 := Try.isAgg0
  z0 := Try.sizeOf0
  v0 := Try.zeroValue0
  t3 := Try.underlying3
  a3 := Try.isAgg3
  z3 := Try.sizeOf3
  v3 := Try.zeroValue3
  t4 := Try.underlying4
  a4 := Try.isAgg4
  z4 := Try.sizeOf4
  v4 := Try.zeroValue4
  t5 := Try.underlying5
  a5 := Try.isAgg5
  z5 := Try.sizeOf5
  v5 := Try.zeroValue5
  t9 := Try.underlying9
  a9 := Try.isAgg9
  z9 := Try.sizeOf9
  v9 := Try.zeroValue9
  t28 := Try.underlying38
  a28 := Try.isAgg38
  z28 := Try.sizeOf38
  v28 := Try.zeroValue38
  t46 := Try.underlying124
  a46 := Try.isAgg124
  z46 := Try.sizeOf124
  v46 := Try.zeroValue124
  t51 := Try.underlying145
  a51 := Try.isAgg145
  z51 := Try.sizeOf145
  v51 := Try.zeroValue145
  t53 := Try.underlying22
  a53 := Try.isAgg22
  z53 := Try.sizeOf22
  v53 := Try.zeroValue22
  t131 := Try.underlying142
  a131 := Try.isAgg142
  z131 := Try.sizeOf142
  v131 := Try.zeroValue142
  t182 := Try.underlying137
  a182 := Try.isAgg137
  z182 := Try.sizeOf137
  v182 := Try.zeroValue137
  t183 := Try.underlying138
  a183 := Try.isAgg138
  z183 := Try.sizeOf138
  v183 := Try.zeroValue138
  t218 := Try.underlying158
  a218 := Try.isAgg158
  z218 := Try.sizeOf158
  v218 := Try.zeroValue158
  t222 := Try.underlying162
  a222 := Try.isAgg162
  z222 := Try.sizeOf162
  v222 := Try.zeroValue162
  t228 := Try.underlying167
  a228 := Try.isAgg167
  z228 := Try.sizeOf167
  v228 := Try.zeroValue167
  t229 := Try.underlying168
  a229 := Try.isAgg168
  z229 := Try.sizeOf168
  v229 := Try.zeroValue168
def compactLays_ren : Ren := ⟨fun x => match x with | 20 => 41 | n => n, fun x => match x with | 22 => 38 | 3 => 3 | 4 => 4 | 0 => 0 | n => n, fun n => n⟩
theorem compactLays : Lays2.n20 Try.prog compactLays_ren where
  mixed := by kernel_rfl
  f20 := (Try.func41).trans (congrArg some rfl)
  t0 := Try.underlying0
  a0 := Try.isAgg0
  z0 := Try.sizeOf0
  v0 := Try.zeroValue0
  t3 := Try.underlying3
  a3 := Try.isAgg3
  z3 := Try.sizeOf3
  v3 := Try.zeroValue3
  t4 := Try.underlying4
  a4 := Try.isAgg4
  z4 := Try.sizeOf4
  v4 := Try.zeroValue4
  t22 := Try.underlying38
  a22 := Try.isAgg38
  z22 := Try.sizeOf38
  v22 := Try.zeroValue38
  i3 := by kernel_rfl
end Go.Proofs.Ytidgcfgkcidkiaa.Ch
