/- Texts of this proof, one behind the other. -/
import Derived.Shelf.Strings.Search3
import Derived.Shelf.Strings.Cut
import Derived.Shelf.Unicode.ValidAny
import Derived.Shelf.Strings.SlTrimAscii
import Derived.Shelf.Strconv.ToError
import Derived.Shelf.Strconv.ToErrorRange
import Derived.Shelf.Small.Utf8
import Derived.Shelf.Strings.Builder1
import Derived.Test.YtfelfpjfjjgmoaaDoorProg
import Derived.Test.YtfelfpjfjjgmoaaDoorWWords
import Derived.WalkKit
import Derived.Below
import Derived.Test.YtfelfpjfjjgmoaaDoorRows
import Derived.PinnedBridge
import Derived.Lay
import Derived.MakeChecks
import Derived.Shelf.Vars
import Derived.Lib.LaidU8
import Derived.Stop.LaidErr
import Derived.Deep.DeepHandedRow
import Derived.Deep.Draws
import Derived.Deep.AppendLies
import Derived.Maps.AppendAt
import Derived.OwnWalk
import Derived.Laws.BytesArg
import Derived.Laws.MakeOwn
import Derived.Laws.OwnMore
import Derived.Deep.OwnRows
import Derived.Tactics
import Derived.Lib.ConvBytes
import Derived.Laws.Slices
import Derived.KernelRfl
import Derived.RowKit3
import Derived.Deep.LoopGhost
import Derived.Deep.QuietTactic
import Derived.BigQuiet
import Derived.WideLaws
import Derived.Deep.DeepCutAuto
import Derived.Deep.CutBlock
import Derived.Deep.RegionHeld3
import Derived.Laws.Rows
import Derived.Lib.AppendStr
import Derived.ArgAppend
import Derived.Laws.IdiomCopy
import Derived.OrdersHeld
import Derived.Laws.BitsLemmas
import Derived.RowKit
import Derived.Test.YtfelfpjfjjgmoaaDoorWLast
import Derived.Test.YtfelfpjfjjgmoaaDoorWTab
import Derived.Test.YtfelfpjfjjgmoaaDoorWFour
import Derived.Test.YtfelfpjfjjgmoaaDoorWQPut
import Derived.Test.YtfelfpjfjjgmoaaDoorWApart
import Derived.Test.YtfelfpjfjjgmoaaDoorWArr
import Derived.Test.YtfelfpjfjjgmoaaDoorWZeros
import Derived.Test.YtfelfpjfjjgmoaaDoorWFoot
import Derived.Test.YtfelfpjfjjgmoaaDoorWKept
import Derived.Test.YtfelfpjfjjgmoaaDoorWShare
import Derived.Test.YtfelfpjfjjgmoaaDoorWN
import Derived.Test.YtfelfpjfjjgmoaaDoorWFootNe
import Derived.Test.YtfelfpjfjjgmoaaDoorWAt
import Derived.Test.YtfelfpjfjjgmoaaDoorWEqStruct
import Derived.Test.YtfelfpjfjjgmoaaDoorWRepsOne
import Derived.Test.YtfelfpjfjjgmoaaDoorWInv
import Derived.Test.YtfelfpjfjjgmoaaDoorWInvWords
import Derived.Test.YtfelfpjfjjgmoaaDoorWGuard
import Derived.Test.YtfelfpjfjjgmoaaDoorWNEv
import Derived.Test.YtfelfpjfjjgmoaaDoorWMore
import Derived.WalkMore
import Derived.Lib.Walk
import Derived.Outline
import Derived.WalkLawsBesides
import Derived.WalkSpells
import Derived.Laws.Runes
/- Contracts of Go's library laid at this translation: each says that a body of the translation is the one that the contract was proved of. Written by the kit's lay-plain.mjs.
-/
section
namespace Go.Proofs
open Go.Shelf
def Tryd.lays196_ren : Go.Shelf.Ren := ⟨fun | 196 => 30 | 259 => 45 | n => n, fun | 9 => 9 | 4 => 4 | 3 => 3 | 5 => 5 | 12 => 12 | 119 => 81 | 0 => 0 | 46 => 25 | 139 => 84 | 138 => 83 | 53 => 96 | n => n, fun | 3 => 0 | 4 => 1 | n => n⟩
theorem Tryd.lays196 : Go.Proofs.Lays.n196 Tryd.prog Tryd.lays196_ren := {
  mixed := by kernel_rfl
  f196 := Tryd.func30.trans (congrArg some (by kernel_rfl))
  f259 := Tryd.func45.trans (congrArg some (by kernel_rfl))
  t0 := Tryd.underlying0
  a0 := Tryd.isAgg0
  z0 := Tryd.sizeOf0
  v0 := Tryd.zeroValue0
  t3 := Tryd.underlying3
  a3 := Tryd.isAgg3
  z3 := Tryd.sizeOf3
  v3 := Tryd.zeroValue3
  t4 := Tryd.underlying4
  a4 := Tryd.isAgg4
  z4 := Tryd.sizeOf4
  v4 := Tryd.zeroValue4
  t5 := Tryd.underlying5
  a5 := Tryd.isAgg5
  z5 := Tryd.sizeOf5
  v5 := Tryd.zeroValue5
  t9 := Tryd.underlying9
  a9 := Tryd.isAgg9
  z9 := Tryd.sizeOf9
  v9 := Tryd.zeroValue9
  t12 := Tryd.underlying12
  a12 := Tryd.isAgg12
  z12 := Tryd.sizeOf12
  v12 := Tryd.zeroValue12
  t46 := Tryd.underlying25
  a46 := Tryd.isAgg25
  z46 := Tryd.sizeOf25
  v46 := Tryd.zeroValue25
  t53 := Tryd.underlying96
  a53 := Tryd.isAgg96
  z53 := Tryd.sizeOf96
  v53 := Tryd.zeroValue96
  t119 := Tryd.underlying81
  a119 := Tryd.isAgg81
  z119 := Tryd.sizeOf81
  t138 := Tryd.underlying83
  a138 := Tryd.isAgg83
  z138 := Tryd.sizeOf83
  v138 := Tryd.zeroValue83
  t139 := Tryd.underlying84
  a139 := Tryd.isAgg84
  z139 := Tryd.sizeOf84
  v139 := Tryd.zeroValue84
  g3 := by kernel_rfl
  g4 := by kernel_rfl }
def Tryd.lays161_ren : Go.Shelf.Ren := ⟨fun | 161 => 50 | 231 => 60 | 227 => 61 | 233 => 62 | 235 => 63 | 228 => 73 | 197 => 74 | 151 => 75 | 260 => 80 | 152 => 81 | 137 => 88 | 119 => 72 | 224 => 66 | 225 => 65 | 217 => 64 | 266 => 76 | n => n, fun | 9 => 9 | 4 => 4 | 3 => 3 | 5 => 5 | 117 => 101 | 116 => 100 | 0 => 0 | 124 => 104 | 105 => 114 | 21 => 21 | 119 => 81 | 46 => 25 | 139 => 84 | 138 => 83 | n => n, fun | 3 => 0 | 4 => 1 | n => n⟩
theorem Tryd.lays161 : Go.Proofs.Lays.n161 Tryd.prog Tryd.lays161_ren := {
  mixed := by kernel_rfl
  f119 := Tryd.func72.trans (congrArg some (by kernel_rfl))
  f137 := Tryd.func88.trans (congrArg some (by kernel_rfl))
  f151 := Tryd.func75.trans (congrArg some (by kernel_rfl))
  f152 := Tryd.func81.trans (congrArg some (by kernel_rfl))
  f161 := Tryd.func50.trans (congrArg some (by kernel_rfl))
  f197 := Tryd.func74.trans (congrArg some (by kernel_rfl))
  f217 := Tryd.func64.trans (congrArg some (by kernel_rfl))
  f224 := Tryd.func66.trans (congrArg some (by kernel_rfl))
  f225 := Tryd.func65.trans (congrArg some (by kernel_rfl))
  f227 := Tryd.func61.trans (congrArg some (by kernel_rfl))
  f228 := Tryd.func73.trans (congrArg some (by kernel_rfl))
  f231 := Tryd.func60.trans (congrArg some (by kernel_rfl))
  f233 := Tryd.func62.trans (congrArg some (by kernel_rfl))
  f235 := Tryd.func63.trans (congrArg some (by kernel_rfl))
  f260 := Tryd.func80.trans (congrArg some (by kernel_rfl))
  f266 := Tryd.func76.trans (congrArg some (by kernel_rfl))
  t0 := Tryd.underlying0
  a0 := Tryd.isAgg0
  z0 := Tryd.sizeOf0
  v0 := Tryd.zeroValue0
  t3 := Tryd.underlying3
  a3 := Tryd.isAgg3
  z3 := Tryd.sizeOf3
  v3 := Tryd.zeroValue3
  t4 := Tryd.underlying4
  a4 := Tryd.isAgg4
  z4 := Tryd.sizeOf4
  v4 := Tryd.zeroValue4
  t5 := Tryd.underlying5
  a5 := Tryd.isAgg5
  z5 := Tryd.sizeOf5
  v5 := Tryd.zeroValue5
  t9 := Tryd.underlying9
  a9 := Tryd.isAgg9
  z9 := Tryd.sizeOf9
  v9 := Tryd.zeroValue9
  t21 := Tryd.underlying21
  a21 := Tryd.isAgg21
  z21 := Tryd.sizeOf21
  v21 := Tryd.zeroValue21
  t46 := Tryd.underlying25
  a46 := Tryd.isAgg25
  z46 := Tryd.sizeOf25
  v46 := Tryd.zeroValue25
  t105 := Tryd.underlying114
  a105 := Tryd.isAgg114
  z105 := Tryd.sizeOf114
  v105 := Tryd.zeroValue114
  t116 := Tryd.underlying100
  a116 := Tryd.isAgg100
  z116 := Tryd.sizeOf100
  t117 := Tryd.underlying101
  a117 := Tryd.isAgg101
  z117 := Tryd.sizeOf101
  v117 := Tryd.zeroValue101
  t119 := Tryd.underlying81
  a119 := Tryd.isAgg81
  z119 := Tryd.sizeOf81
  t124 := Tryd.underlying104
  a124 := Tryd.isAgg104
  z124 := Tryd.sizeOf104
  v124 := Tryd.zeroValue104
  t138 := Tryd.underlying83
  a138 := Tryd.isAgg83
  z138 := Tryd.sizeOf83
  v138 := Tryd.zeroValue83
  t139 := Tryd.underlying84
  a139 := Tryd.isAgg84
  z139 := Tryd.sizeOf84
  v139 := Tryd.zeroValue84
  g3 := by kernel_rfl
  g4 := by kernel_rfl }
def Tryd.lays143_ren : Go.Shelf.Ren := ⟨fun | 143 => 39 | 219 => 53 | 217 => 64 | 225 => 65 | 224 => 66 | 267 => 67 | 266 => 76 | 314 => 77 | n => n, fun | 9 => 9 | 3 => 3 | 4 => 4 | 5 => 5 | 46 => 25 | 146 => 118 | 51 => 117 | n => n, fun | 1 => 2 | n => n⟩
theorem Tryd.lays143 : Go.Proofs.Lays.n143 Tryd.prog Tryd.lays143_ren := {
  mixed := by kernel_rfl
  f143 := Tryd.func39.trans (congrArg some (by kernel_rfl))
  f217 := Tryd.func64.trans (congrArg some (by kernel_rfl))
  f219 := Tryd.func53.trans (congrArg some (by kernel_rfl))
  f224 := Tryd.func66.trans (congrArg some (by kernel_rfl))
  f225 := Tryd.func65.trans (congrArg some (by kernel_rfl))
  f266 := Tryd.func76.trans (congrArg some (by kernel_rfl))
  f267 := Tryd.func67.trans (congrArg some (by kernel_rfl))
  f314 := Tryd.func77.trans (congrArg some (by kernel_rfl))
  t3 := Tryd.underlying3
  a3 := Tryd.isAgg3
  z3 := Tryd.sizeOf3
  v3 := Tryd.zeroValue3
  t4 := Tryd.underlying4
  a4 := Tryd.isAgg4
  z4 := Tryd.sizeOf4
  v4 := Tryd.zeroValue4
  t5 := Tryd.underlying5
  a5 := Tryd.isAgg5
  z5 := Tryd.sizeOf5
  v5 := Tryd.zeroValue5
  t9 := Tryd.underlying9
  a9 := Tryd.isAgg9
  z9 := Tryd.sizeOf9
  v9 := Tryd.zeroValue9
  t46 := Tryd.underlying25
  a46 := Tryd.isAgg25
  z46 := Tryd.sizeOf25
  v46 := Tryd.zeroValue25
  t51 := Tryd.underlying117
  a51 := Tryd.isAgg117
  z51 := Tryd.sizeOf117
  v51 := Tryd.zeroValue117
  t146 := Tryd.underlying118
  a146 := Tryd.isAgg118
  z146 := Tryd.sizeOf118
  v146 := Tryd.zeroValue118
  g1 := by kernel_rfl }
def Tryd.lays144_ren : Go.Shelf.Ren := ⟨fun | 144 => 40 | 143 => 39 | 219 => 53 | 217 => 64 | 225 => 65 | 224 => 66 | 267 => 67 | 266 => 76 | 314 => 77 | n => n, fun | 9 => 9 | 4 => 4 | 3 => 3 | 5 => 5 | 46 => 25 | 146 => 118 | 51 => 117 | n => n, fun | 1 => 2 | n => n⟩
theorem Tryd.lays144 : Go.Proofs.Lays.n144 Tryd.prog Tryd.lays144_ren := {
  mixed := by kernel_rfl
  f143 := Tryd.func39.trans (congrArg some (by kernel_rfl))
  f144 := Tryd.func40.trans (congrArg some (by kernel_rfl))
  f217 := Tryd.func64.trans (congrArg some (by kernel_rfl))
  f219 := Tryd.func53.trans (congrArg some (by kernel_rfl))
  f224 := Tryd.func66.trans (congrArg some (by kernel_rfl))
  f225 := Tryd.func65.trans (congrArg some (by kernel_rfl))
  f266 := Tryd.func76.trans (congrArg some (by kernel_rfl))
  f267 := Tryd.func67.trans (congrArg some (by kernel_rfl))
  f314 := Tryd.func77.trans (congrArg some (by kernel_rfl))
  t3 := Tryd.underlying3
  a3 := Tryd.isAgg3
  z3 := Tryd.sizeOf3
  v3 := Tryd.zeroValue3
  t4 := Tryd.underlying4
  a4 := Tryd.isAgg4
  z4 := Tryd.sizeOf4
  v4 := Tryd.zeroValue4
  t5 := Tryd.underlying5
  a5 := Tryd.isAgg5
  z5 := Tryd.sizeOf5
  v5 := Tryd.zeroValue5
  t9 := Tryd.underlying9
  a9 := Tryd.isAgg9
  z9 := Tryd.sizeOf9
  v9 := Tryd.zeroValue9
  t46 := Tryd.underlying25
  a46 := Tryd.isAgg25
  z46 := Tryd.sizeOf25
  v46 := Tryd.zeroValue25
  t51 := Tryd.underlying117
  a51 := Tryd.isAgg117
  z51 := Tryd.sizeOf117
  v51 := Tryd.zeroValue117
  t146 := Tryd.underlying118
  a146 := Tryd.isAgg118
  z146 := Tryd.sizeOf118
  v146 := Tryd.zeroValue118
  g1 := by kernel_rfl }
def Tryd.lays145_ren : Go.Shelf.Ren := ⟨fun | 145 => 41 | 220 => 54 | 219 => 53 | 217 => 64 | 225 => 65 | 224 => 66 | 267 => 67 | 266 => 76 | 314 => 77 | n => n, fun | 9 => 9 | 4 => 4 | 59 => 73 | 3 => 3 | 5 => 5 | 46 => 25 | 146 => 118 | 51 => 117 | n => n, fun | 1 => 2 | n => n⟩
theorem Tryd.lays145 : Go.Proofs.Lays.n145 Tryd.prog Tryd.lays145_ren := {
  mixed := by kernel_rfl
  f145 := Tryd.func41.trans (congrArg some (by kernel_rfl))
  f217 := Tryd.func64.trans (congrArg some (by kernel_rfl))
  f219 := Tryd.func53.trans (congrArg some (by kernel_rfl))
  f220 := Tryd.func54.trans (congrArg some (by kernel_rfl))
  f224 := Tryd.func66.trans (congrArg some (by kernel_rfl))
  f225 := Tryd.func65.trans (congrArg some (by kernel_rfl))
  f266 := Tryd.func76.trans (congrArg some (by kernel_rfl))
  f267 := Tryd.func67.trans (congrArg some (by kernel_rfl))
  f314 := Tryd.func77.trans (congrArg some (by kernel_rfl))
  t3 := Tryd.underlying3
  a3 := Tryd.isAgg3
  z3 := Tryd.sizeOf3
  v3 := Tryd.zeroValue3
  t4 := Tryd.underlying4
  a4 := Tryd.isAgg4
  z4 := Tryd.sizeOf4
  v4 := Tryd.zeroValue4
  t5 := Tryd.underlying5
  a5 := Tryd.isAgg5
  z5 := Tryd.sizeOf5
  v5 := Tryd.zeroValue5
  t9 := Tryd.underlying9
  a9 := Tryd.isAgg9
  z9 := Tryd.sizeOf9
  v9 := Tryd.zeroValue9
  t46 := Tryd.underlying25
  a46 := Tryd.isAgg25
  z46 := Tryd.sizeOf25
  v46 := Tryd.zeroValue25
  t51 := Tryd.underlying117
  a51 := Tryd.isAgg117
  z51 := Tryd.sizeOf117
  v51 := Tryd.zeroValue117
  t59 := Tryd.underlying73
  a59 := Tryd.isAgg73
  z59 := Tryd.sizeOf73
  v59 := Tryd.zeroValue73
  t146 := Tryd.underlying118
  a146 := Tryd.isAgg118
  z146 := Tryd.sizeOf118
  v146 := Tryd.zeroValue118
  g1 := by kernel_rfl }
def Tryd.laysC245_ren : Go.Shelf.Ren := ⟨fun | 245 => 79 | 279 => 84 | 280 => 85 | 281 => 86 | 282 => 87 | 316 => 89 | 171 => 91 | 205 => 90 | 243 => 92 | 246 => 93 | 283 => 94 | 284 => 95 | 285 => 96 | 286 => 97 | 129 => 99 | 317 => 98 | 318 => 100 | 319 => 101 | 320 => 102 | 337 => 103 | 338 => 104 | n => n, fun | 9 => 9 | 3 => 3 | 75 => 76 | 167 => 122 | 4 => 4 | 168 => 124 | 210 => 128 | 37 => 37 | 0 => 0 | 127 => 90 | 145 => 133 | 143 => 131 | 2 => 2 | 171 => 135 | 53 => 96 | 5 => 5 | 173 => 138 | 212 => 141 | 51 => 117 | 20 => 20 | 213 => 142 | 46 => 25 | 232 => 145 | 233 => 146 | 80 => 79 | n => n, fun | 15 => 3 | 16 => 4 | 17 => 5 | 18 => 6 | 19 => 7 | n => n⟩
theorem Tryd.laysC245 : Go.Proofs.LaysC.n245 Tryd.prog Tryd.laysC245_ren := {
  mixed := by kernel_rfl
  f129 := Tryd.func99.trans (congrArg some (by kernel_rfl))
  f171 := Tryd.func91.trans (congrArg some (by kernel_rfl))
  f205 := Tryd.func90.trans (congrArg some (by kernel_rfl))
  f243 := Tryd.func92.trans (congrArg some (by kernel_rfl))
  f245 := Tryd.func79.trans (congrArg some (by kernel_rfl))
  f246 := Tryd.func93.trans (congrArg some (by kernel_rfl))
  f279 := Tryd.func84.trans (congrArg some (by kernel_rfl))
  f280 := Tryd.func85.trans (congrArg some (by kernel_rfl))
  f281 := Tryd.func86.trans (congrArg some (by kernel_rfl))
  f282 := Tryd.func87.trans (congrArg some (by kernel_rfl))
  f283 := Tryd.func94.trans (congrArg some (by kernel_rfl))
  f284 := Tryd.func95.trans (congrArg some (by kernel_rfl))
  f285 := Tryd.func96.trans (congrArg some (by kernel_rfl))
  f286 := Tryd.func97.trans (congrArg some (by kernel_rfl))
  f316 := Tryd.func89.trans (congrArg some (by kernel_rfl))
  f317 := Tryd.func98.trans (congrArg some (by kernel_rfl))
  f318 := Tryd.func100.trans (congrArg some (by kernel_rfl))
  f319 := Tryd.func101.trans (congrArg some (by kernel_rfl))
  f320 := Tryd.func102.trans (congrArg some (by kernel_rfl))
  f337 := Tryd.func103.trans (congrArg some (by kernel_rfl))
  f338 := Tryd.func104.trans (congrArg some (by kernel_rfl))
  t0 := Tryd.underlying0
  a0 := Tryd.isAgg0
  z0 := Tryd.sizeOf0
  v0 := Tryd.zeroValue0
  t2 := Tryd.underlying2
  a2 := Tryd.isAgg2
  z2 := Tryd.sizeOf2
  v2 := Tryd.zeroValue2
  t3 := Tryd.underlying3
  a3 := Tryd.isAgg3
  z3 := Tryd.sizeOf3
  v3 := Tryd.zeroValue3
  t4 := Tryd.underlying4
  a4 := Tryd.isAgg4
  z4 := Tryd.sizeOf4
  v4 := Tryd.zeroValue4
  t5 := Tryd.underlying5
  a5 := Tryd.isAgg5
  z5 := Tryd.sizeOf5
  v5 := Tryd.zeroValue5
  t9 := Tryd.underlying9
  a9 := Tryd.isAgg9
  z9 := Tryd.sizeOf9
  v9 := Tryd.zeroValue9
  t20 := Tryd.underlying20
  a20 := Tryd.isAgg20
  z20 := Tryd.sizeOf20
  v20 := Tryd.zeroValue20
  t37 := Tryd.underlying37
  a37 := Tryd.isAgg37
  z37 := Tryd.sizeOf37
  v37 := Tryd.zeroValue37
  t46 := Tryd.underlying25
  a46 := Tryd.isAgg25
  z46 := Tryd.sizeOf25
  v46 := Tryd.zeroValue25
  t51 := Tryd.underlying117
  a51 := Tryd.isAgg117
  z51 := Tryd.sizeOf117
  v51 := Tryd.zeroValue117
  t53 := Tryd.underlying96
  a53 := Tryd.isAgg96
  z53 := Tryd.sizeOf96
  v53 := Tryd.zeroValue96
  t75 := Tryd.underlying76
  a75 := Tryd.isAgg76
  z75 := Tryd.sizeOf76
  v75 := Tryd.zeroValue76
  t127 := Tryd.underlying90
  a127 := Tryd.isAgg90
  z127 := Tryd.sizeOf90
  v127 := Tryd.zeroValue90
  t143 := Tryd.underlying131
  a143 := Tryd.isAgg131
  z143 := Tryd.sizeOf131
  v143 := Tryd.zeroValue131
  t145 := Tryd.underlying133
  a145 := Tryd.isAgg133
  z145 := Tryd.sizeOf133
  v145 := Tryd.zeroValue133
  t167 := Tryd.underlying122
  a167 := Tryd.isAgg122
  z167 := Tryd.sizeOf122
  v167 := Tryd.zeroValue122
  t168 := Tryd.underlying124
  a168 := Tryd.isAgg124
  z168 := Tryd.sizeOf124
  v168 := Tryd.zeroValue124
  t171 := Tryd.underlying135
  a171 := Tryd.isAgg135
  z171 := Tryd.sizeOf135
  v171 := Tryd.zeroValue135
  t173 := Tryd.underlying138
  a173 := Tryd.isAgg138
  z173 := Tryd.sizeOf138
  v173 := Tryd.zeroValue138
  t210 := Tryd.underlying128
  a210 := Tryd.isAgg128
  z210 := Tryd.sizeOf128
  v210 := Tryd.zeroValue128
  t212 := Tryd.underlying141
  a212 := Tryd.isAgg141
  z212 := Tryd.sizeOf141
  v212 := Tryd.zeroValue141
  t213 := Tryd.underlying142
  a213 := Tryd.isAgg142
  z213 := Tryd.sizeOf142
  t232 := Tryd.underlying145
  a232 := Tryd.isAgg145
  z232 := Tryd.sizeOf145
  v232 := Tryd.zeroValue145
  t233 := Tryd.underlying146
  a233 := Tryd.isAgg146
  z233 := Tryd.sizeOf146
  v233 := Tryd.zeroValue146
  g15 := by kernel_rfl
  g16 := by kernel_rfl
  g17 := by kernel_rfl
  g18 := by kernel_rfl
  g19 := by kernel_rfl
  t80 := Tryd.underlying79
  a80 := Tryd.isAgg79
  z80 := Tryd.sizeOf79
  v80 := Tryd.zeroValue79
  i0 := by kernel_rfl
  i2 := by kernel_rfl
  i3 := by kernel_rfl
  i4 := by kernel_rfl
  i5 := by kernel_rfl
  i9 := by kernel_rfl
  i20 := by kernel_rfl
  i37 := by kernel_rfl
  i46 := by kernel_rfl
  i51 := by kernel_rfl
  i53 := by kernel_rfl
  i75 := by kernel_rfl
  i80 := by kernel_rfl
  i127 := by kernel_rfl
  i143 := by kernel_rfl
  i145 := by kernel_rfl
  i167 := by kernel_rfl
  i168 := by kernel_rfl
  i171 := by kernel_rfl
  i173 := by kernel_rfl
  i210 := by kernel_rfl
  i212 := by kernel_rfl
  i232 := by kernel_rfl
  i233 := by kernel_rfl
  m15 := by kernel_rfl
  m16 := by kernel_rfl
  m17 := by kernel_rfl
  m18 := by kernel_rfl
  m19 := by kernel_rfl
  c0 := by kernel_rfl
  c2 := by kernel_rfl
  c3 := by kernel_rfl
  c4 := by kernel_rfl
  c5 := by kernel_rfl
  c9 := by kernel_rfl
  c20 := by kernel_rfl
  c37 := by kernel_rfl
  c46 := by kernel_rfl
  c51 := by kernel_rfl
  c53 := by kernel_rfl
  c75 := by kernel_rfl
  c80 := by kernel_rfl
  c127 := by kernel_rfl
  c143 := by kernel_rfl
  c145 := by kernel_rfl
  c167 := by kernel_rfl
  c168 := by kernel_rfl
  c171 := by kernel_rfl
  c173 := by kernel_rfl
  c210 := by kernel_rfl
  c212 := by kernel_rfl
  c213 := by kernel_rfl
  c232 := by kernel_rfl
  c233 := by kernel_rfl }
def Tryd.lays119_ren : Go.Shelf.Ren := ⟨fun | 119 => 72 | n => n, fun | 21 => 21 | 4 => 4 | n => n, fun | n => n⟩
theorem Tryd.lays119 : Go.Proofs.Lays.n119 Tryd.prog Tryd.lays119_ren := {
  mixed := by kernel_rfl
  f119 := Tryd.func72.trans (congrArg some (by kernel_rfl))
  t4 := Tryd.underlying4
  a4 := Tryd.isAgg4
  z4 := Tryd.sizeOf4
  v4 := Tryd.zeroValue4
  t21 := Tryd.underlying21
  a21 := Tryd.isAgg21
  z21 := Tryd.sizeOf21
  v21 := Tryd.zeroValue21 }
def Tryd.lays169_ren : Go.Shelf.Ren := ⟨fun | 169 => 43 | n => n, fun | 70 => 70 | 9 => 9 | 0 => 0 | 72 => 72 | 37 => 37 | 127 => 90 | 3 => 3 | 5 => 5 | n => n, fun | n => n⟩
theorem Tryd.lays169 : Go.Proofs.Lays.n169 Tryd.prog Tryd.lays169_ren := {
  mixed := by kernel_rfl
  f169 := Tryd.func43.trans (congrArg some (by kernel_rfl))
  t0 := Tryd.underlying0
  a0 := Tryd.isAgg0
  z0 := Tryd.sizeOf0
  v0 := Tryd.zeroValue0
  t3 := Tryd.underlying3
  a3 := Tryd.isAgg3
  z3 := Tryd.sizeOf3
  v3 := Tryd.zeroValue3
  t9 := Tryd.underlying9
  a9 := Tryd.isAgg9
  z9 := Tryd.sizeOf9
  v9 := Tryd.zeroValue9
  t37 := Tryd.underlying37
  a37 := Tryd.isAgg37
  z37 := Tryd.sizeOf37
  v37 := Tryd.zeroValue37
  t70 := Tryd.underlying70
  a70 := Tryd.isAgg70
  z70 := Tryd.sizeOf70
  v70 := Tryd.zeroValue70
  t72 := Tryd.underlying72
  a72 := Tryd.isAgg72
  z72 := Tryd.sizeOf72
  v72 := Tryd.zeroValue72
  t127 := Tryd.underlying90
  a127 := Tryd.isAgg90
  z127 := Tryd.sizeOf90
  v127 := Tryd.zeroValue90 }
theorem Tryd.Builder_Extra_169 : Builder.Extra Tryd.prog Tryd.lays169_ren := {
  sizeBuilder := by kernel_rfl
  liesBuilder := by kernel_rfl
  t5 := Tryd.underlying5
  a5 := Tryd.isAgg5
  z5 := Tryd.sizeOf5
  v5 := Tryd.zeroValue5
  infoByte := by kernel_rfl
  cellsByte := by kernel_rfl
  sizeByte := by kernel_rfl
  neB5 := by decide }
end Go.Proofs
end
/- What is known of the library's package-level variables (Gd), and the contracts of functions of Go's library that the print does not take, in the print's own form: '.f' tells the answer (none: not served), '.calls' that the Go code comes to it. Conditions: Gd of the world in which the call begins. -/
section
set_option linter.unusedVariables false
namespace Go.Proofs.YtfelfpjfjjgmoaaDoor
open Go.RowKit Go.Shelf Go.Proofs.YtfelfpjfjjgmoaaDoorW.PrintWords

/-- The tables of unicode/utf8 as their initialisers lay them; internal/bytealg.MaxLen holds some int; strconv's two errors hold errors. -/
def Gd (w : World) : Prop := Lib.Utf8Tabs 0 1 w ∧ (∃ m : Int, w.cell? ⟨2, 0, none⟩ = some (.int .i64 m)) ∧
  (∃ te pe, w.cell? ⟨3, 0, none⟩ = some (.iface te pe)) ∧ (∃ te pe, w.cell? ⟨4, 0, none⟩ = some (.iface te pe))
theorem Gd.below {w w' : World} (h : Gd w) (hb : Below w.heap.size w w') : Gd w' := by
  obtain ⟨h1, ⟨m, h2⟩, ⟨t3, p3, h3⟩, t4, p4, h4⟩ := h
  exact ⟨Utf8Tabs_below h1 hb, ⟨m, pw_cell_below hb h2⟩, ⟨t3, p3, pw_cell_below hb h3⟩, t4, p4, pw_cell_below hb h4⟩
theorem Gd.drewN {w : World} (h : Gd w) (n : Nat) : Gd (w.drewN n) := h.below (pw_below_drewN (Below.refl _ _) n)
theorem Gd.drew {w : World} (h : Gd w) : Gd w.drew := h.below (below_drew (Below.refl _ _))

theorem call_mono {P : Program} {f : FuncId} {args : Array Value} {w : World} {R R' : Ending → World → Prop} (h : Calls P f args w R) (hr : ∀ e w', R e w' → R' e w') : Calls P f args w R' := h.mono hr

/-! ### unicode/utf8.ValidString -/
def G_ValidString.f (s : ByteArray) : Option Bool := if s.size ≤ 9223372036854775807 then some (Lib.validD s.data.toList) else none
theorem G_ValidString.calls (a0 : ByteArray) (r : Bool) (w : World) (hG_ : Gd w) (h : G_ValidString.f a0 = some r) :
    Calls Tryd.prog 30 #[.string a0] w fun e w' => e = .returned (.bool r) ∧ Below w.heap.size w w' := by
  unfold G_ValidString.f at h
  split at h
  · rename_i hs
    injection h with h
    subst h
    exact Any.utf8_ValidString Tryd.lays196 a0 w hs hG_.1
  · cases h

/-! ### strings.TrimLeft at an ASCII cutset -/
def asciiB (l : List UInt8) : Bool := l.all fun b => decide (b.toNat < 128)
def G_TrimLeft.f (s cut : ByteArray) : Option ByteArray := if cut.size < 4294967281 then (if asciiB cut.data.toList = true then some ⟨(Lib.trimLeftS s.data.toList cut.data.toList).toArray⟩ else none) else none
theorem G_TrimLeft.calls (a0 a1 : ByteArray) (r : ByteArray) (w : World) (hG_ : Gd w) (h : G_TrimLeft.f a0 a1 = some r) :
    Calls Tryd.prog 50 #[.string a0, .string a1] w fun e w' => e = .returned (.string r) ∧ Below w.heap.size w w' := by
  unfold G_TrimLeft.f at h
  split at h
  · rename_i hs
    split at h
    · rename_i ha
      injection h with h
      subst h
      exact Any.strings_TrimLeft_laid Tryd.lays161 (by kernel_rfl) a0 a1 w hs (fun j b hb => by
        unfold asciiB at ha
        rw [List.all_eq_true] at ha
        simpa using ha b (List.mem_of_getElem? hb))
    · cases h
  · cases h

/-! ### strings.Index, Contains, Cut -/
def G_Index.f (s sub : ByteArray) : Option Int := if s.size < 4294967281 then some (Lib.index s.data.toList sub.data.toList) else none
theorem G_Index.calls (a0 a1 : ByteArray) (r : Int) (w : World) (hG_ : Gd w) (h : G_Index.f a0 a1 = some r) :
    Calls Tryd.prog 39 #[.string a0, .string a1] w fun e w' => e = .returned (.int .i64 r) ∧ Drawn0 w w' := by
  unfold G_Index.f at h
  split at h
  · rename_i hs
    injection h with h
    subst h
    obtain ⟨m, hm⟩ := hG_.2.1
    exact (Any.strings_Index Tryd.lays143 a0 a1 m w hs hm).mono fun e w' ⟨he, hw⟩ => ⟨he, hw ▸ Drawn0.refl _⟩
  · cases h
def G_Contains.f (s sub : ByteArray) : Option Bool := if s.size < 4294967281 then some (Lib.contains s.data.toList sub.data.toList) else none
theorem G_Contains.calls (a0 a1 : ByteArray) (r : Bool) (w : World) (hG_ : Gd w) (h : G_Contains.f a0 a1 = some r) :
    Calls Tryd.prog 40 #[.string a0, .string a1] w fun e w' => e = .returned (.bool r) ∧ Drawn0 w w' := by
  unfold G_Contains.f at h
  split at h
  · rename_i hs
    injection h with h
    subst h
    obtain ⟨m, hm⟩ := hG_.2.1
    exact (Any.strings_Contains Tryd.lays144 a0 a1 m w hs hm).mono fun e w' ⟨he, hw⟩ => ⟨he, hw ▸ Drawn0.refl _⟩
  · cases h
def G_Cut.f (s sep : ByteArray) : Option (ByteArray × ByteArray × Bool) := if s.size < 4294967281 then some (⟨(Lib.cut s.data.toList sep.data.toList).1.toArray⟩, ⟨(Lib.cut s.data.toList sep.data.toList).2.1.toArray⟩, (Lib.cut s.data.toList sep.data.toList).2.2) else none
theorem G_Cut.calls (a0 a1 : ByteArray) (r1 r2 : ByteArray) (r3 : Bool) (w : World) (hG_ : Gd w) (h : G_Cut.f a0 a1 = some (r1, r2, r3)) :
    Calls Tryd.prog 41 #[.string a0, .string a1] w fun e w' => e = .returned (.tuple #[.string r1, .string r2, .bool r3]) ∧ Drawn0 w w' := by
  unfold G_Cut.f at h
  split at h
  · rename_i hs
    injection h with h
    obtain ⟨m, hm⟩ := hG_.2.1
    refine (Any.strings_Cut Tryd.lays145 a0 a1 m w hs hm).mono fun e w' ⟨he, n, hw⟩ => ⟨?_, hw ▸ ⟨⟨n, rfl⟩⟩⟩
    rw [he]
    simp only [Prod.mk.injEq] at h
    obtain ⟨h1, h2, h3⟩ := h
    subst h1 h2 h3
    rfl
  · cases h
end Go.Proofs.YtfelfpjfjjgmoaaDoor
end
/- What a row's list of variables, and the world's shape, give: Gd (the tables of unicode/utf8, strconv's two errors, internal/bytealg.MaxLen). Condition: the list is read ('laidMet') and the world is shaped as the form asks. -/
section
set_option linter.unusedVariables false
namespace Go.Proofs.YtfelfpjfjjgmoaaDoor
open Go.RowKit Go.Shelf Go.Lib Go.ChangeShapes

theorem R_own : ownKnob Tryd.prog.godebug = none := by kernel_rfl
theorem R_n3 : Tryd.prog.globalNamed "unicode/utf8.first" = some 0 := by kernel_rfl
theorem R_n4 : Tryd.prog.globalNamed "unicode/utf8.acceptRanges" = some 1 := by kernel_rfl
theorem R_y3 : (Tryd.prog.globals[0]?).map (·.type) = some 81 := by kernel_rfl
theorem R_y4 : (Tryd.prog.globals[1]?).map (·.type) = some 84 := by kernel_rfl
theorem R_c5 : Tryd.prog.cellsOf 5 = 1 := by kernel_rfl
theorem R_c119 : Tryd.prog.cellsOf 81 = 256 := by kernel_rfl
theorem R_c138 : Tryd.prog.cellsOf 83 = 2 := by kernel_rfl
theorem R_utf8 {w : World} (h3 : VarReads Tryd.prog w "unicode/utf8.first" firstData) (h4 : VarReads Tryd.prog w "unicode/utf8.acceptRanges" acceptData) : Lib.Utf8Tabs 0 1 w := by
  refine ⟨fun c hc => ?_, fun i hi => ?_⟩
  · obtain ⟨g, t, cs, fuel, p, hg, hty, hvar, hd⟩ := h3
    obtain rfl := Option.some.inj (R_n3.symm.trans hg)
    obtain rfl := Option.some.inj (R_y3.symm.trans hty)
    have hcs := cells_of_tab Tryd.underlying81 Tryd.underlying5 R_c5 R_c119 hd
    have := World.var?_cell hg hvar c
    rw [this, ← Array.getElem?_toList, hcs]
    simp [firstTab, hc]
  · obtain ⟨g, t, cs, fuel, p, hg, hty, hvar, hd⟩ := h4
    obtain rfl := Option.some.inj (R_n4.symm.trans hg)
    obtain rfl := Option.some.inj (R_y4.symm.trans hty)
    obtain ⟨fuel', d, q, hdi, he⟩ := array_elem Tryd.underlying84 hd i hi
    simp only [List.getElem?_map, List.getElem?_range hi, Option.map_some, Option.some.injEq] at hdi
    subst hdi
    rw [R_c138] at he
    have hcs := ints_of_struct Tryd.underlying83 (fun j f hj => by
      match j, hj with
      | 0, hj => simp at hj; subst hj; exact ⟨Tryd.underlying5, rfl, R_c5⟩
      | 1, hj => simp at hj; subst hj; exact ⟨Tryd.underlying5, rfl, R_c5⟩
      | j + 2, hj => simp at hj) (by rw [R_c138]; rfl) he
    have e0 := congrArg (·[0]?) hcs
    have e1 := congrArg (·[1]?) hcs
    simp only [List.getElem?_take, List.getElem?_drop] at e0 e1
    constructor
    · rw [World.var?_cell hg hvar (2 * i), ← Array.getElem?_toList]
      simpa [Nat.mul_comm] using e0
    · rw [World.var?_cell hg hvar (2 * i + 1), ← Array.getElem?_toList]
      simpa [Nat.mul_comm] using e1
theorem R_accept : Rows.laid_unicode_utf8_acceptRanges = acceptData := by kernel_rfl

theorem R_gs : Tryd.prog.globalNamed "strconv.ErrSyntax" = some 3 := by kernel_rfl
theorem R_gr : Tryd.prog.globalNamed "strconv.ErrRange" = some 4 := by kernel_rfl
theorem R_ys : (Tryd.prog.globals[3]?).map (·.type) = some 76 := by kernel_rfl
theorem R_yr : (Tryd.prog.globals[4]?).map (·.type) = some 76 := by kernel_rfl
theorem R_star : "*" ++ "errors.errorString" = "*errors.errorString" := by decide
theorem R_row (u : TypeId) (h : Tryd.prog.typeName? 3 u = some "*errors.errorString") : u = 131 :=
  typeName_ptr_named (nm := "errors.errorString") (by rw [R_star]; kernel_rfl) (by kernel_rfl) (by decide) u (by rw [R_star]; exact h)
theorem R_ce : Tryd.prog.cellsOf 133 = 1 := by kernel_rfl
theorem R_cs : Tryd.prog.cellsOf 9 = 1 := by kernel_rfl
/-- internal/bytealg.MaxLen holds some int: it follows from the world's shape. -/
theorem R_max {W : World} (h : W.ShapedOpen Tryd.prog) : ∃ m : Int, W.cell? ⟨2, 0, none⟩ = some (.int .i64 m) :=
  cell_of_shapedOpen_int (t := 3) (zero := #[.int .i64 0]) h (of_decide_eq_true (by kernel_rfl)) (by kernel_rfl) rfl (by kernel_rfl) (by kernel_rfl) Tryd.underlying3
/-- A listed sentinel's variable holds an interface value. -/
theorem R_sent {n : String} {text : List UInt8} {r : List (String × DataW Unit)} {W : World} {g : Nat} (h : laidMet Tryd.prog ((n, .iface "*errors.errorString" (.ptr (.agg [.lit (.string text)]))) :: r) W)
    (hg : Tryd.prog.globalNamed n = some g) (ht : (Tryd.prog.globals[g]?).map (·.type) = some 76) : ∃ te pe, W.cell? ⟨g, 0, none⟩ = some (.iface te pe) := by
  obtain ⟨a, s, hv, _⟩ := laid_sentinel h hg ht Tryd.underlying76 R_row Tryd.underlying131 Tryd.underlying133 rfl rfl Tryd.underlying9 R_ce R_cs
  exact ⟨_, _, by simpa using World.var?_cell hg hv 0⟩
theorem R_reads {l : List (String × DataW Unit)} {W : World} (h : laidMet Tryd.prog l W) (hf : ("unicode/utf8.first", Rows.laid_unicode_utf8_first) ∈ l) (ha : ("unicode/utf8.acceptRanges", Rows.laid_unicode_utf8_acceptRanges) ∈ l) :
    Lib.Utf8Tabs 0 1 W :=
  R_utf8 (Pinned.utf8First_eq ▸ (show VarReads Tryd.prog W "unicode/utf8.first" Pinned.utf8First from laidMet.reads h hf)) (R_accept ▸ laidMet.reads h ha)
end Go.Proofs.YtfelfpjfjjgmoaaDoor
end
/- Lean functions for functions of the program, and that the Go code comes to their answers, where the library's variables are as Gd says. Written by a turned copy of the kit's print; Lean checks it. -/
section
namespace Go.Proofs.YtfelfpjfjjgmoaaDoor.P
open Go.RowKit Go.Proofs.YtfelfpjfjjgmoaaDoorW.PrintWords Go.Proofs.YtfelfpjfjjgmoaaDoorW.PrintLast Go.Proofs.YtfelfpjfjjgmoaaDoorW.PrintMore
attribute [local go_sem] max2_int min2_int max_two min_two max_three min_three max_four min_four   -- for this text's walks alone
set_option linter.unusedVariables false
set_option linter.unusedSimpArgs false



def errW : Option Int → Value
  | none => .nilIface
  | some c => .iface 122 (.int .i64 c)
theorem errW_none : errW none = .nilIface := rfl
theorem errW_some (c : Int) : errW (some c) = .iface 122 (.int .i64 c) := rfl

theorem info5 : (Tryd.prog.info? 5).map (fun i => (i.zero, i.size, i.bytes)) = some (some (.int .u8 0), 1, 1) := by kernel_rfl
theorem info9 : (Tryd.prog.info? 9).map (fun i => (i.zero, i.size, i.bytes)) = some (some (.string ⟨#[]⟩), 1, 16) := by kernel_rfl
theorem info33 : (Tryd.prog.info? 33).map (fun i => (i.zero, i.size, i.bytes)) = some (some (.agg #[(.int .i64 0), (.int .i64 0), (.string ⟨#[]⟩), (.string ⟨#[]⟩), (.slice none 0 0), (.bool false)]), 6, 80) := by kernel_rfl
-- the values' own types
/-! #### struct type 35 -/
structure S35 where
  f0 : ByteArray
  f1 : ByteArray
def z35 : S35 := ⟨(⟨#[]⟩ : ByteArray), (⟨#[]⟩ : ByteArray)⟩
def k35 : Kd S35 := Kd.iso (Kd.pair Kd.string Kd.string) (fun x : S35 => (x.f0, x.f1))
theorem k35_open {w : World} {x : S35} {cs : List Value} (h : k35.K w x cs) : cs = [.string x.f0, .string x.f1] := by
  obtain ⟨_, _, rfl, rfl, rfl⟩ := h
  exact rfl
theorem k35_openM {w : World} {base : Nat} {ok : Nat → Prop} {x : S35} {cs : List Value} (h : k35.M w base ok x cs) : cs = [.string x.f0, .string x.f1] := by
  obtain ⟨_, _, rfl, rfl, rfl⟩ := h
  exact rfl
theorem k35_mk (w : World) (x : S35)  : k35.K w x [.string x.f0, .string x.f1] := ⟨[.string x.f0], [.string x.f1], rfl, rfl, rfl⟩
theorem k35_mkM (w : World) (base : Nat) (ok : Nat → Prop) (x : S35)  : k35.M w base ok x [.string x.f0, .string x.f1] := ⟨[.string x.f0], [.string x.f1], rfl, rfl, rfl⟩
def rd_T35 (xs : List S35) (i : Int) : S35 := xs.getD i.toNat z35
theorem at_T35 {w : World} {A : Option Addr} {n : Nat} {xs : List S35} (h : Kd.C k35 w A n xs) (i : Int) (h0 : 0 ≤ i) (h1 : i < n) : ∃ ad , A = some ad ∧ w.cell? (ad.add (i.toNat * 2)) = some (.string (rd_T35 xs i).f0) ∧ w.cell? ⟨(ad.add (i.toNat * 2)).block, (ad.add (i.toNat * 2)).off + 1, none⟩ = some (.string (rd_T35 xs i).f1) := by
  obtain ⟨ad, c, e, _, hK, hc0⟩ := Kd.C_get h z35 i h0 h1
  have hc : ∀ j u, c[j]? = some u → w.cell? (ad.add (i.toNat * 2 + j)) = some u := hc0
  obtain rfl := k35_open hK
  exact ⟨ad, e, hc 0 _ rfl, by rw [← add_field _ _ 1 (by omega)]; exact hc 1 _ rfl⟩

def rd_L4 (xs : List (List S35)) (i : Int) : (List S35) := xs.getD i.toNat ([] : List S35)
theorem at_L4 {w : World} {A : Option Addr} {n : Nat} {xs : List (List S35)} (h : Kd.C (Kd.slice 35 k35) w A n xs) (i : Int) (h0 : 0 ≤ i) (h1 : i < n) : ∃ ad A0 c0, A = some ad ∧ w.cell? (ad.add i.toNat) = some (.slice A0 (rd_L4 xs i).length c0) ∧ (rd_L4 xs i).length ≤ c0 ∧ k35.C w A0 (rd_L4 xs i).length (rd_L4 xs i) := by
  obtain ⟨ad, c, e, _, hK, hc0⟩ := Kd.C_get h ([] : List S35) i h0 h1
  have hc : ∀ j u, c[j]? = some u → w.cell? (ad.add (i.toNat * 1 + j)) = some u := hc0
  obtain ⟨A0, c0, rfl, l0, g0⟩ := hK
  exact ⟨ad, A0, c0, e, by have hq := hc 0 _ rfl; rwa [Nat.mul_one, Nat.add_zero] at hq, l0, g0⟩

/-! #### struct type 33 -/
structure S33 where
  f0 : Int
  f1 : Int
  f2 : ByteArray
  f3 : ByteArray
  f4 : (List S35)
  f5 : Bool
def z33 : S33 := ⟨(0 : Int), (0 : Int), (⟨#[]⟩ : ByteArray), (⟨#[]⟩ : ByteArray), ([] : List S35), false⟩
def k33 : Kd S33 := Kd.iso (Kd.pair (Kd.int .i64) (Kd.pair (Kd.int .i64) (Kd.pair Kd.string (Kd.pair Kd.string (Kd.pair (Kd.slice 35 k35) Kd.bool))))) (fun x : S33 => (x.f0, x.f1, x.f2, x.f3, x.f4, x.f5))
theorem k33_open {w : World} {x : S33} {cs : List Value} (h : k33.K w x cs) : ∃ A4 c4, cs = [.int .i64 x.f0, .int .i64 x.f1, .string x.f2, .string x.f3, .slice A4 x.f4.length c4, .bool x.f5] ∧ x.f4.length ≤ c4 ∧ k35.C w A4 x.f4.length x.f4 := by
  obtain ⟨_, _, rfl, rfl, ⟨_, _, rfl, rfl, ⟨_, _, rfl, rfl, ⟨_, _, rfl, rfl, ⟨_, _, rfl, ⟨A4, c4, rfl, l4, g4⟩, rfl⟩⟩⟩⟩⟩ := h
  exact ⟨A4, c4, rfl, l4, g4⟩
theorem k33_openM {w : World} {base : Nat} {ok : Nat → Prop} {x : S33} {cs : List Value} (h : k33.M w base ok x cs) : ∃ v4, cs = [.int .i64 x.f0, .int .i64 x.f1, .string x.f2, .string x.f3, v4, .bool x.f5] ∧ k35.R 35 w base ok v4 x.f4 := by
  obtain ⟨_, _, rfl, rfl, ⟨_, _, rfl, rfl, ⟨_, _, rfl, rfl, ⟨_, _, rfl, rfl, ⟨_, _, rfl, ⟨v4, rfl, g4⟩, rfl⟩⟩⟩⟩⟩ := h
  exact ⟨v4, rfl, g4⟩
theorem k33_mk (w : World) (x : S33) {A4 : Option Addr} {c4 : Nat} (l4 : x.f4.length ≤ c4) (g4 : k35.C w A4 x.f4.length x.f4) : k33.K w x [.int .i64 x.f0, .int .i64 x.f1, .string x.f2, .string x.f3, .slice A4 x.f4.length c4, .bool x.f5] := ⟨[.int .i64 x.f0], [.int .i64 x.f1, .string x.f2, .string x.f3, .slice A4 x.f4.length c4, .bool x.f5], rfl, rfl, ⟨[.int .i64 x.f1], [.string x.f2, .string x.f3, .slice A4 x.f4.length c4, .bool x.f5], rfl, rfl, ⟨[.string x.f2], [.string x.f3, .slice A4 x.f4.length c4, .bool x.f5], rfl, rfl, ⟨[.string x.f3], [.slice A4 x.f4.length c4, .bool x.f5], rfl, rfl, ⟨[.slice A4 x.f4.length c4], [.bool x.f5], rfl, ⟨A4, c4, rfl, l4, g4⟩, rfl⟩⟩⟩⟩⟩
theorem k33_mkM (w : World) (base : Nat) (ok : Nat → Prop) (x : S33) {v4 : Value} (g4 : k35.R 35 w base ok v4 x.f4) : k33.M w base ok x [.int .i64 x.f0, .int .i64 x.f1, .string x.f2, .string x.f3, v4, .bool x.f5] := ⟨[.int .i64 x.f0], [.int .i64 x.f1, .string x.f2, .string x.f3, v4, .bool x.f5], rfl, rfl, ⟨[.int .i64 x.f1], [.string x.f2, .string x.f3, v4, .bool x.f5], rfl, rfl, ⟨[.string x.f2], [.string x.f3, v4, .bool x.f5], rfl, rfl, ⟨[.string x.f3], [v4, .bool x.f5], rfl, rfl, ⟨[v4], [.bool x.f5], rfl, ⟨v4, rfl, g4⟩, rfl⟩⟩⟩⟩⟩
def rd_T33 (xs : List S33) (i : Int) : S33 := xs.getD i.toNat z33
theorem at_T33 {w : World} {A : Option Addr} {n : Nat} {xs : List S33} (h : Kd.C k33 w A n xs) (i : Int) (h0 : 0 ≤ i) (h1 : i < n) : ∃ ad A4 c4, A = some ad ∧ w.cell? (ad.add (i.toNat * 6)) = some (.int .i64 (rd_T33 xs i).f0) ∧ w.cell? ⟨(ad.add (i.toNat * 6)).block, (ad.add (i.toNat * 6)).off + 1, none⟩ = some (.int .i64 (rd_T33 xs i).f1) ∧ w.cell? ⟨(ad.add (i.toNat * 6)).block, (ad.add (i.toNat * 6)).off + 2, none⟩ = some (.string (rd_T33 xs i).f2) ∧ w.cell? ⟨(ad.add (i.toNat * 6)).block, (ad.add (i.toNat * 6)).off + 3, none⟩ = some (.string (rd_T33 xs i).f3) ∧ w.cell? ⟨(ad.add (i.toNat * 6)).block, (ad.add (i.toNat * 6)).off + 4, none⟩ = some (.slice A4 (rd_T33 xs i).f4.length c4) ∧ w.cell? ⟨(ad.add (i.toNat * 6)).block, (ad.add (i.toNat * 6)).off + 5, none⟩ = some (.bool (rd_T33 xs i).f5) ∧ (rd_T33 xs i).f4.length ≤ c4 ∧ k35.C w A4 (rd_T33 xs i).f4.length (rd_T33 xs i).f4 := by
  obtain ⟨ad, c, e, _, hK, hc0⟩ := Kd.C_get h z33 i h0 h1
  have hc : ∀ j u, c[j]? = some u → w.cell? (ad.add (i.toNat * 6 + j)) = some u := hc0
  obtain ⟨A4, c4, rfl, l4, g4⟩ := k33_open hK
  exact ⟨ad, A4, c4, e, hc 0 _ rfl, by rw [← add_field _ _ 1 (by omega)]; exact hc 1 _ rfl, by rw [← add_field _ _ 2 (by omega)]; exact hc 2 _ rfl, by rw [← add_field _ _ 3 (by omega)]; exact hc 3 _ rfl, by rw [← add_field _ _ 4 (by omega)]; exact hc 4 _ rfl, by rw [← add_field _ _ 5 (by omega)]; exact hc 5 _ rfl, l4, g4⟩

end Go.Proofs.YtfelfpjfjjgmoaaDoor.P
end
/- Lean functions for functions of the program, and that the Go code comes to their answers, where the library's variables are as Gd says. Written by a turned copy of the kit's print; Lean checks it. -/
section
namespace Go.Proofs.YtfelfpjfjjgmoaaDoor.P
open Go.RowKit Go.Proofs.YtfelfpjfjjgmoaaDoorW.PrintWords Go.Proofs.YtfelfpjfjjgmoaaDoorW.PrintLast Go.Proofs.YtfelfpjfjjgmoaaDoorW.PrintMore
attribute [local go_sem] max2_int min2_int max_two min_two max_three min_three max_four min_four   -- for this text's walks alone
set_option linter.unusedVariables false
set_option linter.unusedSimpArgs false

/-! ### utf_span_rune_has: function 48 -/
def utf_span_rune_has.f (a0_0 : Int) (a0_1 : Int) (a1 : Int) : Option (Bool) := if a1 ≥ a0_0 then (some (decide (a1 ≤ a0_1))) else (some false)
set_option maxHeartbeats 8000000 in
set_option maxRecDepth 100000 in
theorem utf_span_rune_has.calls (a0_0 : Int) (a0_1 : Int) (a1 : Int) (r : Bool) (w : World) (hG_ : Gd w) (h : utf_span_rune_has.f a0_0 a0_1 a1 = some r) :
    Calls Tryd.prog 48 #[.agg #[.int .i32 a0_0, .int .i32 a0_1], .int .i32 a1] w fun e w' => e = .returned (.bool r) ∧ Below w.heap.size w w' := by
  have hu86 := Tryd.underlying86
  have HB := Aside0.mk (Below.refl w.heap.size w)
  have HG := Aside0.mk hG_
  clear hG_
  have H : (if a1 ≥ a0_0 then (some (decide (a1 ≤ a0_1))) else (some false)) = some r := h
  clear h
  by_cases c3 : a1 ≥ a0_0
  · rw [if_pos c3] at H
    have c3b0 : decide (a0_0 ≤ a1) = true := decide_eq_true c3
    clear c3
    obtain rfl := Option.some.inj H
    go_enter Tryd.func48, Tryd.ntmps48
    go_wp2_with (first | ((with_reducible refine gate_dst (N := 2) rfl ?_); refine box_event ?hg (N := 2) ?hd (cs := #[.int .i32 a0_0, .int .i32 a0_1]) (t := 86) ?hr ?_; (case hd => rfl); (case hg => rfl); (case hr => first | (go_simp; done) | (go_simp; rfl)); intro gb101 hg w4 hbox hb; have n0_ := Aside0.mk (below_step (by repeat (first | (with_reducible first | exact HB.out | apply below_alloc | apply pw_below_drewN | apply below_drew1) | exact HB.out)) hb); have n1_ := Aside0.mk (hbox); have n2_ := Aside0.mk ((by rw [hg]; exact (below_size (by repeat (first | (with_reducible first | exact HB.out | apply below_alloc | apply pw_below_drewN | apply below_drew1) | exact HB.out))) : w.heap.size ≤ gb101)); have n3_ := Aside0.mk ((by rw [hg]; exact (below_size (by repeat (first | (with_reducible first | exact HB.out | apply below_alloc | apply pw_below_drewN | apply below_drew1) | exact HB.out))) : w.heap.size ≤ gb101)); clear HB; have HB := n0_; have BK101 := n1_; have GW101 := n2_; have GE101 := n3_; clear n0_ n1_ n2_ n3_; clear hb hbox hg; have hcz5_0 : w4.cell? ⟨gb101, 0, none⟩ = some (.int .i32 a0_0) := (blk_cell BK101.out 0).trans rfl; have hcz5_1 : w4.cell? ⟨gb101, 1, none⟩ = some (.int .i32 a0_1) := (blk_cell BK101.out 1).trans rfl; have hfz5_0 := blk_frozen BK101.out 0; have hfz5_1 := blk_frozen BK101.out 1))
    go_ret
    exact ⟨by first | rfl | (simp [errW_none, errW_some] <;> rfl) | (simp [*, errW_none, errW_some] <;> rfl), by repeat (first | (with_reducible first | exact HB.out | apply below_alloc | apply pw_below_drewN | apply below_drew1 | refine below_set ?_ GE101.out) | exact HB.out)⟩
  · rw [if_neg c3] at H
    have c3b0 : decide (a0_0 ≤ a1) = false := decide_eq_false c3
    clear c3
    obtain rfl := Option.some.inj H
    go_enter Tryd.func48, Tryd.ntmps48
    go_wp2_with (first | ((with_reducible refine gate_dst (N := 2) rfl ?_); refine box_event ?hg (N := 2) ?hd (cs := #[.int .i32 a0_0, .int .i32 a0_1]) (t := 86) ?hr ?_; (case hd => rfl); (case hg => rfl); (case hr => first | (go_simp; done) | (go_simp; rfl)); intro gb101 hg w6 hbox hb; have n0_ := Aside0.mk (below_step (by repeat (first | (with_reducible first | exact HB.out | apply below_alloc | apply pw_below_drewN | apply below_drew1) | exact HB.out)) hb); have n1_ := Aside0.mk (hbox); have n2_ := Aside0.mk ((by rw [hg]; exact (below_size (by repeat (first | (with_reducible first | exact HB.out | apply below_alloc | apply pw_below_drewN | apply below_drew1) | exact HB.out))) : w.heap.size ≤ gb101)); have n3_ := Aside0.mk ((by rw [hg]; exact (below_size (by repeat (first | (with_reducible first | exact HB.out | apply below_alloc | apply pw_below_drewN | apply below_drew1) | exact HB.out))) : w.heap.size ≤ gb101)); clear HB; have HB := n0_; have BK101 := n1_; have GW101 := n2_; have GE101 := n3_; clear n0_ n1_ n2_ n3_; clear hb hbox hg; have hcz7_0 : w6.cell? ⟨gb101, 0, none⟩ = some (.int .i32 a0_0) := (blk_cell BK101.out 0).trans rfl; have hcz7_1 : w6.cell? ⟨gb101, 1, none⟩ = some (.int .i32 a0_1) := (blk_cell BK101.out 1).trans rfl; have hfz7_0 := blk_frozen BK101.out 0; have hfz7_1 := blk_frozen BK101.out 1))
    go_ret
    exact ⟨by first | rfl | (simp [errW_none, errW_some] <;> rfl) | (simp [*, errW_none, errW_some] <;> rfl), by repeat (first | (with_reducible first | exact HB.out | apply below_alloc | apply pw_below_drewN | apply below_drew1 | refine below_set ?_ GE101.out) | exact HB.out)⟩

end Go.Proofs.YtfelfpjfjjgmoaaDoor.P
end
/- Lean functions for functions of the program, and that the Go code comes to their answers, where the library's variables are as Gd says. Written by a turned copy of the kit's print; Lean checks it. -/
section
namespace Go.Proofs.YtfelfpjfjjgmoaaDoor.P
open Go.RowKit Go.Proofs.YtfelfpjfjjgmoaaDoorW.PrintWords Go.Proofs.YtfelfpjfjjgmoaaDoorW.PrintLast Go.Proofs.YtfelfpjfjjgmoaaDoorW.PrintMore
attribute [local go_sem] max2_int min2_int max_two min_two max_three min_three max_four min_four   -- for this text's walks alone
set_option linter.unusedVariables false
set_option linter.unusedSimpArgs false

/-! ### utf_shown: function 32 -/
def utf_shown.f (a0 : Int) : Option (Bool) := (utf_span_rune_has.f 32 65533 a0).bind fun t102 => (if t102 = true then (some true) else ((utf_span_rune_has.f 65536 1114111 a0).bind fun t103 => (some t103)))
set_option maxHeartbeats 8000000 in
set_option maxRecDepth 100000 in
theorem utf_shown.calls (a0 : Int) (r : Bool) (w : World) (hG_ : Gd w) (h : utf_shown.f a0 = some r) :
    Calls Tryd.prog 32 #[.int .i32 a0] w fun e w' => e = .returned (.bool r) ∧ Below w.heap.size w w' := by
  have hu86 := Tryd.underlying86
  have HB := Aside0.mk (Below.refl w.heap.size w)
  have HG := Aside0.mk hG_
  clear hG_
  have H : ((utf_span_rune_has.f 32 65533 a0).bind fun t102 => (if t102 = true then (some true) else ((utf_span_rune_has.f 65536 1114111 a0).bind fun t103 => (some t103)))) = some r := h
  clear h
  replace H := Option.bind_eq_some_iff.mp H
  obtain ⟨t102, A20, H⟩ := H
  replace H : (if t102 = true then (some true) else ((utf_span_rune_has.f 65536 1114111 a0).bind fun t103 => (some t103))) = some r := H
  have A2 := Aside0.mk A20
  clear A20
  by_cases c3 : t102 = true
  · subst c3
    have H1 : (some true) = some r := by rw [if_pos rfl] at H; exact H
    clear H
    have H := H1
    clear H1
    obtain rfl := Option.some.inj H
    go_enter Tryd.func32, Tryd.ntmps32
    go_wp2_with (first | ((with_reducible refine gate_callee (f := 48) rfl ?_); refine goesL_ (some 5) rfl rfl Tryd.func48 (by kernel_rfl) rfl #[.agg #[.int .i32 32, .int .i32 65533], .int .i32 a0] rfl (by (try simp only [List.map_toArray, List.map_cons, List.map_nil]); first | done | rfl | (simp only [List.length_drop, List.length_take]; rfl)) ?_; (with_reducible refine (utf_span_rune_has.calls 32 65533 a0 true _ ?side1 A2.out).mono ?_); (case side1 => first | exact HG.out | exact Gd.drewN HG.out _ | exact Gd.drew HG.out | exact Gd.below HG.out (by repeat (first | (with_reducible first | exact HB.out | apply below_alloc | apply pw_below_drewN | apply below_drew1) | exact HB.out))); rintro e w4 ⟨rfl, hb⟩; refine ⟨_, rfl, ?_⟩; have n0_ := Aside0.mk (below_step (by repeat (first | (with_reducible first | exact HB.out | apply below_alloc | apply pw_below_drewN | apply below_drew1) | exact HB.out)) hb); clear HB; have HB := n0_; clear n0_; (try clear hb); (try clear hb2); (try clear hk); (try clear hi)))
    go_ret
    exact ⟨by first | rfl | (simp [errW_none, errW_some] <;> rfl) | (simp [*, errW_none, errW_some] <;> rfl), by repeat (first | (with_reducible first | exact HB.out | apply below_alloc | apply pw_below_drewN | apply below_drew1) | exact HB.out)⟩
  · replace c3 := Bool.eq_false_iff.mpr c3
    subst c3
    have H1 : ((utf_span_rune_has.f 65536 1114111 a0).bind fun t103 => (some t103)) = some r := by rw [if_neg (show ¬ (false = true) by decide)] at H; exact H
    clear H
    have H := H1
    clear H1
    replace H := Option.bind_eq_some_iff.mp H
    obtain ⟨t103, A50, H⟩ := H
    replace H : (some t103) = some r := H
    have A5 := Aside0.mk A50
    clear A50
    obtain rfl := Option.some.inj H
    go_enter Tryd.func32, Tryd.ntmps32
    go_wp2_with (first | ((with_reducible refine gate_callee (f := 48) rfl ?_); refine goesL_ (some 5) rfl rfl Tryd.func48 (by kernel_rfl) rfl #[.agg #[.int .i32 32, .int .i32 65533], .int .i32 a0] rfl (by (try simp only [List.map_toArray, List.map_cons, List.map_nil]); first | done | rfl | (simp only [List.length_drop, List.length_take]; rfl)) ?_; (with_reducible refine (utf_span_rune_has.calls 32 65533 a0 false _ ?side1 A2.out).mono ?_); (case side1 => first | exact HG.out | exact Gd.drewN HG.out _ | exact Gd.drew HG.out | exact Gd.below HG.out (by repeat (first | (with_reducible first | exact HB.out | apply below_alloc | apply pw_below_drewN | apply below_drew1) | exact HB.out))); rintro e w6 ⟨rfl, hb⟩; refine ⟨_, rfl, ?_⟩; have n0_ := Aside0.mk (below_step (by repeat (first | (with_reducible first | exact HB.out | apply below_alloc | apply pw_below_drewN | apply below_drew1) | exact HB.out)) hb); clear HB; have HB := n0_; clear n0_; (try clear hb); (try clear hb2); (try clear hk); (try clear hi)) | (go_at_call 48; (with_reducible refine (utf_span_rune_has.calls 65536 1114111 a0 t103 _ ?side1 A5.out).mono ?_); (case side1 => first | exact HG.out | exact Gd.drewN HG.out _ | exact Gd.drew HG.out | exact Gd.below HG.out (by repeat (first | (with_reducible first | exact HB.out | apply below_alloc | apply pw_below_drewN | apply below_drew1) | exact HB.out))); rintro e w7 ⟨rfl, hb⟩; have n0_ := Aside0.mk (below_step (by repeat (first | (with_reducible first | exact HB.out | apply below_alloc | apply pw_below_drewN | apply below_drew1) | exact HB.out)) hb); clear HB; have HB := n0_; clear n0_; (try clear hb); (try clear hb2); (try clear hk); (try clear hi)))
    go_ret
    exact ⟨by first | rfl | (simp [errW_none, errW_some] <;> rfl) | (simp [*, errW_none, errW_some] <;> rfl), by repeat (first | (with_reducible first | exact HB.out | apply below_alloc | apply pw_below_drewN | apply below_drew1) | exact HB.out)⟩

end Go.Proofs.YtfelfpjfjjgmoaaDoor.P
end
/- Lean functions for functions of the program, and that the Go code comes to their answers, where the library's variables are as Gd says. Written by a turned copy of the kit's print; Lean checks it. -/
section
namespace Go.Proofs.YtfelfpjfjjgmoaaDoor.P
open Go.RowKit Go.Proofs.YtfelfpjfjjgmoaaDoorW.PrintWords Go.Proofs.YtfelfpjfjjgmoaaDoorW.PrintLast Go.Proofs.YtfelfpjfjjgmoaaDoorW.PrintMore
attribute [local go_sem] max2_int min2_int max_two min_two max_three min_three max_four min_four   -- for this text's walks alone
set_option linter.unusedVariables false
set_option linter.unusedSimpArgs false

/-! ### utf_may: function 22 -/
def utf_may.f (a0 : Int) : Option (Bool) := if a0 = 9 then (some true) else (if a0 = 10 then (some true) else (if a0 = 13 then (some true) else ((utf_shown.f a0).bind fun t104 => (some t104))))
set_option maxHeartbeats 8000000 in
set_option maxRecDepth 100000 in
theorem utf_may.calls (a0 : Int) (r : Bool) (w : World) (hG_ : Gd w) (h : utf_may.f a0 = some r) :
    Calls Tryd.prog 22 #[.int .i32 a0] w fun e w' => e = .returned (.bool r) ∧ Below w.heap.size w w' := by
  have HB := Aside0.mk (Below.refl w.heap.size w)
  have HG := Aside0.mk hG_
  clear hG_
  have H : (if a0 = 9 then (some true) else (if a0 = 10 then (some true) else (if a0 = 13 then (some true) else ((utf_shown.f a0).bind fun t104 => (some t104))))) = some r := h
  clear h
  by_cases c2 : a0 = 9
  · rw [if_pos c2] at H
    have c2b0 : (a0 == 9) = true := beq_iff_eq.mpr c2
    have c2b1 : (a0 != 9) = false := bne_eq_false_iff_eq.mpr c2
    clear c2
    obtain rfl := Option.some.inj H
    go_enter Tryd.func22, Tryd.ntmps22
    go_wp2
    go_ret
    exact ⟨by first | rfl | (simp [errW_none, errW_some] <;> rfl) | (simp [*, errW_none, errW_some] <;> rfl), by repeat (first | (with_reducible first | exact HB.out | apply below_alloc | apply pw_below_drewN | apply below_drew1) | exact HB.out)⟩
  · rw [if_neg c2] at H
    have c2b0 : (a0 == 9) = false := beq_eq_false_iff_ne.mpr c2
    have c2b1 : (a0 != 9) = true := bne_iff_ne.mpr c2
    by_cases c3 : a0 = 10
    · rw [if_pos c3] at H
      have c3b0 : (a0 == 10) = true := beq_iff_eq.mpr c3
      have c3b1 : (a0 != 10) = false := bne_eq_false_iff_eq.mpr c3
      clear c3
      obtain rfl := Option.some.inj H
      go_enter Tryd.func22, Tryd.ntmps22
      go_wp2
      go_ret
      exact ⟨by first | rfl | (simp [errW_none, errW_some] <;> rfl) | (simp [*, errW_none, errW_some] <;> rfl), by repeat (first | (with_reducible first | exact HB.out | apply below_alloc | apply pw_below_drewN | apply below_drew1) | exact HB.out)⟩
    · rw [if_neg c3] at H
      have c3b0 : (a0 == 10) = false := beq_eq_false_iff_ne.mpr c3
      have c3b1 : (a0 != 10) = true := bne_iff_ne.mpr c3
      by_cases c4 : a0 = 13
      · rw [if_pos c4] at H
        have c4b0 : (a0 == 13) = true := beq_iff_eq.mpr c4
        have c4b1 : (a0 != 13) = false := bne_eq_false_iff_eq.mpr c4
        clear c4
        obtain rfl := Option.some.inj H
        go_enter Tryd.func22, Tryd.ntmps22
        go_wp2
        go_ret
        exact ⟨by first | rfl | (simp [errW_none, errW_some] <;> rfl) | (simp [*, errW_none, errW_some] <;> rfl), by repeat (first | (with_reducible first | exact HB.out | apply below_alloc | apply pw_below_drewN | apply below_drew1) | exact HB.out)⟩
      · rw [if_neg c4] at H
        have c4b0 : (a0 == 13) = false := beq_eq_false_iff_ne.mpr c4
        have c4b1 : (a0 != 13) = true := bne_iff_ne.mpr c4
        replace H := Option.bind_eq_some_iff.mp H
        obtain ⟨t104, A50, H⟩ := H
        replace H : (some t104) = some r := H
        have A5 := Aside0.mk A50
        clear A50
        obtain rfl := Option.some.inj H
        go_enter Tryd.func22, Tryd.ntmps22
        go_wp2_with (first | (go_at_call 32; (with_reducible refine (utf_shown.calls a0 t104 _ ?side1 A5.out).mono ?_); (case side1 => first | exact HG.out | exact Gd.drewN HG.out _ | exact Gd.drew HG.out | exact Gd.below HG.out (by repeat (first | (with_reducible first | exact HB.out | apply below_alloc | apply pw_below_drewN | apply below_drew1) | exact HB.out))); rintro e w6 ⟨rfl, hb⟩; have n0_ := Aside0.mk (below_step (by repeat (first | (with_reducible first | exact HB.out | apply below_alloc | apply pw_below_drewN | apply below_drew1) | exact HB.out)) hb); clear HB; have HB := n0_; clear n0_; (try clear hb); (try clear hb2); (try clear hk); (try clear hi)))
        go_ret
        exact ⟨by first | rfl | (simp [errW_none, errW_some] <;> rfl) | (simp [*, errW_none, errW_some] <;> rfl), by repeat (first | (with_reducible first | exact HB.out | apply below_alloc | apply pw_below_drewN | apply below_drew1) | exact HB.out)⟩

end Go.Proofs.YtfelfpjfjjgmoaaDoor.P
end
/- utf.Valid of the program: by its callees' contracts. -/
section
set_option linter.unusedVariables false
namespace Go.Proofs.YtfelfpjfjjgmoaaDoor
open Go.RowKit Go.Shelf Go.Proofs.YtfelfpjfjjgmoaaDoorW.PrintWords

/-- The first place below n (from k on) at which p holds. -/
def firstAt (p : Nat → Bool) (n : Nat) : Nat → Int
  | 0 => -1
  | d + 1 => if p (n - (d + 1)) then ((n - (d + 1) : Nat) : Int) else firstAt p n d

/-- What a function value is asked for at the elements of a row: the answer p j at the j-th, in every later world. -/
def PredRow (P : Program) (g : Nat) (lb : Array Value) (v : Nat → Value) (p : Nat → Bool) (n : Nat) (w : World) : Prop :=
  ∀ (W : World) (j : Nat), j < n → Below w.heap.size w W → Calls P g (#[v j] ++ lb) W fun e w' => e = .returned (.bool (p j)) ∧ Below W.heap.size W w'

set_option maxHeartbeats 2000000 in
theorem IdxRune (g : Nat) (lb : Array Value) (v : Nat → Value) (p : Nat → Bool) (eg : ∀ args w, (callFunc g args).run Tryd.prog w = .ok (.enter g args) w) (A : Option Addr) (n c : Nat) (w : World)
    (hp : PredRow Tryd.prog g lb v p n w) (hbig : n ≤ 9223372036854775807) (hc : 0 < n → ∃ ad, A = some ad ∧ ∀ j, j < n → w.cell? (ad.add j) = some (v j)) :
    Calls Tryd.prog 59 #[.slice A n c, .func (.func g) #[] lb] w fun e w' => e = .returned (.int .i64 (firstAt p n n)) ∧ Below w.heap.size w w' := by
  go_enter Tryd.func59, Tryd.ntmps59
  go_wp2
  go_loopg [5, 8] n (fun gg _ s8 wr => ∃ kk : Nat, kk ≤ n ∧ n - kk ≤ gg ∧ s8 = .int .i64 kk ∧ Aside (Below w.heap.size w wr) ∧ Aside (firstAt p n n = firstAt p n (n - kk)))
  case atStart => exact ⟨0, Nat.zero_le _, by omega, rfl, Below.refl _ w, rfl⟩
  case round =>
    obtain ⟨kk, hkk, hg, rfl, BW, HA⟩ := hrel
    by_cases hlt : kk < n
    · have hltz : (kk : Int) < (n : Int) := by omega
      obtain ⟨ad, rfl, hcell⟩ := hc (by omega)
      have hcall := hp wr kk hlt BW.out
      have hck := (BW.out.cell (World.block_lt_of_cell? w _ (hcell kk hlt))).trans (hcell kk hlt)
      clear hc hp hcell
      have HE := Aside0.mk (show firstAt p n (n - kk) = if p kk then (kk : Int) else firstAt p n (n - (kk + 1)) from by
        obtain ⟨d, hd⟩ : ∃ d, n - kk = d + 1 := ⟨n - kk - 1, by omega⟩
        rw [hd]
        simp only [firstAt]
        rw [show n - (d + 1) = kk from by omega, show n - (kk + 1) = d from by omega])
      cases hq : p kk with
      | true =>
        rw [hq] at hcall
        go_wp2_with (go_at_fn g; refine hcall.mono ?_; rintro e w' ⟨rfl, hb'⟩)
        go_ret
        refine ⟨?_, BW.out.trans (hb'.mono BW.out.size)⟩
        rw [HA.out, HE.out, hq]
        rfl
      | false =>
        rw [hq] at hcall
        go_wp2_with (go_at_fn g; refine hcall.mono ?_; rintro e w' ⟨rfl, hb'⟩)
        go_roundg (n - (kk + 1))
        case measure => omega
        case rel =>
          refine ⟨kk + 1, by omega, by omega, by go_num, BW.out.trans (hb'.mono BW.out.size), ?_⟩
          show firstAt p n n = _
          rw [HA.out, HE.out, hq]
          rfl
    · have hltz : ¬ (kk : Int) < (n : Int) := by omega
      have : kk = n := by omega
      subst this
      go_wp2
      go_ret
      refine ⟨?_, BW.out⟩
      rw [HA.out, Nat.sub_self]
      rfl
/-- Is p true somewhere below n? -/
def anyAt (p : Nat → Bool) (n : Nat) : Bool := (List.range n).any p
theorem firstAt_any (p : Nat → Bool) (n : Nat) : ∀ d, d ≤ n → decide (0 ≤ firstAt p n d) = (List.range d).any (fun i => p (n - (i + 1)))
  | 0, _ => by simp [firstAt]
  | d + 1, h => by
    have ih := firstAt_any p n d (by omega)
    rw [List.range_succ, List.any_append, ← ih]
    simp only [firstAt, List.any_cons, List.any_nil, Bool.or_false]
    by_cases hp : p (n - (d + 1)) = true
    · simp [hp]
    · simp [hp]
theorem firstAt_anyAt (p : Nat → Bool) (n : Nat) : decide (0 ≤ firstAt p n n) = anyAt p n := by
  rw [firstAt_any p n n (Nat.le_refl _)]
  unfold anyAt
  rw [Bool.eq_iff_iff]
  simp only [List.any_eq_true, List.mem_range]
  constructor
  · rintro ⟨x, hx, h⟩; exact ⟨_, by omega, h⟩
  · rintro ⟨x, hx, h⟩; exact ⟨n - (x + 1), by omega, by rw [show n - (n - (x + 1) + 1) = x from by omega]; exact h⟩

set_option maxHeartbeats 2000000 in
theorem ContainsRune (g : Nat) (lb : Array Value) (v : Nat → Value) (p : Nat → Bool) (eg : ∀ args w, (callFunc g args).run Tryd.prog w = .ok (.enter g args) w) (A : Option Addr) (n c : Nat) (w : World)
    (hp : PredRow Tryd.prog g lb v p n w) (hbig : n ≤ 9223372036854775807) (hc : 0 < n → ∃ ad, A = some ad ∧ ∀ j, j < n → w.cell? (ad.add j) = some (v j)) :
    Calls Tryd.prog 46 #[.slice A n c, .func (.func g) #[] lb] w fun e w' => e = .returned (.bool (anyAt p n)) ∧ Below w.heap.size w w' := by
  have C := IdxRune g lb v p eg A n c w hp hbig hc
  have F := Aside0.mk (firstAt_anyAt p n)
  clear hp hc
  generalize firstAt p n n = r at C F
  go_enter Tryd.func46, Tryd.ntmps46
  go_wp2_with (go_at_call 59; refine C.mono ?_; rintro e w' ⟨rfl, hb'⟩)
  go_ret
  refine ⟨?_, hb'⟩
  rw [← F.out]
  rfl

/-- utf.each: of a function value without captured variables. -/
theorem each1 (g : Nat) (v : Nat → Value) (p : Nat → Bool) (n : Nat) (eg : ∀ args w, (callFunc g args).run Tryd.prog w = .ok (.enter g args) w) (w : World) (B : Nat) (hB : B < w.heap.size)
    (hbox : w.cell? ⟨B, 0, none⟩ = some (.func (.func g) #[] #[])) (hp : PredRow Tryd.prog g #[] v p n w) : PredRow Tryd.prog 47 #[.pointer (some ⟨B, 0, none⟩)] v (fun j => !p j) n w := by
  intro W j hj hb
  have hc' : W.cell? ⟨B, 0, none⟩ = some (.func (.func g) #[] #[]) := (hb.cell (p := ⟨B, 0, none⟩) hB).trans hbox
  have C := hp W j hj hb
  show Calls _ _ (#[v j] ++ _) W fun e w' => e = .returned (.bool (!p j)) ∧ Below W.heap.size W w'
  generalize v j = x at C ⊢
  generalize p j = q at C ⊢
  clear hp hbox
  go_enter Tryd.func47, Tryd.ntmps47
  go_wp2_with (go_at_fn g; refine C.mono ?_; rintro e w' ⟨rfl, hb'⟩)
  go_ret
  exact ⟨rfl, hb'⟩

theorem each_calls (g : Nat) (v : Nat → Value) (p : Nat → Bool) (eg : ∀ args w, (callFunc g args).run Tryd.prog w = .ok (.enter g args) w) (A : Option Addr) (n c : Nat) (w : World)
    (hp : PredRow Tryd.prog g #[] v p n w) (hbig : n ≤ 9223372036854775807) (hc : 0 < n → ∃ ad, A = some ad ∧ ∀ j, j < n → w.cell? (ad.add j) = some (v j)) :
    Calls Tryd.prog 31 #[.slice A n c, .func (.func g) #[] #[]] w fun e w' => e = .returned (.bool (!anyAt (fun j => !p j) n)) ∧ Below w.heap.size w w' := by
  have eg1 := enters_of Tryd.func47 (by kernel_rfl) rfl
  have C := fun (W : World) (hb : Below w.heap.size w W) (hlt : w.heap.size < W.heap.size) (hbox : W.cell? ⟨w.heap.size, 0, none⟩ = some (.func (.func g) #[] #[])) =>
    ContainsRune 47 #[.pointer (some ⟨w.heap.size, 0, none⟩)] v (fun j => !p j) eg1 A n c W
      (each1 g v p n eg W w.heap.size hlt hbox (fun W' j hj hb' => hp W' j hj (hb.trans (hb'.mono hb.size)))) hbig
      (fun h => let ⟨ad, ha, hcell⟩ := hc h; ⟨ad, ha, fun j hj => pw_cell_below hb (hcell j hj)⟩)
  generalize anyAt (fun j => !p j) n = r at C ⊢
  clear hp hc
  go_enter Tryd.func31, Tryd.ntmps31
  go_wp2_with (go_at_call 46; refine (C _ ?h1 ?h2 ?h3).mono ?_; (case h1 => exact below_alloc (Below.refl _ _) _); (case h2 => simp); (case h3 => simp); rintro e w' ⟨rfl, hb'⟩)
  go_ret
  exact ⟨rfl, (below_alloc (Below.refl _ _) _).trans (hb'.mono (by simp))⟩
/-! ### the runes of a string -/
def runesZ (s : ByteArray) : Nat → Nat → List Int
  | 0, _ => []
  | b + 1, i => if i < s.size then ((Utf8.decode s i).1 : Int) :: runesZ s b (i + (Utf8.decode s i).2) else []
theorem runesFrom_eq (s : ByteArray) : ∀ (b i : Nat) (acc : Array Value), Conv.runesFrom s b i acc = acc ++ ((runesZ s b i).map (Value.int .i32)).toArray
  | 0, _, acc => by simp [Conv.runesFrom, runesZ]
  | b + 1, i, acc => by
    unfold Conv.runesFrom runesZ
    split
    · simp only []
      rw [runesFrom_eq s b]
      simp
    · simp
def runesOf (s : ByteArray) : List Int := runesZ s s.size 0
theorem runesOf_eq (s : ByteArray) : Conv.runesFrom s s.size 0 #[] = ((runesOf s).map (Value.int .i32)).toArray := by
  rw [runesFrom_eq]; simp [runesOf]
theorem runesOf_le (s : ByteArray) : (runesOf s).length ≤ s.size := by
  have h := size_runesFrom s s.size 0 #[]
  rw [runesOf_eq] at h
  simpa using h
/-- '[]rune(s)' at the dump. -/
theorem conv_runes (s : ByteArray) (hs : s.size ≤ 70368744177664) :
    ∃ c : World → Nat, ∀ w : World, (convert 9 62 (.string s)).run Tryd.prog w = .ok (.slice (some ⟨w.heap.size, 0, none⟩) (runesOf s).length (c w))
      (w.drew.alloc (.cells (((runesOf s).map (Value.int .i32)).toArray ++ Array.replicate (c w - (runesOf s).length) (.int .i32 0)) 21)) := by
  have hl := runesOf_le s
  refine ⟨fun w => grownCap w (runesOf s).length 0 21, fun w => ?_⟩
  have h := run_runes_of_string (P := Tryd.prog) w 9 62 21 s Tryd.underlying9 Tryd.underlying62 Tryd.underlying21 (by rw [runesOf_eq]; simp; omega)
  rw [runesOf_eq] at h
  simpa using h
theorem runes_cells (w : World) (l : List Int) (x : Nat) (j : Nat) (hj : j < l.length) :
    (w.alloc (.cells ((l.map (Value.int .i32)).toArray ++ Array.replicate x (.int .i32 0)) 21)).cell? ((⟨w.heap.size, 0, none⟩ : Addr).add j) = some (.int .i32 (l.getD j 0)) := by
  rw [add_plain, World.cell?_alloc_new]
  simp [List.getD_eq_getElem?_getD, hj, Array.getElem?_append]

/-- A test of a rune that the program makes by a function: called at r it answers p r. -/
def RuneTest (P : Program) (g : Nat) (p : Int → Bool) : Prop := ∀ (r : Int) (W : World), Gd W → Calls P g #[.int .i32 r] W fun e w' => e = .returned (.bool (p r)) ∧ Below W.heap.size W w'

def allB (p : Int → Bool) (l : List Int) : Bool := l.all p
theorem any_all (p : Int → Bool) (l : List Int) : (!anyAt (fun j => !p (l.getD j 0)) l.length) = allB p l := by
  unfold anyAt allB
  rw [Bool.eq_iff_iff]
  simp only [Bool.not_eq_true', List.all_eq_true]
  constructor
  · intro h x hx
    obtain ⟨i, hi, rfl⟩ := List.getElem_of_mem hx
    have := List.any_eq_false.1 h i (List.mem_range.2 hi)
    simpa [List.getD_eq_getElem?_getD, hi] using this
  · intro h
    rw [List.any_eq_false]
    intro i hi
    have hi' := List.mem_range.1 hi
    simpa [List.getD_eq_getElem?_getD, hi'] using h _ (List.getElem_mem hi')

def textB (p : Int → Bool) (s : ByteArray) : Bool := Lib.validD s.data.toList && allB p (runesOf s)
theorem text_calls (g : Nat) (p : Int → Bool) (eg : ∀ args w, (callFunc g args).run Tryd.prog w = .ok (.enter g args) w) (hp : RuneTest Tryd.prog g p) (s : ByteArray) (hs : s.size ≤ 70368744177664) (w : World) (hG_ : Gd w) :
    Calls Tryd.prog 21 #[.string s, .func (.func g) #[] #[]] w fun e w' => e = .returned (.bool (textB p s)) ∧ Below w.heap.size w w' := by
  have C1 := G_ValidString.calls s (Lib.validD s.data.toList) w hG_ (by unfold G_ValidString.f; rw [if_pos (by omega)])
  obtain ⟨cap, kc⟩ := conv_runes s hs
  have hl := runesOf_le s
  have C2 := fun (W : World) (hGW : Gd W) (A : Option Addr) (c : Nat) (hc : 0 < (runesOf s).length → ∃ ad, A = some ad ∧ ∀ j, j < (runesOf s).length → W.cell? (ad.add j) = some (.int .i32 ((runesOf s).getD j 0))) =>
    each_calls g (fun j => .int .i32 ((runesOf s).getD j 0)) (fun j => p ((runesOf s).getD j 0)) eg A (runesOf s).length c W (fun W' j _ hb => hp _ W' (hGW.below hb)) (by omega) hc
  simp only [any_all] at C2
  unfold textB
  generalize runesOf s = l at kc C2 hl ⊢
  generalize allB p l = q at C2 ⊢
  cases hv : Lib.validD s.data.toList with
  | false =>
    rw [hv] at C1
    clear kc C2
    go_enter Tryd.func21, Tryd.ntmps21
    go_wp2_with (go_at_call 30; refine C1.mono ?_; rintro e w1 ⟨rfl, hb1⟩)
    go_ret
    exact ⟨rfl, hb1⟩
  | true =>
    rw [hv] at C1
    go_enter Tryd.func21, Tryd.ntmps21
    go_wp2_with (first | (go_at_call 30; refine C1.mono ?_; rintro e w1 ⟨rfl, hb1⟩) | (go_at_call 31; refine (C2 _ ?hg _ _ ?hc).mono ?_; (case hg => exact hG_.below (below_drew (below_alloc hb1 _))); (case hc => exact fun _ => ⟨_, rfl, fun j hj => runes_cells w1 l _ j hj⟩); rintro e w2 ⟨rfl, hb2⟩))
    go_ret
    refine ⟨rfl, ?_⟩
    exact (below_drew (below_alloc hb1 _)).trans (hb2.mono (by have := hb1.size; simp; omega))

def shownB (r : Int) : Bool := (decide (32 ≤ r) && decide (r ≤ 65533)) || (decide (65536 ≤ r) && decide (r ≤ 1114111))
def mayB (r : Int) : Bool := r == 9 || r == 10 || r == 13 || shownB r
theorem has_eq (a b r : Int) : P.utf_span_rune_has.f a b r = some (decide (a ≤ r) && decide (r ≤ b)) := by
  unfold P.utf_span_rune_has.f
  split <;> rename_i h
  · simp [show a ≤ r from h]
  · have : ¬ a ≤ r := h
    simp [this]
theorem shown_eq (r : Int) : P.utf_shown.f r = some (shownB r) := by
  unfold P.utf_shown.f shownB
  rw [has_eq, has_eq]
  simp only [Option.bind_some]
  cases decide (32 ≤ r) && decide (r ≤ 65533) <;> simp
theorem may_eq (r : Int) : P.utf_may.f r = some (mayB r) := by
  unfold P.utf_may.f mayB
  rw [shown_eq]
  simp only [Option.bind_some]
  by_cases h1 : r = 9 <;> by_cases h2 : r = 10 <;> by_cases h3 : r = 13 <;> simp [h1, h2, h3]
theorem may_test : RuneTest Tryd.prog 22 mayB := fun r W hg => (P.utf_may.calls r (mayB r) W hg (may_eq r)).mono fun _ _ ⟨he, hd⟩ => ⟨he, hd⟩
theorem shown_test : RuneTest Tryd.prog 32 shownB := fun r W hg => (P.utf_shown.calls r (shownB r) W hg (shown_eq r)).mono fun _ _ ⟨he, hd⟩ => ⟨he, hd⟩

/-! ### utf.Valid -/
def validB (s : ByteArray) : Bool := textB mayB s
def G_Valid.f (s : ByteArray) : Option Bool := if s.size ≤ 70368744177664 then some (validB s) else none
theorem G_Valid.calls (a0 : ByteArray) (r : Bool) (w : World) (hG_ : Gd w) (h : G_Valid.f a0 = some r) :
    Calls Tryd.prog 14 #[.string a0] w fun e w' => e = .returned (.bool r) ∧ Below w.heap.size w w' := by
  unfold G_Valid.f at h
  split at h
  · rename_i hs
    injection h with h
    subst h
    have C := text_calls 22 mayB (enters_of Tryd.func22 (by kernel_rfl) rfl) may_test a0 hs w hG_
    unfold validB
    generalize textB mayB a0 = q at C ⊢
    go_enter Tryd.func14, Tryd.ntmps14
    go_wp2_with (go_at_call 21; refine C.mono ?_; rintro e w1 ⟨rfl, hb1⟩)
    go_ret
    exact ⟨rfl, hb1⟩
  · cases h
end Go.Proofs.YtfelfpjfjjgmoaaDoor
end
/- escape.number and what it calls: internal/strconv.ParseUint and strconv.ParseUint at the bases 10 and 16, 32 bits. -/
section
set_option linter.unusedVariables false
namespace Go.Proofs.YtfelfpjfjjgmoaaDoor
open Go.RowKit Go.Shelf Go.Proofs.YtfelfpjfjjgmoaaDoorW.PrintWords

/-- A letter made small, as the code makes it. -/
def lowB (c : Int) : Int := Go.bits .or .u8 c 32
theorem lowB_range : ∀ c : Fin 256, 0 ≤ lowB ((c.val : Nat) : Int) ∧ lowB ((c.val : Nat) : Int) ≤ 255 := by decide +kernel
theorem lowB_bound (c : Int) (h0 : 0 ≤ c) (h1 : c ≤ 255) : 0 ≤ lowB c ∧ lowB c ≤ 255 := by
  have h := lowB_range ⟨c.toNat, by omega⟩
  rwa [show ((c.toNat : Nat) : Int) = c from by omega] at h
/-- A digit's value; 99: none. -/
def dv (c : Int) : Int := if 48 ≤ c ∧ c ≤ 57 then c - 48 else if 97 ≤ lowB c ∧ lowB c ≤ 122 then lowB c - 87 else 99
/-- What is behind m: the number and no error, or an error (2: no numeral, 1: too great). -/
def pu (b : Int) : Int → List UInt8 → Int × Option Int
  | m, [] => (m, none)
  | m, c :: l => if dv (c.toNat : Int) ≥ b then (0, some 2) else if m * b + dv (c.toNat : Int) > 4294967295 then (4294967295, some 1) else pu b (m * b + dv (c.toNat : Int)) l
def puS (b : Int) (s : ByteArray) : Int × Option Int := if s.size = 0 then (0, some 2) else pu b 0 s.data.toList
def errI : Option Int → Value
  | none => .nilIface
  | some c => .iface 122 (.int .i64 c)
theorem lower_calls (c : Int) (w : World) : Calls Tryd.prog 82 #[.int .u8 c] w fun e w' => e = .returned (.int .u8 (lowB c)) ∧ w = w' := by
  unfold lowB
  go_enter Tryd.func82, Tryd.ntmps82
  go_wp2
  go_ret
  exact ⟨rfl, rfl⟩
theorem data_get (s : ByteArray) (k : Nat) (h : k < s.size) : s.data.toList.drop k = (s.get! k) :: s.data.toList.drop (k + 1) := by
  have h' : k < s.data.toList.length := by rw [data_length]; exact h
  rw [List.drop_eq_getElem_cons h']
  congr 1
  cases s with
  | mk d =>
    show d.toList[k] = d[k]!
    rw [getElem!_pos d k h]
    simp
theorem getD_get (s : ByteArray) (k : Nat) (h : k < s.size) : s.data.toList.getD k 0 = s.get! k := by
  have h' : k < s.data.toList.length := by rw [data_length]; exact h
  have := data_get s k h
  rw [List.drop_eq_getElem_cons h'] at this
  injection this with h1 _
  rw [← h1, List.getD_eq_getElem?_getD, List.getElem?_eq_getElem h']
  rfl

set_option maxHeartbeats 4000000 in
set_option maxRecDepth 100000 in
theorem iParse16 (s : ByteArray) (hs : s.size ≤ 9223372036854775806) (w : World) :
    Calls Tryd.prog 78 #[.string s, .int .i64 16, .int .i64 32] w fun e w' => e = .returned (.tuple #[.int .u64 (puS 16 s).1, errI (puS 16 s).2]) ∧ Below w.heap.size w w' := by
  by_cases h0 : s.size = 0
  · have hv : s = ⟨#[]⟩ := by
      obtain ⟨⟨l⟩⟩ := s
      cases l with
      | nil => rfl
      | cons x l => exact absurd h0 (by simp [ByteArray.size])
    subst hv
    have hp : puS 16 ⟨#[]⟩ = (0, some 2) := rfl
    rw [hp]
    go_enter Tryd.func78, Tryd.ntmps78
    go_wp2
    go_ret2
    exact ⟨rfl, Below.refl _ _⟩
  · have hp : puS 16 s = pu 16 0 s.data.toList := by unfold puS; rw [if_neg h0]
    rw [hp]
    obtain ⟨ANS, hANS⟩ : ∃ ANS, pu 16 0 s.data.toList = ANS := ⟨_, rfl⟩
    rw [hANS]
    have HA := Aside0.mk hANS
    have hz : s.toList.isEmpty = false := by
      rw [Lib.toList_data]
      cases hh : s.data.toList with
      | nil => exact absurd (by rw [Lib.size_eq, hh]; rfl) h0
      | cons x l => rfl
    have kb := fun W => Lib.run_convert_string_bytes (P := Tryd.prog) W 9 37 5 s Tryd.underlying9 Tryd.underlying37 Tryd.underlying5
    have hcell := fun (j : Nat) (hj : j < s.size) => Lib.bytesWorld_cell w 5 s j hj
    have hB : Aside0 (Below w.heap.size w (Lib.bytesWorld w 5 s)) := ⟨bytes_below (Below.refl _ _) (Nat.le_refl _) _ _⟩
    clear hANS hp
    go_enter Tryd.func78, Tryd.ntmps78
    go_wp2
    go_loop [12, 13, 101] (fun us n i => ∃ k : Nat, ∃ m : Int, k ≤ s.size ∧ us = .bool false ∧ i = .int .i64 k ∧ n = .int .u64 m ∧ 0 ≤ m ∧ m ≤ 4294967295 ∧ Aside0 (pu 16 m (s.data.toList.drop k) = ANS)) (fun _ _ i => s.size - (intOf i).toNat)
    case atStart => exact ⟨0, 0, Nat.zero_le _, rfl, rfl, rfl, by omega, by omega, by rw [List.drop_zero]; exact HA⟩
    case round =>
      clear HA
      obtain ⟨k, m, hk, rfl, rfl, rfl, hm0, hm1, HP⟩ := hrel
      by_cases hlt : k < s.size
      · have hltz : (k : Int) < (s.size : Int) := by omega
        have hck := hcell k hlt
        have hcv := getD_get s k hlt
        rw [hcv] at hck
        have HP' := Aside0.mk (show pu 16 m (s.get! k :: s.data.toList.drop (k + 1)) = ANS from by rw [← data_get s k hlt]; exact HP.out)
        clear HP hcell hcv
        have hb := (s.get! k).toNat_lt
        obtain ⟨c, hc⟩ : ∃ c : Int, ((s.get! k).toNat : Int) = c := ⟨_, rfl⟩
        rw [hc] at hck
        have hc0 : 0 ≤ c := by omega
        have hc1 : c ≤ 255 := by omega
        have HD := Aside0.mk (show (if dv c ≥ 16 then ((0 : Int), some (2 : Int)) else if m * 16 + dv c > 4294967295 then (4294967295, some 1) else pu 16 (m * 16 + dv c) (s.data.toList.drop (k + 1))) = ANS from by rw [← hc]; exact HP'.out)
        clear HP' hb hc
        have hl := lowB_bound c hc0 hc1
        obtain ⟨hl0, hl1⟩ := hl
        have CL := fun W => lower_calls c W
        have hr : k ≤ s.size := hk
        by_cases d1 : 48 ≤ c ∧ c ≤ 57
        · obtain ⟨d1a, d1b⟩ := d1
          have hd := Aside0.mk (show dv c = c - 48 from by unfold dv; rw [if_pos ⟨d1a, d1b⟩])
          rw [hd.out] at HD
          by_cases e1 : c - 48 ≥ 16
          · exfalso; omega
          · have e1' : c - 48 < 16 := by omega
            by_cases e2 : m * 16 + (c - 48) > 4294967295
            · have HE := Aside0.mk (show ((4294967295 : Int), some (1 : Int)) = ANS from by have h := HD.out; rw [if_neg e1, if_pos e2] at h; exact h)
              clear HD e1
              go_wp2_with (first | (go_at_call 82; refine (CL _).mono ?_; rintro e w' ⟨rfl, rfl⟩))
              go_ret2
              exact ⟨by rw [← HE.out]; rfl, hB.out⟩
            · have HE := Aside0.mk (show pu 16 (m * 16 + (c - 48)) (s.data.toList.drop (k + 1)) = ANS from by have h := HD.out; rw [if_neg e1, if_neg e2] at h; exact h)
              have e2' : m * 16 + (c - 48) ≤ 4294967295 := by omega
              clear HD e1 e2
              go_wp2_with (first | (go_at_call 82; refine (CL _).mono ?_; rintro e w' ⟨rfl, rfl⟩))
              go_round
              case rel => exact ⟨k + 1, m * 16 + (c - 48), by omega, rfl, by go_num, by go_num, by omega, by omega, HE⟩
              case measure => simp [intOf]; omega
        · have d1n : ¬ (48 ≤ c ∧ c ≤ 57) := d1
          by_cases d2 : 97 ≤ lowB c ∧ lowB c ≤ 122
          · obtain ⟨d2a, d2b⟩ := d2
            have h95 : (c == 95) = false := beq_eq_false_iff_ne.2 (fun h => by rw [h] at d2b; exact absurd d2b (by decide))
            have hd := Aside0.mk (show dv c = lowB c - 87 from by unfold dv; rw [if_neg d1n, if_pos ⟨d2a, d2b⟩])
            rw [hd.out] at HD
            generalize lowB c = q at CL HD d2a d2b hl0 hl1 hd
            by_cases d1a : 48 ≤ c
            · have d1b : ¬ c ≤ 57 := fun h => d1n ⟨d1a, h⟩
              clear d1n
              by_cases e1 : q - 87 ≥ 16
              · have HE := Aside0.mk (show ((0 : Int), some (2 : Int)) = ANS from by have h := HD.out; rw [if_pos e1] at h; exact h)
                clear HD
                go_wp2_with (first | (go_at_call 82; refine (CL _).mono ?_; rintro e w' ⟨rfl, rfl⟩))
                go_ret2
                exact ⟨by rw [← HE.out]; rfl, hB.out⟩
              · have e1' : q - 87 < 16 := by omega
                by_cases e2 : m * 16 + (q - 87) > 4294967295
                · have HE := Aside0.mk (show ((4294967295 : Int), some (1 : Int)) = ANS from by have h := HD.out; rw [if_neg e1, if_pos e2] at h; exact h)
                  clear HD e1
                  go_wp2_with (first | (go_at_call 82; refine (CL _).mono ?_; rintro e w' ⟨rfl, rfl⟩))
                  go_ret2
                  exact ⟨by rw [← HE.out]; rfl, hB.out⟩
                · have HE := Aside0.mk (show pu 16 (m * 16 + (q - 87)) (s.data.toList.drop (k + 1)) = ANS from by have h := HD.out; rw [if_neg e1, if_neg e2] at h; exact h)
                  have e2' : m * 16 + (q - 87) ≤ 4294967295 := by omega
                  clear HD e1 e2
                  go_wp2_with (first | (go_at_call 82; refine (CL _).mono ?_; rintro e w' ⟨rfl, rfl⟩))
                  go_round
                  case rel => exact ⟨k + 1, m * 16 + (q - 87), by omega, rfl, by go_num, by go_num, by omega, by omega, HE⟩
                  case measure => simp [intOf]; omega
            · clear d1n
              by_cases e1 : q - 87 ≥ 16
              · have HE := Aside0.mk (show ((0 : Int), some (2 : Int)) = ANS from by have h := HD.out; rw [if_pos e1] at h; exact h)
                clear HD
                go_wp2_with (first | (go_at_call 82; refine (CL _).mono ?_; rintro e w' ⟨rfl, rfl⟩))
                go_ret2
                exact ⟨by rw [← HE.out]; rfl, hB.out⟩
              · have e1' : q - 87 < 16 := by omega
                by_cases e2 : m * 16 + (q - 87) > 4294967295
                · have HE := Aside0.mk (show ((4294967295 : Int), some (1 : Int)) = ANS from by have h := HD.out; rw [if_neg e1, if_pos e2] at h; exact h)
                  clear HD e1
                  go_wp2_with (first | (go_at_call 82; refine (CL _).mono ?_; rintro e w' ⟨rfl, rfl⟩))
                  go_ret2
                  exact ⟨by rw [← HE.out]; rfl, hB.out⟩
                · have HE := Aside0.mk (show pu 16 (m * 16 + (q - 87)) (s.data.toList.drop (k + 1)) = ANS from by have h := HD.out; rw [if_neg e1, if_neg e2] at h; exact h)
                  have e2' : m * 16 + (q - 87) ≤ 4294967295 := by omega
                  clear HD e1 e2
                  go_wp2_with (first | (go_at_call 82; refine (CL _).mono ?_; rintro e w' ⟨rfl, rfl⟩))
                  go_round
                  case rel => exact ⟨k + 1, m * 16 + (q - 87), by omega, rfl, by go_num, by go_num, by omega, by omega, HE⟩
                  case measure => simp [intOf]; omega
          · have hd := Aside0.mk (show dv c = 99 from by unfold dv; rw [if_neg d1n, if_neg d2])
            rw [hd.out] at HD
            generalize lowB c = q at CL HD d2 hl0 hl1 hd
            have HE := Aside0.mk (show (0, some 2) = ANS from by have h := HD.out; rw [if_pos (by omega)] at h; exact h)
            clear HD
            by_cases h95e : c = 95
            · subst h95e
              by_cases d2a : 97 ≤ q
              · have d2b : ¬ q ≤ 122 := fun h => d2 ⟨d2a, h⟩
                go_wp2_with (first | (go_at_call 82; refine (CL _).mono ?_; rintro e w' ⟨rfl, rfl⟩))
                go_ret2
                exact ⟨by rw [← HE.out]; rfl, hB.out⟩
              · go_wp2_with (first | (go_at_call 82; refine (CL _).mono ?_; rintro e w' ⟨rfl, rfl⟩))
                go_ret2
                exact ⟨by rw [← HE.out]; rfl, hB.out⟩
            · have h95 : (c == 95) = false := beq_eq_false_iff_ne.2 h95e
              by_cases d1a : 48 ≤ c <;> by_cases d2a : 97 ≤ q
              · have d1b : ¬ c ≤ 57 := fun h => d1n ⟨d1a, h⟩
                have d2b : ¬ q ≤ 122 := fun h => d2 ⟨d2a, h⟩
                go_wp2_with (first | (go_at_call 82; refine (CL _).mono ?_; rintro e w' ⟨rfl, rfl⟩))
                go_ret2
                exact ⟨by rw [← HE.out]; rfl, hB.out⟩
              · have d1b : ¬ c ≤ 57 := fun h => d1n ⟨d1a, h⟩
                go_wp2_with (first | (go_at_call 82; refine (CL _).mono ?_; rintro e w' ⟨rfl, rfl⟩))
                go_ret2
                exact ⟨by rw [← HE.out]; rfl, hB.out⟩
              · have d2b : ¬ q ≤ 122 := fun h => d2 ⟨d2a, h⟩
                go_wp2_with (first | (go_at_call 82; refine (CL _).mono ?_; rintro e w' ⟨rfl, rfl⟩))
                go_ret2
                exact ⟨by rw [← HE.out]; rfl, hB.out⟩
              · go_wp2_with (first | (go_at_call 82; refine (CL _).mono ?_; rintro e w' ⟨rfl, rfl⟩))
                go_ret2
                exact ⟨by rw [← HE.out]; rfl, hB.out⟩
      · have hge : ¬ (k : Int) < (s.size : Int) := by omega
        have HE := Aside0.mk (show (m, none) = ANS from by
          have h := HP.out
          rw [List.drop_eq_nil_of_le (by rw [data_length]; omega)] at h
          exact h)
        clear HP hcell
        go_wp2
        go_ret2
        exact ⟨by rw [← HE.out]; rfl, hB.out⟩

set_option maxHeartbeats 4000000 in
set_option maxRecDepth 100000 in
theorem iParse10 (s : ByteArray) (hs : s.size ≤ 9223372036854775806) (w : World) :
    Calls Tryd.prog 78 #[.string s, .int .i64 10, .int .i64 32] w fun e w' => e = .returned (.tuple #[.int .u64 (puS 10 s).1, errI (puS 10 s).2]) ∧ Below w.heap.size w w' := by
  by_cases h0 : s.size = 0
  · have hv : s = ⟨#[]⟩ := by
      obtain ⟨⟨l⟩⟩ := s
      cases l with
      | nil => rfl
      | cons x l => exact absurd h0 (by simp [ByteArray.size])
    subst hv
    have hp : puS 10 ⟨#[]⟩ = (0, some 2) := rfl
    rw [hp]
    go_enter Tryd.func78, Tryd.ntmps78
    go_wp2
    go_ret2
    exact ⟨rfl, Below.refl _ _⟩
  · have hp : puS 10 s = pu 10 0 s.data.toList := by unfold puS; rw [if_neg h0]
    rw [hp]
    obtain ⟨ANS, hANS⟩ : ∃ ANS, pu 10 0 s.data.toList = ANS := ⟨_, rfl⟩
    rw [hANS]
    have HA := Aside0.mk hANS
    have hz : s.toList.isEmpty = false := by
      rw [Lib.toList_data]
      cases hh : s.data.toList with
      | nil => exact absurd (by rw [Lib.size_eq, hh]; rfl) h0
      | cons x l => rfl
    have kb := fun W => Lib.run_convert_string_bytes (P := Tryd.prog) W 9 37 5 s Tryd.underlying9 Tryd.underlying37 Tryd.underlying5
    have hcell := fun (j : Nat) (hj : j < s.size) => Lib.bytesWorld_cell w 5 s j hj
    have hB : Aside0 (Below w.heap.size w (Lib.bytesWorld w 5 s)) := ⟨bytes_below (Below.refl _ _) (Nat.le_refl _) _ _⟩
    clear hANS hp
    go_enter Tryd.func78, Tryd.ntmps78
    go_wp2
    go_loop [12, 13, 101] (fun us n i => ∃ k : Nat, ∃ m : Int, k ≤ s.size ∧ us = .bool false ∧ i = .int .i64 k ∧ n = .int .u64 m ∧ 0 ≤ m ∧ m ≤ 4294967295 ∧ Aside0 (pu 10 m (s.data.toList.drop k) = ANS)) (fun _ _ i => s.size - (intOf i).toNat)
    case atStart => exact ⟨0, 0, Nat.zero_le _, rfl, rfl, rfl, by omega, by omega, by rw [List.drop_zero]; exact HA⟩
    case round =>
      clear HA
      obtain ⟨k, m, hk, rfl, rfl, rfl, hm0, hm1, HP⟩ := hrel
      by_cases hlt : k < s.size
      · have hltz : (k : Int) < (s.size : Int) := by omega
        have hck := hcell k hlt
        have hcv := getD_get s k hlt
        rw [hcv] at hck
        have HP' := Aside0.mk (show pu 10 m (s.get! k :: s.data.toList.drop (k + 1)) = ANS from by rw [← data_get s k hlt]; exact HP.out)
        clear HP hcell hcv
        have hb := (s.get! k).toNat_lt
        obtain ⟨c, hc⟩ : ∃ c : Int, ((s.get! k).toNat : Int) = c := ⟨_, rfl⟩
        rw [hc] at hck
        have hc0 : 0 ≤ c := by omega
        have hc1 : c ≤ 255 := by omega
        have HD := Aside0.mk (show (if dv c ≥ 10 then ((0 : Int), some (2 : Int)) else if m * 10 + dv c > 4294967295 then (4294967295, some 1) else pu 10 (m * 10 + dv c) (s.data.toList.drop (k + 1))) = ANS from by rw [← hc]; exact HP'.out)
        clear HP' hb hc
        have hl := lowB_bound c hc0 hc1
        obtain ⟨hl0, hl1⟩ := hl
        have CL := fun W => lower_calls c W
        have hr : k ≤ s.size := hk
        by_cases d1 : 48 ≤ c ∧ c ≤ 57
        · obtain ⟨d1a, d1b⟩ := d1
          have hd := Aside0.mk (show dv c = c - 48 from by unfold dv; rw [if_pos ⟨d1a, d1b⟩])
          rw [hd.out] at HD
          by_cases e1 : c - 48 ≥ 10
          · exfalso; omega
          · have e1' : c - 48 < 10 := by omega
            by_cases e2 : m * 10 + (c - 48) > 4294967295
            · have HE := Aside0.mk (show ((4294967295 : Int), some (1 : Int)) = ANS from by have h := HD.out; rw [if_neg e1, if_pos e2] at h; exact h)
              clear HD e1
              go_wp2_with (first | (go_at_call 82; refine (CL _).mono ?_; rintro e w' ⟨rfl, rfl⟩))
              go_ret2
              exact ⟨by rw [← HE.out]; rfl, hB.out⟩
            · have HE := Aside0.mk (show pu 10 (m * 10 + (c - 48)) (s.data.toList.drop (k + 1)) = ANS from by have h := HD.out; rw [if_neg e1, if_neg e2] at h; exact h)
              have e2' : m * 10 + (c - 48) ≤ 4294967295 := by omega
              clear HD e1 e2
              go_wp2_with (first | (go_at_call 82; refine (CL _).mono ?_; rintro e w' ⟨rfl, rfl⟩))
              go_round
              case rel => exact ⟨k + 1, m * 10 + (c - 48), by omega, rfl, by go_num, by go_num, by omega, by omega, HE⟩
              case measure => simp [intOf]; omega
        · have d1n : ¬ (48 ≤ c ∧ c ≤ 57) := d1
          by_cases d2 : 97 ≤ lowB c ∧ lowB c ≤ 122
          · obtain ⟨d2a, d2b⟩ := d2
            have h95 : (c == 95) = false := beq_eq_false_iff_ne.2 (fun h => by rw [h] at d2b; exact absurd d2b (by decide))
            have hd := Aside0.mk (show dv c = lowB c - 87 from by unfold dv; rw [if_neg d1n, if_pos ⟨d2a, d2b⟩])
            rw [hd.out] at HD
            generalize lowB c = q at CL HD d2a d2b hl0 hl1 hd
            by_cases d1a : 48 ≤ c
            · have d1b : ¬ c ≤ 57 := fun h => d1n ⟨d1a, h⟩
              clear d1n
              have HE := Aside0.mk (show ((0 : Int), some (2 : Int)) = ANS from by have h := HD.out; rw [if_pos (by omega)] at h; exact h)
              clear HD
              go_wp2_with (first | (go_at_call 82; refine (CL _).mono ?_; rintro e w' ⟨rfl, rfl⟩))
              go_ret2
              exact ⟨by rw [← HE.out]; rfl, hB.out⟩
            · clear d1n
              have HE := Aside0.mk (show ((0 : Int), some (2 : Int)) = ANS from by have h := HD.out; rw [if_pos (by omega)] at h; exact h)
              clear HD
              go_wp2_with (first | (go_at_call 82; refine (CL _).mono ?_; rintro e w' ⟨rfl, rfl⟩))
              go_ret2
              exact ⟨by rw [← HE.out]; rfl, hB.out⟩
          · have hd := Aside0.mk (show dv c = 99 from by unfold dv; rw [if_neg d1n, if_neg d2])
            rw [hd.out] at HD
            generalize lowB c = q at CL HD d2 hl0 hl1 hd
            have HE := Aside0.mk (show (0, some 2) = ANS from by have h := HD.out; rw [if_pos (by omega)] at h; exact h)
            clear HD
            by_cases h95e : c = 95
            · subst h95e
              by_cases d2a : 97 ≤ q
              · have d2b : ¬ q ≤ 122 := fun h => d2 ⟨d2a, h⟩
                go_wp2_with (first | (go_at_call 82; refine (CL _).mono ?_; rintro e w' ⟨rfl, rfl⟩))
                go_ret2
                exact ⟨by rw [← HE.out]; rfl, hB.out⟩
              · go_wp2_with (first | (go_at_call 82; refine (CL _).mono ?_; rintro e w' ⟨rfl, rfl⟩))
                go_ret2
                exact ⟨by rw [← HE.out]; rfl, hB.out⟩
            · have h95 : (c == 95) = false := beq_eq_false_iff_ne.2 h95e
              by_cases d1a : 48 ≤ c <;> by_cases d2a : 97 ≤ q
              · have d1b : ¬ c ≤ 57 := fun h => d1n ⟨d1a, h⟩
                have d2b : ¬ q ≤ 122 := fun h => d2 ⟨d2a, h⟩
                go_wp2_with (first | (go_at_call 82; refine (CL _).mono ?_; rintro e w' ⟨rfl, rfl⟩))
                go_ret2
                exact ⟨by rw [← HE.out]; rfl, hB.out⟩
              · have d1b : ¬ c ≤ 57 := fun h => d1n ⟨d1a, h⟩
                go_wp2_with (first | (go_at_call 82; refine (CL _).mono ?_; rintro e w' ⟨rfl, rfl⟩))
                go_ret2
                exact ⟨by rw [← HE.out]; rfl, hB.out⟩
              · have d2b : ¬ q ≤ 122 := fun h => d2 ⟨d2a, h⟩
                go_wp2_with (first | (go_at_call 82; refine (CL _).mono ?_; rintro e w' ⟨rfl, rfl⟩))
                go_ret2
                exact ⟨by rw [← HE.out]; rfl, hB.out⟩
              · go_wp2_with (first | (go_at_call 82; refine (CL _).mono ?_; rintro e w' ⟨rfl, rfl⟩))
                go_ret2
                exact ⟨by rw [← HE.out]; rfl, hB.out⟩
      · have hge : ¬ (k : Int) < (s.size : Int) := by omega
        have HE := Aside0.mk (show (m, none) = ANS from by
          have h := HP.out
          rw [List.drop_eq_nil_of_le (by rw [data_length]; omega)] at h
          exact h)
        clear HP hcell
        go_wp2
        go_ret2
        exact ⟨by rw [← HE.out]; rfl, hB.out⟩
end Go.Proofs.YtfelfpjfjjgmoaaDoor
end
/- escape.number: what a numeral at the bases 10 and 16 stands for. -/
section
set_option linter.unusedVariables false
namespace Go.Proofs.YtfelfpjfjjgmoaaDoor
open Go.RowKit Go.Shelf Go.Proofs.YtfelfpjfjjgmoaaDoorW.PrintWords

theorem pu_err (b : Int) : ∀ (l : List UInt8) (m : Int), (pu b m l).2 = none ∨ (pu b m l).2 = some 2 ∨ (pu b m l).2 = some 1
  | [], m => .inl rfl
  | c :: l, m => by
    unfold pu
    split
    · exact .inr (.inl rfl)
    · split
      · exact .inr (.inr rfl)
      · exact pu_err b l _
theorem puS_err (b : Int) (s : ByteArray) : (puS b s).2 = none ∨ (puS b s).2 = some 2 ∨ (puS b s).2 = some 1 := by
  unfold puS
  split
  · exact .inr (.inl rfl)
  · exact pu_err b _ _
theorem pu_range (b : Int) (hb : 0 ≤ b) : ∀ (l : List UInt8) (m : Int), 0 ≤ m → m ≤ 4294967295 → 0 ≤ (pu b m l).1 ∧ (pu b m l).1 ≤ 4294967295
  | [], m, h0, h1 => ⟨h0, h1⟩
  | c :: l, m, h0, h1 => by
    have hd : 0 ≤ dv (c.toNat : Int) := by
      unfold dv
      split
      · omega
      · split
        · omega
        · omega
    unfold pu
    split
    · exact ⟨by simp, by simp⟩
    · split
      · exact ⟨by simp, by simp⟩
      · exact pu_range b hb l _ (by have := Int.mul_nonneg h0 hb; omega) (by omega)
theorem puS_range (b : Int) (hb : 0 ≤ b) (s : ByteArray) : 0 ≤ (puS b s).1 ∧ (puS b s).1 ≤ 4294967295 := by
  unfold puS
  split
  · exact ⟨by simp, by simp⟩
  · exact pu_range b hb _ _ (by omega) (by omega)

theorem iParse (b : Int) (hb : b = 10 ∨ b = 16) (s : ByteArray) (hs : s.size ≤ 9223372036854775806) (w : World) :
    Calls Tryd.prog 78 #[.string s, .int .i64 b, .int .i64 32] w fun e w' => e = .returned (.tuple #[.int .u64 (puS b s).1, errI (puS b s).2]) ∧ Below w.heap.size w w' := by
  rcases hb with rfl | rfl
  · exact iParse10 s hs w
  · exact iParse16 s hs w

set_option maxHeartbeats 2000000 in
theorem uParse_ok (b : Int) (hb : b = 10 ∨ b = 16) (s : ByteArray) (hs : s.size ≤ 281474976710656) (h : (puS b s).2 = none) (w : World) :
    Calls Tryd.prog 71 #[.string s, .int .i64 b, .int .i64 32] w fun e w' => e = .returned (.tuple #[.int .u64 (puS b s).1, .nilIface]) ∧ Below w.heap.size w w' := by
  have C := iParse b hb s (by omega) w
  rw [h] at C
  simp only [errI] at C
  generalize (puS b s).1 = v at C ⊢
  clear h hb
  go_enter Tryd.func71, Tryd.ntmps71
  go_wp2_with (go_at_call 78; refine C.mono ?_; rintro e w1 ⟨rfl, hb1⟩)
  go_ret2
  exact ⟨rfl, hb1⟩

theorem toErr (c : Int) (hc : c = 2 ∨ c = 1) (fn s : ByteArray) (b n : Int) (hs : s.size ≤ 281474976710656) (w : World) (hG_ : Gd w) :
    Calls Tryd.prog 79 #[.string fn, .string s, .int .i64 b, .int .i64 n, .iface 122 (.int .i64 c)] w fun e w' => (∃ t p, e = .returned (.iface t p)) ∧ Below w.heap.size w w' := by
  obtain ⟨_, _, ⟨t3, p3, h3⟩, t4, p4, h4⟩ := hG_
  rcases hc with rfl | rfl
  · exact (Any.strconv_toError_syntax Tryd.laysC245 fn s b n _ w hs h3 (.inr ⟨t3, p3, rfl⟩)).mono fun e w' ⟨N, he, _, _, hb⟩ => ⟨⟨_, _, he⟩, hb⟩
  · exact (Any.strconv_toError_range Tryd.laysC245 fn s b n _ w hs h4 (.inr ⟨t4, p4, rfl⟩)).mono fun e w' ⟨N, he, _, _, hb⟩ => ⟨⟨_, _, he⟩, hb⟩

def SomeErr (w : World) (e : Ending) (w' : World) : Prop := ∃ (v : Int) (t : TypeId) (p : Value), e = .returned (.tuple #[.int .u64 v, .iface t p]) ∧ Below w.heap.size w w'
set_option maxHeartbeats 2000000 in
theorem uParse_err (b : Int) (hb : b = 10 ∨ b = 16) (s : ByteArray) (hs : s.size ≤ 281474976710656) (h : (puS b s).2 ≠ none) (w : World) (hG_ : Gd w) :
    Calls Tryd.prog 71 #[.string s, .int .i64 b, .int .i64 32] w (SomeErr w) := by
  have C := iParse b hb s (by omega) w
  obtain ⟨c, hc, h2⟩ : ∃ c, (c = 2 ∨ c = 1) ∧ (puS b s).2 = some c := by
    rcases puS_err b s with h1 | h1 | h1
    · exact absurd h1 h
    · exact ⟨2, .inl rfl, h1⟩
    · exact ⟨1, .inr rfl, h1⟩
  rw [h2] at C
  simp only [errI] at C
  have T := fun (W : World) (hb : Below w.heap.size w W) => toErr c hc ⟨#[80, 97, 114, 115, 101, 85, 105, 110, 116]⟩ s b 32 hs W (hG_.below hb)
  generalize (puS b s).1 = v at C
  clear h h2 hb hc
  go_enter Tryd.func71, Tryd.ntmps71
  go_wp2_with (first | (go_at_call 78; refine C.mono ?_; rintro e w1 ⟨rfl, hb1⟩) | (go_at_call 79; refine (T _ hb1).mono ?_; rintro e w2 ⟨⟨t, p, rfl⟩, hb2⟩))
  go_ret2
  exact ⟨v, t, p, rfl, hb1.trans (hb2.mono hb1.size)⟩
/-- The character of a numeral, or the empty text. -/
def numF (b most : Int) (s : ByteArray) : ByteArray :=
  if (puS b s).2 = none then (if (s.size : Int) > most then ⟨#[]⟩ else if (puS b s).1 > 1114111 then ⟨#[]⟩ else if Lib.validRune (puS b s).1 = true then (if validB (Utf8.encode (puS b s).1) = true then Utf8.encode (puS b s).1 else ⟨#[]⟩) else ⟨#[]⟩) else ⟨#[]⟩
def enc4 (c : Nat) : ByteArray :=
  if c < 0x80 then ⟨#[UInt8.ofNat c]⟩
  else if c < 0x800 then ⟨#[UInt8.ofNat (0xC0 + c / 64), UInt8.ofNat (0x80 + c % 64)]⟩
  else if c < 0x10000 then ⟨#[UInt8.ofNat (0xE0 + c / 4096), UInt8.ofNat (0x80 + c / 64 % 64), UInt8.ofNat (0x80 + c % 64)]⟩
  else ⟨#[UInt8.ofNat (0xF0 + c / 262144), UInt8.ofNat (0x80 + c / 4096 % 64), UInt8.ofNat (0x80 + c / 64 % 64), UInt8.ofNat (0x80 + c % 64)]⟩
theorem enc4_size (c : Nat) : (enc4 c).size ≤ 4 := by
  unfold enc4
  split
  · exact (show (1 : Nat) ≤ 4 by omega)
  · split
    · exact (show (2 : Nat) ≤ 4 by omega)
    · split
      · exact (show (3 : Nat) ≤ 4 by omega)
      · exact (show (4 : Nat) ≤ 4 by omega)
theorem encode_size (r : Int) : (Utf8.encode r).size ≤ 4 := enc4_size _
def G_number.f (s : ByteArray) (b most : Int) : Option ByteArray := if s.size ≤ 281474976710656 then (if b = 10 ∨ b = 16 then some (numF b most s) else none) else none
set_option maxHeartbeats 4000000 in
set_option maxRecDepth 100000 in
theorem G_number.calls (a0 : ByteArray) (a1 a2 : Int) (r : ByteArray) (w : World) (hG_ : Gd w) (h : G_number.f a0 a1 a2 = some r) :
    Calls Tryd.prog 58 #[.string a0, .int .i64 a1, .int .i64 a2] w fun e w' => e = .returned (.string r) ∧ Below w.heap.size w w' := by
  unfold G_number.f at h
  split at h
  rotate_left
  · cases h
  rename_i hs
  split at h
  rotate_left
  · cases h
  rename_i hb
  injection h with h
  unfold numF at h
  by_cases he : (puS a1 a0).2 = none
  rotate_left
  · rw [if_neg he] at h
    subst h
    have C := uParse_err a1 hb a0 hs he w hG_
    clear hb he
    go_enter Tryd.func58, Tryd.ntmps58
    go_wp2_with (go_at_call 71; refine C.mono ?_; rintro e w1 ⟨v, t, p, rfl, hb1⟩)
    go_ret
    exact ⟨rfl, hb1⟩
  rw [if_pos he] at h
  have C := uParse_ok a1 hb a0 hs he w
  have hr := puS_range a1 (by omega) a0
  obtain ⟨hr0, hr1⟩ := hr
  generalize (puS a1 a0).1 = v at C h hr0 hr1
  clear hb he
  by_cases h1 : (a0.size : Int) > a2
  · rw [if_pos h1] at h
    subst h
    go_enter Tryd.func58, Tryd.ntmps58
    go_wp2_with (go_at_call 71; refine C.mono ?_; rintro e w1 ⟨rfl, hb1⟩)
    go_ret
    exact ⟨rfl, hb1⟩
  rw [if_neg h1] at h
  have h1' : (a0.size : Int) ≤ a2 := by omega
  clear h1
  by_cases h2 : v > 1114111
  · rw [if_pos h2] at h
    subst h
    go_enter Tryd.func58, Tryd.ntmps58
    go_wp2_with (go_at_call 71; refine C.mono ?_; rintro e w1 ⟨rfl, hb1⟩)
    go_ret
    exact ⟨rfl, hb1⟩
  rw [if_neg h2] at h
  have h2' : v ≤ 1114111 := by omega
  clear h2
  have CR := fun W => (Any.utf8_ValidRune Tryd.lays119 v W)
  change ∀ W, Calls Tryd.prog 72 #[.int .i32 v] W _ at CR
  cases h3 : Lib.validRune v with
  | false =>
    rw [h3] at h CR
    simp only [Bool.false_eq_true, if_false] at h
    subst h
    clear h3
    go_enter Tryd.func58, Tryd.ntmps58
    go_wp2_with (first | (go_at_call 71; refine C.mono ?_; rintro e w1 ⟨rfl, hb1⟩) | (go_at_call 72; refine (CR _).mono ?_; rintro e w2 ⟨rfl, rfl⟩))
    go_ret
    exact ⟨rfl, hb1⟩
  | true =>
    rw [h3] at h CR
    simp only [if_true] at h
    clear h3
    have CV := fun (W : World) (hb : Below w.heap.size w W) => G_Valid.calls (Utf8.encode v) (validB (Utf8.encode v)) W (hG_.below hb) (by unfold G_Valid.f; rw [if_pos (by have := encode_size v; omega)])
    cases h4 : validB (Utf8.encode v) with
    | false =>
      rw [h4] at h CV
      simp only [Bool.false_eq_true, if_false] at h
      subst h
      clear h4
      go_enter Tryd.func58, Tryd.ntmps58
      go_wp2_with (first | (go_at_call 71; refine C.mono ?_; rintro e w1 ⟨rfl, hb1⟩) | (go_at_call 72; refine (CR _).mono ?_; rintro e w2 ⟨rfl, rfl⟩) | (go_at_call 14; refine (CV _ hb1).mono ?_; rintro e w3 ⟨rfl, hb3⟩))
      go_ret
      exact ⟨rfl, hb1.trans (hb3.mono hb1.size)⟩
    | true =>
      rw [h4] at h CV
      simp only [if_true] at h
      subst h
      clear h4
      go_enter Tryd.func58, Tryd.ntmps58
      go_wp2_with (first | (go_at_call 71; refine C.mono ?_; rintro e w1 ⟨rfl, hb1⟩) | (go_at_call 72; refine (CR _).mono ?_; rintro e w2 ⟨rfl, rfl⟩) | (go_at_call 14; refine (CV _ hb1).mono ?_; rintro e w3 ⟨rfl, hb3⟩))
      go_ret
      exact ⟨rfl, hb1.trans (hb3.mono hb1.size)⟩
end Go.Proofs.YtfelfpjfjjgmoaaDoor
end
/- Lean functions for functions of the program, and that the Go code comes to their answers, where the library's variables are as Gd says. Written by a turned copy of the kit's print; Lean checks it. -/
section
namespace Go.Proofs.YtfelfpjfjjgmoaaDoor.P
open Go.RowKit Go.Proofs.YtfelfpjfjjgmoaaDoorW.PrintWords Go.Proofs.YtfelfpjfjjgmoaaDoorW.PrintLast Go.Proofs.YtfelfpjfjjgmoaaDoorW.PrintMore
attribute [local go_sem] max2_int min2_int max_two min_two max_three min_three max_four min_four   -- for this text's walks alone
set_option linter.unusedVariables false
set_option linter.unusedSimpArgs false

/-! ### stringslite_HasPrefix: function 49 -/
def stringslite_HasPrefix.f (a0 : ByteArray) (a1 : ByteArray) : Option (Bool) := if (a0.size : Int) ≥ (a1.size : Int) then (if 0 ≤ (a1.size : Int) then (if (a1.size : Int) ≤ (a0.size : Int) then (some ((a0.extract 0 ((a1.size : Int) : Int).toNat).toList == a1.toList)) else (none)) else (none)) else (some false)
set_option maxHeartbeats 8000000 in
set_option maxRecDepth 100000 in
theorem stringslite_HasPrefix.calls (a0 : ByteArray) (a1 : ByteArray) (r : Bool) (w : World) (hG_ : Gd w) (h : stringslite_HasPrefix.f a0 a1 = some r) :
    Calls Tryd.prog 49 #[.string a0, .string a1] w fun e w' => e = .returned (.bool r) ∧ Drawn0 w w' := by
  have HG := Aside0.mk hG_
  clear hG_
  have H : (if (a0.size : Int) ≥ (a1.size : Int) then (if 0 ≤ (a1.size : Int) then (if (a1.size : Int) ≤ (a0.size : Int) then (some ((a0.extract 0 ((a1.size : Int) : Int).toNat).toList == a1.toList)) else (none)) else (none)) else (some false)) = some r := h
  clear h
  by_cases c3 : (a0.size : Int) ≥ (a1.size : Int)
  · rw [if_pos c3] at H
    have c3b0 : decide ((a1.size : Int) ≤ (a0.size : Int)) = true := decide_eq_true c3
    have c3b1 : decide (a1.size ≤ a0.size) = true := decide_eq_true (Int.ofNat_le.mp c3)
    clear c3
    by_cases c4 : 0 ≤ (a1.size : Int)
    · rw [if_pos c4] at H
      have c4b0 := eq_true c4
      have c4b1 : decide (0 ≤ (a1.size : Int)) = true := decide_eq_true c4
      clear c4
      by_cases c5 : (a1.size : Int) ≤ (a0.size : Int)
      · rw [if_pos c5] at H
        have c5b0 := eq_true c5
        have c5b1 : decide ((a1.size : Int) ≤ (a0.size : Int)) = true := decide_eq_true c5
        clear c5
        obtain rfl := Option.some.inj H
        go_enter Tryd.func49, Tryd.ntmps49
        go_wp2
        go_ret
        exact ⟨by first | rfl | (simp; done) | (simp [*]; done), by repeat (first | exact Drawn0.refl _ | apply Drawn0.step)⟩
      · rw [if_neg c5] at H
        exact absurd H (by simp)
    · rw [if_neg c4] at H
      exact absurd H (by simp)
  · rw [if_neg c3] at H
    have c3b0 : decide ((a1.size : Int) ≤ (a0.size : Int)) = false := decide_eq_false c3
    have c3b1 : decide (a1.size ≤ a0.size) = false := decide_eq_false (fun h => c3 (Int.ofNat_le.mpr h))
    clear c3
    obtain rfl := Option.some.inj H
    go_enter Tryd.func49, Tryd.ntmps49
    go_wp2
    go_ret
    exact ⟨by first | rfl | (simp; done) | (simp [*]; done), by repeat (first | exact Drawn0.refl _ | apply Drawn0.step)⟩

end Go.Proofs.YtfelfpjfjjgmoaaDoor.P
end
/- Lean functions for functions of the program, and that the Go code comes to their answers, where the library's variables are as Gd says. Written by a turned copy of the kit's print; Lean checks it. -/
section
namespace Go.Proofs.YtfelfpjfjjgmoaaDoor.P
open Go.RowKit Go.Proofs.YtfelfpjfjjgmoaaDoorW.PrintWords Go.Proofs.YtfelfpjfjjgmoaaDoorW.PrintLast Go.Proofs.YtfelfpjfjjgmoaaDoorW.PrintMore
attribute [local go_sem] max2_int min2_int max_two min_two max_three min_three max_four min_four   -- for this text's walks alone
set_option linter.unusedVariables false
set_option linter.unusedSimpArgs false

/-! ### stringslite_CutPrefix: function 33 -/
def stringslite_CutPrefix.f (a0 : ByteArray) (a1 : ByteArray) : Option (ByteArray × Bool) := (stringslite_HasPrefix.f a0 a1).bind fun t105 => (if t105 = true then (if 0 ≤ (a1.size : Int) then (if (a1.size : Int) ≤ (a0.size : Int) then (some (a0.extract ((a1.size : Int) : Int).toNat a0.size, true)) else (none)) else (none)) else (some (a0, false)))
set_option maxHeartbeats 8000000 in
set_option maxRecDepth 100000 in
theorem stringslite_CutPrefix.calls (a0 : ByteArray) (a1 : ByteArray) (r1 : ByteArray) (r2 : Bool) (w : World) (hG_ : Gd w) (h : stringslite_CutPrefix.f a0 a1 = some (r1, r2)) :
    Calls Tryd.prog 33 #[.string a0, .string a1] w fun e w' => e = .returned (.tuple #[.string r1, .bool r2]) ∧ Drawn0 w w' := by
  have HG := Aside0.mk hG_
  clear hG_
  have H : ((stringslite_HasPrefix.f a0 a1).bind fun t105 => (if t105 = true then (if 0 ≤ (a1.size : Int) then (if (a1.size : Int) ≤ (a0.size : Int) then (some (a0.extract ((a1.size : Int) : Int).toNat a0.size, true)) else (none)) else (none)) else (some (a0, false)))) = some (r1, r2) := h
  clear h
  replace H := Option.bind_eq_some_iff.mp H
  obtain ⟨t105, A30, H⟩ := H
  replace H : (if t105 = true then (if 0 ≤ (a1.size : Int) then (if (a1.size : Int) ≤ (a0.size : Int) then (some (a0.extract ((a1.size : Int) : Int).toNat a0.size, true)) else (none)) else (none)) else (some (a0, false))) = some (r1, r2) := H
  have A3 := Aside0.mk A30
  clear A30
  by_cases c4 : t105 = true
  · subst c4
    have H1 : (if 0 ≤ (a1.size : Int) then (if (a1.size : Int) ≤ (a0.size : Int) then (some (a0.extract ((a1.size : Int) : Int).toNat a0.size, true)) else (none)) else (none)) = some (r1, r2) := by rw [if_pos rfl] at H; exact H
    clear H
    have H := H1
    clear H1
    by_cases c5 : 0 ≤ (a1.size : Int)
    · rw [if_pos c5] at H
      have c5b0 := eq_true c5
      have c5b1 : decide (0 ≤ (a1.size : Int)) = true := decide_eq_true c5
      clear c5
      by_cases c6 : (a1.size : Int) ≤ (a0.size : Int)
      · rw [if_pos c6] at H
        have c6b0 := eq_true c6
        have c6b1 : decide ((a1.size : Int) ≤ (a0.size : Int)) = true := decide_eq_true c6
        clear c6
        simp only [Option.some.injEq, Prod.mk.injEq] at H
        obtain ⟨rfl, rfl⟩ := H
        go_enter Tryd.func33, Tryd.ntmps33
        go_wp2_with (first | ((with_reducible refine gate_callee (f := 49) rfl ?_); refine goesL_ (some 8) rfl rfl Tryd.func49 (by kernel_rfl) rfl #[.string a0, .string a1] rfl (by (try simp only [List.map_toArray, List.map_cons, List.map_nil]); first | done | rfl | (simp only [List.length_drop, List.length_take]; rfl)) ?_; (with_reducible refine (stringslite_HasPrefix.calls a0 a1 true _ ?side1 A3.out).mono ?_); (case side1 => first | exact HG.out | exact Gd.drewN HG.out _ | exact Gd.drew HG.out); rintro e w' ⟨rfl, ⟨nd, rfl⟩⟩; refine ⟨_, rfl, ?_⟩))
        go_ret2
        exact ⟨by first | rfl | (simp; done) | (simp [*]; done), by repeat (first | exact Drawn0.refl _ | apply Drawn0.step)⟩
      · rw [if_neg c6] at H
        exact absurd H (by simp)
    · rw [if_neg c5] at H
      exact absurd H (by simp)
  · replace c4 := Bool.eq_false_iff.mpr c4
    subst c4
    have H1 : (some (a0, false)) = some (r1, r2) := by rw [if_neg (show ¬ (false = true) by decide)] at H; exact H
    clear H
    have H := H1
    clear H1
    simp only [Option.some.injEq, Prod.mk.injEq] at H
    obtain ⟨rfl, rfl⟩ := H
    go_enter Tryd.func33, Tryd.ntmps33
    go_wp2_with (first | ((with_reducible refine gate_callee (f := 49) rfl ?_); refine goesL_ (some 8) rfl rfl Tryd.func49 (by kernel_rfl) rfl #[.string a0, .string a1] rfl (by (try simp only [List.map_toArray, List.map_cons, List.map_nil]); first | done | rfl | (simp only [List.length_drop, List.length_take]; rfl)) ?_; (with_reducible refine (stringslite_HasPrefix.calls a0 a1 false _ ?side1 A3.out).mono ?_); (case side1 => first | exact HG.out | exact Gd.drewN HG.out _ | exact Gd.drew HG.out); rintro e w' ⟨rfl, ⟨nd, rfl⟩⟩; refine ⟨_, rfl, ?_⟩))
    go_ret2
    exact ⟨by first | rfl | (simp; done) | (simp [*]; done), by repeat (first | exact Drawn0.refl _ | apply Drawn0.step)⟩

end Go.Proofs.YtfelfpjfjjgmoaaDoor.P
end
/- Lean functions for functions of the program, and that the Go code comes to their answers, where the library's variables are as Gd says. Written by a turned copy of the kit's print; Lean checks it. -/
section
namespace Go.Proofs.YtfelfpjfjjgmoaaDoor.P
open Go.RowKit Go.Proofs.YtfelfpjfjjgmoaaDoorW.PrintWords Go.Proofs.YtfelfpjfjjgmoaaDoorW.PrintLast Go.Proofs.YtfelfpjfjjgmoaaDoorW.PrintMore
attribute [local go_sem] max2_int min2_int max_two min_two max_three min_three max_four min_four   -- for this text's walks alone
set_option linter.unusedVariables false
set_option linter.unusedSimpArgs false

/-! ### strings_CutPrefix: function 23 -/
def strings_CutPrefix.f (a0 : ByteArray) (a1 : ByteArray) : Option (ByteArray × Bool) := (stringslite_CutPrefix.f a0 a1).bind fun bt106 => (some (bt106.1, bt106.2))
set_option maxHeartbeats 8000000 in
set_option maxRecDepth 100000 in
theorem strings_CutPrefix.calls (a0 : ByteArray) (a1 : ByteArray) (r1 : ByteArray) (r2 : Bool) (w : World) (hG_ : Gd w) (h : strings_CutPrefix.f a0 a1 = some (r1, r2)) :
    Calls Tryd.prog 23 #[.string a0, .string a1] w fun e w' => e = .returned (.tuple #[.string r1, .bool r2]) ∧ Drawn0 w w' := by
  have HG := Aside0.mk hG_
  clear hG_
  have H : ((stringslite_CutPrefix.f a0 a1).bind fun bt106 => (some (bt106.1, bt106.2))) = some (r1, r2) := h
  clear h
  replace H := Option.bind_eq_some_iff.mp H
  obtain ⟨⟨t106, t107⟩, A30, H⟩ := H
  replace H : (some (t106, t107)) = some (r1, r2) := H
  have A3 := Aside0.mk A30
  clear A30
  simp only [Option.some.injEq, Prod.mk.injEq] at H
  obtain ⟨rfl, rfl⟩ := H
  go_enter Tryd.func23, Tryd.ntmps23
  go_wp2_with (first | ((with_reducible refine gate_callee (f := 33) rfl ?_); refine goesL_ (some 8) rfl rfl Tryd.func33 (by kernel_rfl) rfl #[.string a0, .string a1] rfl (by (try simp only [List.map_toArray, List.map_cons, List.map_nil]); first | done | rfl | (simp only [List.length_drop, List.length_take]; rfl)) ?_; (with_reducible refine (stringslite_CutPrefix.calls a0 a1 t106 t107 _ ?side1 A3.out).mono ?_); (case side1 => first | exact HG.out | exact Gd.drewN HG.out _ | exact Gd.drew HG.out); rintro e w' ⟨rfl, ⟨nd, rfl⟩⟩; refine ⟨_, rfl, ?_⟩))
  go_ret2
  exact ⟨by first | rfl | (simp; done) | (simp [*]; done), by repeat (first | exact Drawn0.refl _ | apply Drawn0.step)⟩

end Go.Proofs.YtfelfpjfjjgmoaaDoor.P
end
/- Lean functions for functions of the program, and that the Go code comes to their answers, where the library's variables are as Gd says. Written by a turned copy of the kit's print; Lean checks it. -/
section
namespace Go.Proofs.YtfelfpjfjjgmoaaDoor.P
open Go.RowKit Go.Proofs.YtfelfpjfjjgmoaaDoorW.PrintWords Go.Proofs.YtfelfpjfjjgmoaaDoorW.PrintLast Go.Proofs.YtfelfpjfjjgmoaaDoorW.PrintMore
attribute [local go_sem] max2_int min2_int max_two min_two max_three min_three max_four min_four   -- for this text's walks alone
set_option linter.unusedVariables false
set_option linter.unusedSimpArgs false

/-! ### escape_names: function 56 -/
def escape_names.f  : Option (List ByteArray × List ByteArray) := some ((([(⟨#[97, 109, 112]⟩ : ByteArray), (⟨#[108, 116]⟩ : ByteArray), (⟨#[103, 116]⟩ : ByteArray), (⟨#[113, 117, 111, 116]⟩ : ByteArray), (⟨#[97, 112, 111, 115]⟩ : ByteArray)] : List ByteArray)), (([(⟨#[38]⟩ : ByteArray), (⟨#[60]⟩ : ByteArray), (⟨#[62]⟩ : ByteArray), (⟨#[34]⟩ : ByteArray), (⟨#[39]⟩ : ByteArray)] : List ByteArray)))
set_option maxHeartbeats 8000000 in
set_option maxRecDepth 100000 in
theorem escape_names.calls  (r1 : List ByteArray) (r2 : List ByteArray) (w : World) (hG_ : Gd w) (h : escape_names.f  = some (r1, r2)) :
    Calls Tryd.prog 56 #[] w fun e w' => ∃ v0_ v1_ : Value, e = .returned (.agg #[v0_, v1_]) ∧ Kd.R Kd.string 9 w' w.heap.size (fun k_ => some k_ ≠ (v1_ : Value).ownBlock) v0_ r1 ∧ Kd.R Kd.string 9 w' w.heap.size (fun k_ => some k_ ≠ (v0_ : Value).ownBlock) v1_ r2 ∧ Below w.heap.size w w' := by
  have hu92 := Tryd.underlying92
  have HB := Aside0.mk (Below.refl w.heap.size w)
  have HG := Aside0.mk hG_
  clear hG_
  have H : (some ((([(⟨#[97, 109, 112]⟩ : ByteArray), (⟨#[108, 116]⟩ : ByteArray), (⟨#[103, 116]⟩ : ByteArray), (⟨#[113, 117, 111, 116]⟩ : ByteArray), (⟨#[97, 112, 111, 115]⟩ : ByteArray)] : List ByteArray)), (([(⟨#[38]⟩ : ByteArray), (⟨#[60]⟩ : ByteArray), (⟨#[62]⟩ : ByteArray), (⟨#[34]⟩ : ByteArray), (⟨#[39]⟩ : ByteArray)] : List ByteArray)))) = some (r1, r2) := h
  clear h
  obtain ⟨y129, hy129⟩ : ∃ y_ : List ByteArray, y_ = (([(⟨#[97, 109, 112]⟩ : ByteArray), (⟨#[108, 116]⟩ : ByteArray), (⟨#[103, 116]⟩ : ByteArray), (⟨#[113, 117, 111, 116]⟩ : ByteArray), (⟨#[97, 112, 111, 115]⟩ : ByteArray)] : List ByteArray)) := ⟨_, rfl⟩
  replace H : (some (y129, (([(⟨#[38]⟩ : ByteArray), (⟨#[60]⟩ : ByteArray), (⟨#[62]⟩ : ByteArray), (⟨#[34]⟩ : ByteArray), (⟨#[39]⟩ : ByteArray)] : List ByteArray)))) = some (r1, r2) := by first | (rw [hy129]; with_reducible exact H) | (have H2_ := (Option.bind_some _ _).symm.trans H; rw [hy129]; with_reducible exact H2_) | (have H2_ := (Option.bind_some _ _).symm.trans H; with_reducible exact H2_) | with_reducible exact H | (rw [hy129]; exact H) | exact H
  have Ny129 := Aside0.mk hy129
  clear hy129
  obtain ⟨y132, hy132⟩ : ∃ y_ : List ByteArray, y_ = (([(⟨#[38]⟩ : ByteArray), (⟨#[60]⟩ : ByteArray), (⟨#[62]⟩ : ByteArray), (⟨#[34]⟩ : ByteArray), (⟨#[39]⟩ : ByteArray)] : List ByteArray)) := ⟨_, rfl⟩
  replace H : (some (y129, y132)) = some (r1, r2) := by first | (rw [hy132]; with_reducible exact H) | (have H2_ := (Option.bind_some _ _).symm.trans H; rw [hy132]; with_reducible exact H2_) | (have H2_ := (Option.bind_some _ _).symm.trans H; with_reducible exact H2_) | with_reducible exact H | (rw [hy132]; exact H) | exact H
  have Ny132 := Aside0.mk hy132
  clear hy132
  simp only [Option.some.injEq, Prod.mk.injEq] at H
  obtain ⟨rfl, rfl⟩ := H
  go_enter Tryd.func56, Tryd.ntmps56
  go_wp2_with (first | ((with_reducible refine gate_dst (N := 0) rfl ?_); refine box_event ?hg (N := 0) ?hd (cs := #[.slice none 0 0, .slice none 0 0]) (t := 92) ?hr ?_; (case hd => rfl); (case hg => rfl); (case hr => first | (go_simp; done) | (go_simp; rfl)); intro gb128 hg w1 hbox hb; have n0_ := Aside0.mk (below_step (by repeat (first | (with_reducible first | exact HB.out | apply below_alloc | apply pw_below_drewN | apply below_drew1) | exact HB.out)) hb); have n1_ := Aside0.mk (hbox); have n2_ := Aside0.mk ((by rw [hg]; exact (below_size (by repeat (first | (with_reducible first | exact HB.out | apply below_alloc | apply pw_below_drewN | apply below_drew1) | exact HB.out))) : w.heap.size ≤ gb128)); have n3_ := Aside0.mk ((by rw [hg]; exact (below_size (by repeat (first | (with_reducible first | exact HB.out | apply below_alloc | apply pw_below_drewN | apply below_drew1) | exact HB.out))) : w.heap.size ≤ gb128)); clear HB; have HB := n0_; have BK128 := n1_; have GW128 := n2_; have GE128 := n3_; clear n0_ n1_ n2_ n3_; clear hb hbox hg) | ((with_reducible refine gate_dst (N := 1) rfl ?_); refine Kd.R_lit Kd.string _ 9 ?hg (N := 1) ?hd (xs := ([(⟨#[97, 109, 112]⟩ : ByteArray), (⟨#[108, 116]⟩ : ByteArray), (⟨#[103, 116]⟩ : ByteArray), (⟨#[113, 117, 111, 116]⟩ : ByteArray), (⟨#[97, 112, 111, 115]⟩ : ByteArray)] : List ByteArray)) (inner := [.string (⟨#[97, 109, 112]⟩ : ByteArray), .string (⟨#[108, 116]⟩ : ByteArray), .string (⟨#[103, 116]⟩ : ByteArray), .string (⟨#[113, 117, 111, 116]⟩ : ByteArray), .string (⟨#[97, 112, 111, 115]⟩ : ByteArray)]) (ok := fun _ => True) (okp := fun _ => True) ?hr ?hp (fun _ hk => hk) trivial (Below.refl _ _) (Nat.le_refl _) (by simp) ?_; (case hd => rfl); (case hg => rfl); (case hr => first | (go_simp; done) | (go_simp; rfl)); (case hp => exact (Reps.one (show Kd.M Kd.string _ _ _ (⟨#[97, 109, 112]⟩ : ByteArray) [.string (⟨#[97, 109, 112]⟩ : ByteArray)] from rfl) (Reps.one (show Kd.M Kd.string _ _ _ (⟨#[108, 116]⟩ : ByteArray) [.string (⟨#[108, 116]⟩ : ByteArray)] from rfl) (Reps.one (show Kd.M Kd.string _ _ _ (⟨#[103, 116]⟩ : ByteArray) [.string (⟨#[103, 116]⟩ : ByteArray)] from rfl) (Reps.one (show Kd.M Kd.string _ _ _ (⟨#[113, 117, 111, 116]⟩ : ByteArray) [.string (⟨#[113, 117, 111, 116]⟩ : ByteArray)] from rfl) (Reps.one (show Kd.M Kd.string _ _ _ (⟨#[97, 112, 111, 115]⟩ : ByteArray) [.string (⟨#[97, 112, 111, 115]⟩ : ByteArray)] from rfl) (Reps.none _ _))))))); intro v130 w2 ho3 hb hg_ hnew_; clear hg_ hnew_; (first | rw [← Ny129.out] at ho3 | (simp only [Int.reduceToNat] at ho3; rw [← Ny129.out] at ho3)); have n0_ := Aside0.mk (Kd.R_lower ho3 (below_size (by repeat (first | (with_reducible first | exact HB.out | apply below_alloc | apply pw_below_drewN | apply below_drew1 | refine below_set ?_ GE128.out) | exact HB.out)))); have n1_ := Aside0.mk (blk_below (g := gb128) (o := .cells #[.slice none 0 0, .slice none 0 0] 92 (0, 0)) (by (with_reducible repeat (first | refine blk_drewN ?_ _ | refine blk_drew ?_ | refine blk_alloc ?_ _)); exact BK128.out) hb); have n2_ := Aside0.mk (below_step (by repeat (first | (with_reducible first | exact HB.out | apply below_alloc | apply pw_below_drewN | apply below_drew1 | refine below_set ?_ GE128.out) | exact HB.out)) hb); clear BK128; clear HB; have HO131 := n0_; have BK128 := n1_; have HB := n2_; clear n0_ n1_ n2_; clear hb ho3) | ((with_reducible refine gate_dst (N := 2) rfl ?_); refine Kd.R_lit Kd.string _ 9 ?hg (N := 2) ?hd (xs := ([(⟨#[38]⟩ : ByteArray), (⟨#[60]⟩ : ByteArray), (⟨#[62]⟩ : ByteArray), (⟨#[34]⟩ : ByteArray), (⟨#[39]⟩ : ByteArray)] : List ByteArray)) (inner := [.string (⟨#[38]⟩ : ByteArray), .string (⟨#[60]⟩ : ByteArray), .string (⟨#[62]⟩ : ByteArray), .string (⟨#[34]⟩ : ByteArray), .string (⟨#[39]⟩ : ByteArray)]) (ok := fun _ => True) (okp := fun _ => True) ?hr ?hp (fun _ hk => hk) trivial (Below.refl _ _) (Nat.le_refl _) (by simp) ?_; (case hd => rfl); (case hg => rfl); (case hr => first | (go_simp; done) | (go_simp; rfl)); (case hp => exact (Reps.one (show Kd.M Kd.string _ _ _ (⟨#[38]⟩ : ByteArray) [.string (⟨#[38]⟩ : ByteArray)] from rfl) (Reps.one (show Kd.M Kd.string _ _ _ (⟨#[60]⟩ : ByteArray) [.string (⟨#[60]⟩ : ByteArray)] from rfl) (Reps.one (show Kd.M Kd.string _ _ _ (⟨#[62]⟩ : ByteArray) [.string (⟨#[62]⟩ : ByteArray)] from rfl) (Reps.one (show Kd.M Kd.string _ _ _ (⟨#[34]⟩ : ByteArray) [.string (⟨#[34]⟩ : ByteArray)] from rfl) (Reps.one (show Kd.M Kd.string _ _ _ (⟨#[39]⟩ : ByteArray) [.string (⟨#[39]⟩ : ByteArray)] from rfl) (Reps.none _ _))))))); intro v133 w4 ho5 hb hg_ hnew_; clear hg_ hnew_; (first | rw [← Ny132.out] at ho5 | (simp only [Int.reduceToNat] at ho5; rw [← Ny132.out] at ho5)); have n0_ := Aside0.mk (Kd.R_elder' (by (with_reducible repeat (first | apply Kd.R_alloc | apply Kd.R_drewN | apply Kd.R_drew)); exact HO131.out) (Kd.R_base ho5) hb); have n1_ := Aside0.mk (Kd.R_lower (Kd.R_new' ho5 (Kd.R_lt (by (with_reducible repeat (first | apply Kd.R_alloc | apply Kd.R_drewN | apply Kd.R_drew)); exact HO131.out))) (below_size (by repeat (first | (with_reducible first | exact HB.out | apply below_alloc | apply pw_below_drewN | apply below_drew1 | refine below_set ?_ GE128.out) | exact HB.out)))); have n2_ := Aside0.mk (blk_below (g := gb128) (o := .cells #[.slice none 0 0, .slice none 0 0] 92 (0, 0)) (by (with_reducible repeat (first | refine blk_drewN ?_ _ | refine blk_drew ?_ | refine blk_alloc ?_ _)); exact BK128.out) hb); have n3_ := Aside0.mk (below_step (by repeat (first | (with_reducible first | exact HB.out | apply below_alloc | apply pw_below_drewN | apply below_drew1 | refine below_set ?_ GE128.out) | exact HB.out)) hb); clear HO131; clear BK128; clear HB; have HO131 := n0_; have HO134 := n1_; have BK128 := n2_; have HB := n3_; clear n0_ n1_ n2_ n3_; clear hb ho5; obtain ⟨Ao6, co6, eo6⟩ := Kd.R_slice HO134.out; subst eo6; obtain ⟨Ao7, co7, eo7⟩ := Kd.R_slice HO131.out; subst eo7; have hcz8_0 : w4.cell? ⟨gb128, 0, none⟩ = some (.slice none 0 0) := (blk_cell BK128.out 0).trans rfl; have hcz8_1 : w4.cell? ⟨gb128, 1, none⟩ = some (.slice none 0 0) := (blk_cell BK128.out 1).trans rfl; have hfz8_0 := blk_frozen BK128.out 0; have hfz8_1 := blk_frozen BK128.out 1))
  refine bodyPost_ret (results_cell_row rfl _ _ gb128 92 #[.slice Ao7 y129.length co7, .slice Ao6 y132.length co6] (0, 0) _ rfl (by (with_reducible repeat (first | refine blk_drewN ?_ _ | refine blk_drew ?_ | refine blk_alloc ?_ _)); refine blk_put (cs := #[.slice Ao7 y129.length co7, .slice none 0 0]) ?_ 1 _ rfl; (with_reducible repeat (first | refine blk_drewN ?_ _ | refine blk_drew ?_ | refine blk_alloc ?_ _)); refine blk_put (cs := #[.slice none 0 0, .slice none 0 0]) ?_ 0 _ rfl; (with_reducible repeat (first | refine blk_drewN ?_ _ | refine blk_drew ?_ | refine blk_alloc ?_ _)); exact BK128.out) Tryd.underlying92 rfl (by kernel_rfl)) rfl ?_
  exact ⟨_, _, by first | rfl | (simp [errW_none, errW_some] <;> rfl) | (simp [*, errW_none, errW_some] <;> rfl), by (with_reducible repeat (first | apply Kd.R_alloc | apply Kd.R_drewN | apply Kd.R_drew)); exact Kd.R_mono (Kd.R_far (p := ⟨gb128, 1, none⟩) (Kd.R_far (p := ⟨gb128, 0, none⟩) (Kd.R_types HO131.out BK128.out (by decide)) (fun _ hk => hk.2) (.slice Ao7 y129.length co7)) (fun _ hk => hk.2) (.slice Ao6 y132.length co6)) (fun _ hk => hk.1.2), by (with_reducible repeat (first | apply Kd.R_alloc | apply Kd.R_drewN | apply Kd.R_drew)); exact Kd.R_mono (Kd.R_far (p := ⟨gb128, 1, none⟩) (Kd.R_far (p := ⟨gb128, 0, none⟩) (Kd.R_types HO134.out BK128.out (by decide)) (fun _ hk => hk.2) (.slice Ao7 y129.length co7)) (fun _ hk => hk.2) (.slice Ao6 y132.length co6)) (fun _ hk => hk.1.2), by repeat (first | (with_reducible first | exact HB.out | apply below_alloc | apply pw_below_drewN | apply below_drew1 | refine below_set ?_ GE128.out) | exact HB.out)⟩

end Go.Proofs.YtfelfpjfjjgmoaaDoor.P
end
/- Lean functions for functions of the program, and that the Go code comes to their answers, where the library's variables are as Gd says. Written by a turned copy of the kit's print; Lean checks it. -/
section
namespace Go.Proofs.YtfelfpjfjjgmoaaDoor.P
open Go.RowKit Go.Proofs.YtfelfpjfjjgmoaaDoorW.PrintWords Go.Proofs.YtfelfpjfjjgmoaaDoorW.PrintLast Go.Proofs.YtfelfpjfjjgmoaaDoorW.PrintMore
attribute [local go_sem] max2_int min2_int max_two min_two max_three min_three max_four min_four   -- for this text's walks alone
set_option linter.unusedVariables false
set_option linter.unusedSimpArgs false

/-! ### escape_at_string: function 69 -/
def escape_at_string.f (l0 : List ByteArray) (a1 : Int) : Option (ByteArray × Bool) := if a1 < 0 then (some ((⟨#[]⟩ : ByteArray), false)) else (if a1 ≥ (l0.length : Int) then (some ((⟨#[]⟩ : ByteArray), false)) else (if 0 ≤ a1 then (if a1 < (l0.length : Int) then (some (rdOf ByteArray.empty l0 a1, true)) else (none)) else (none)))
set_option maxHeartbeats 8000000 in
set_option maxRecDepth 100000 in
theorem escape_at_string.calls (A0 : Option Addr) (c0 : Nat) (l0 : List ByteArray) (a1 : Int) (r1 : ByteArray) (r2 : Bool) (w : World) (hG_ : Gd w) (hr0 : Kd.C Kd.string w A0 l0.length l0) (hc0 : l0.length ≤ c0) (h : escape_at_string.f l0 a1 = some (r1, r2)) :
    Calls Tryd.prog 69 #[.slice A0 l0.length c0, .int .i64 a1] w fun e w' => e = .returned (.tuple #[.string r1, .bool r2]) ∧ Drawn0 w w' := by
  have HR0 := Aside0.mk hr0
  have HC0 := Aside0.mk hc0
  clear hr0 hc0
  have HG := Aside0.mk hG_
  clear hG_
  have H : (if a1 < 0 then (some ((⟨#[]⟩ : ByteArray), false)) else (if a1 ≥ (l0.length : Int) then (some ((⟨#[]⟩ : ByteArray), false)) else (if 0 ≤ a1 then (if a1 < (l0.length : Int) then (some (rdOf ByteArray.empty l0 a1, true)) else (none)) else (none)))) = some (r1, r2) := h
  clear h
  by_cases c3 : a1 < 0
  · rw [if_pos c3] at H
    have c3b0 : decide (a1 < 0) = true := decide_eq_true c3
    clear c3
    simp only [Option.some.injEq, Prod.mk.injEq] at H
    obtain ⟨rfl, rfl⟩ := H
    go_enter Tryd.func69, Tryd.ntmps69
    go_wp2
    go_ret2
    exact ⟨by first | rfl | (simp; done) | (simp [*]; done), by repeat (first | exact Drawn0.refl _ | apply Drawn0.step)⟩
  · rw [if_neg c3] at H
    have c3b0 : decide (a1 < 0) = false := decide_eq_false c3
    clear c3
    by_cases c4 : a1 ≥ (l0.length : Int)
    · rw [if_pos c4] at H
      have c4b0 : decide ((l0.length : Int) ≤ a1) = true := decide_eq_true c4
      clear c4
      simp only [Option.some.injEq, Prod.mk.injEq] at H
      obtain ⟨rfl, rfl⟩ := H
      go_enter Tryd.func69, Tryd.ntmps69
      go_wp2
      go_ret2
      exact ⟨by first | rfl | (simp; done) | (simp [*]; done), by repeat (first | exact Drawn0.refl _ | apply Drawn0.step)⟩
    · rw [if_neg c4] at H
      have c4b0 : decide ((l0.length : Int) ≤ a1) = false := decide_eq_false c4
      clear c4
      by_cases c5 : 0 ≤ a1
      · rw [if_pos c5] at H
        have c5b0 : decide (0 ≤ a1) = true := decide_eq_true c5
        clear c5
        by_cases c6 : a1 < (l0.length : Int)
        · rw [if_pos c6] at H
          have c6b0 : decide (a1 < (l0.length : Int)) = true := decide_eq_true c6
          clear c6
          simp only [Option.some.injEq, Prod.mk.injEq] at H
          obtain ⟨rfl, rfl⟩ := H
          have p135 : 0 ≤ (a1 : Int) := of_decide_eq_true (by first | (with_reducible assumption) | assumption)
          have q135 : a1 < (l0.length : Int) := of_decide_eq_true (by first | (with_reducible assumption) | assumption)
          obtain ⟨ad135, e135, hx135_0⟩ := Kd.at_string HR0.out a1 p135 q135
          cases e135
          replace p135 := eq_true p135
          replace q135 := eq_true q135
          go_enter Tryd.func69, Tryd.ntmps69
          go_wp2
          go_ret2
          exact ⟨by first | rfl | (simp; done) | (simp [*]; done), by repeat (first | exact Drawn0.refl _ | apply Drawn0.step)⟩
        · rw [if_neg c6] at H
          exact absurd H (by simp)
      · rw [if_neg c5] at H
        exact absurd H (by simp)

end Go.Proofs.YtfelfpjfjjgmoaaDoor.P
end
/- Lean functions for functions of the program, and that the Go code comes to their answers, where the library's variables are as Gd says. Written by a turned copy of the kit's print; Lean checks it. -/
section
namespace Go.Proofs.YtfelfpjfjjgmoaaDoor.P
open Go.RowKit Go.Proofs.YtfelfpjfjjgmoaaDoorW.PrintWords Go.Proofs.YtfelfpjfjjgmoaaDoorW.PrintLast Go.Proofs.YtfelfpjfjjgmoaaDoorW.PrintMore
attribute [local go_sem] max2_int min2_int max_two min_two max_three min_three max_four min_four   -- for this text's walks alone
set_option linter.unusedVariables false
set_option linter.unusedSimpArgs false

/-! ### slices_Index_string_string: function 70 -/
def slices_Index_string_string.l0 : Nat → List ByteArray → ByteArray → Int → Int → Option (Int)
  | 0, _, _, _, _ => none
  | k + 1, x0, x1, x7, x8 => if x8 < x7 then (if 0 ≤ x8 then (if x8 < (x0.length : Int) then (if x1.toList = (rdOf ByteArray.empty x0 x8).toList then (some x8) else (slices_Index_string_string.l0 k x0 x1 x7 (wrap64 (x8 + 1)))) else (none)) else (none)) else (some (-1))
def slices_Index_string_string.f (k : Nat) (l0 : List ByteArray) (a1 : ByteArray) : Option (Int) := slices_Index_string_string.l0 k l0 a1 (l0.length : Int) 0
theorem slices_Index_string_string.mono_l : ∀ k, (∀ y0 y1 y2 y3, LeO (slices_Index_string_string.l0 k y0 y1 y2 y3) (slices_Index_string_string.l0 (k + 1) y0 y1 y2 y3))
  | 0 => fun _ _ _ _ r h => by simp [slices_Index_string_string.l0] at h
  | k + 1 => by
    have ih0 := slices_Index_string_string.mono_l k
    · intro y0 y1 y2 y3
      unfold slices_Index_string_string.l0
      repeat' first
      | (with_reducible exact ih0 _ _ _ _)
      | (with_reducible exact LeO.refl _)
      | (with_reducible exact LeO.none _)
      | (with_reducible refine LeO.ite ?_ ?_)
      | (with_reducible refine LeO.bind ?_ (fun _ => ?_))
      | exact ih0 _ _ _ _
      | exact LeO.none _
      | refine LeO.ite ?_ ?_
      | refine LeO.bind ?_ (fun _ => ?_)
theorem slices_Index_string_string.mono : ∀ a0 a1 k, LeO (slices_Index_string_string.f k a0 a1) (slices_Index_string_string.f (k + 1) a0 a1) := by
  intro a0 a1 k
  have ih0 := slices_Index_string_string.mono_l k
  unfold slices_Index_string_string.f
  repeat' first
      | (with_reducible exact ih0 _ _ _ _)
      | (with_reducible exact LeO.refl _)
      | (with_reducible exact LeO.none _)
      | (with_reducible refine LeO.ite ?_ ?_)
      | (with_reducible refine LeO.bind ?_ (fun _ => ?_))
      | exact ih0 _ _ _ _
      | exact LeO.none _
      | refine LeO.ite ?_ ?_
      | refine LeO.bind ?_ (fun _ => ?_)
set_option maxHeartbeats 8000000 in
set_option maxRecDepth 100000 in
theorem slices_Index_string_string.calls (k : Nat) (A0 : Option Addr) (c0 : Nat) (l0 : List ByteArray) (a1 : ByteArray) (r : Int) (w : World) (hG_ : Gd w) (hr0 : Kd.C Kd.string w A0 l0.length l0) (hc0 : l0.length ≤ c0) (h : slices_Index_string_string.f k l0 a1 = some r) :
    Calls Tryd.prog 70 #[.slice A0 l0.length c0, .string a1] w fun e w' => e = .returned (.int .i64 r) ∧ Drawn0 w w' := by
  have HR0 := Aside0.mk hr0
  have HC0 := Aside0.mk hc0
  clear hr0 hc0
  have HG := Aside0.mk hG_
  clear hG_
  have H : (slices_Index_string_string.l0 k l0 a1 (l0.length : Int) 0) = some r := h
  clear h
  have H' := Aside0.mk H
  clear H
  go_enter Tryd.func70, Tryd.ntmps70
  go_wp2
  go_loopg [8] k (fun kq v8 w' => ∃ (x8_1 : Int), v8 = .int .i64 x8_1 ∧ Aside0 (slices_Index_string_string.l0 kq l0 a1 (l0.length : Int) x8_1 = some r) ∧ Aside0 (kq ≤ k) ∧ Drawn0 w w')
  case atStart => exact ⟨(0), (by first | rfl | (simp; done) | (simp [*]; done)), H', ⟨Nat.le_refl _⟩, by repeat (first | exact Drawn0.refl _ | apply Drawn0.step)⟩
  case round =>
    clear H'
    try clear p2
    obtain ⟨x8_1, rfl, HA, HK1, ⟨m1, rfl⟩⟩ := hrel
    cases gk with
    | zero => exact absurd HA.out (by simp [slices_Index_string_string.l0])
    | succ k1 =>
      have H := HA.out
      clear HA
      simp only [slices_Index_string_string.l0] at H
      by_cases c3 : x8_1 < (l0.length : Int)
      · rw [if_pos c3] at H
        have c3b0 : decide (x8_1 < (l0.length : Int)) = true := decide_eq_true c3
        clear c3
        by_cases c4 : 0 ≤ x8_1
        · rw [if_pos c4] at H
          have c4b0 : decide (0 ≤ x8_1) = true := decide_eq_true c4
          clear c4
          by_cases c5 : x8_1 < (l0.length : Int)
          · rw [if_pos c5] at H
            have c5b0 : decide (x8_1 < (l0.length : Int)) = true := decide_eq_true c5
            clear c5
            by_cases c6 : a1.toList = (rdOf ByteArray.empty l0 x8_1).toList
            · rw [if_pos c6] at H
              have c6b0 : (a1.toList == (rdOf ByteArray.empty l0 x8_1).toList) = true := beq_iff_eq.mpr c6
              have c6b1 : (a1.toList != (rdOf ByteArray.empty l0 x8_1).toList) = false := bne_eq_false_iff_eq.mpr c6
              clear c6
              obtain rfl := Option.some.inj H
              have p136 : 0 ≤ (x8_1 : Int) := of_decide_eq_true (by first | (with_reducible assumption) | assumption)
              have q136 : x8_1 < (l0.length : Int) := of_decide_eq_true (by first | (with_reducible assumption) | assumption)
              obtain ⟨ad136, e136, hx136_0⟩ := Kd.at_string HR0.out x8_1 p136 q136
              cases e136
              replace p136 := eq_true p136
              replace q136 := eq_true q136
              go_wp2
              go_ret
              exact ⟨by first | rfl | (simp; done) | (simp [*]; done), by repeat (first | exact Drawn0.refl _ | apply Drawn0.step)⟩
            · rw [if_neg c6] at H
              have c6b0 : (a1.toList == (rdOf ByteArray.empty l0 x8_1).toList) = false := beq_eq_false_iff_ne.mpr c6
              have c6b1 : (a1.toList != (rdOf ByteArray.empty l0 x8_1).toList) = true := bne_iff_ne.mpr c6
              have H' := Aside0.mk H
              clear H
              have p136 : 0 ≤ (x8_1 : Int) := of_decide_eq_true (by first | (with_reducible assumption) | assumption)
              have q136 : x8_1 < (l0.length : Int) := of_decide_eq_true (by first | (with_reducible assumption) | assumption)
              obtain ⟨ad136, e136, hx136_0⟩ := Kd.at_string HR0.out x8_1 p136 q136
              cases e136
              replace p136 := eq_true p136
              replace q136 := eq_true q136
              go_wp2
              go_roundg k1
              case measure => have := HK1.out; omega
              case rel => exact ⟨(wrap64 (x8_1 + 1)), (by first | rfl | (simp; done) | (simp [*]; done)), H', ⟨by have := HK1.out; omega⟩, by repeat (first | exact Drawn0.refl _ | apply Drawn0.step)⟩
          · rw [if_neg c5] at H
            exact absurd H (by simp)
        · rw [if_neg c4] at H
          exact absurd H (by simp)
      · rw [if_neg c3] at H
        have c3b0 : decide (x8_1 < (l0.length : Int)) = false := decide_eq_false c3
        clear c3
        obtain rfl := Option.some.inj H
        go_wp2
        go_ret
        exact ⟨by first | rfl | (simp; done) | (simp [*]; done), by repeat (first | exact Drawn0.refl _ | apply Drawn0.step)⟩

end Go.Proofs.YtfelfpjfjjgmoaaDoor.P
end
/- Lean functions for functions of the program, and that the Go code comes to their answers, where the library's variables are as Gd says. Written by a turned copy of the kit's print; Lean checks it. -/
section
namespace Go.Proofs.YtfelfpjfjjgmoaaDoor.P
open Go.RowKit Go.Proofs.YtfelfpjfjjgmoaaDoorW.PrintWords Go.Proofs.YtfelfpjfjjgmoaaDoorW.PrintLast Go.Proofs.YtfelfpjfjjgmoaaDoorW.PrintMore
attribute [local go_sem] max2_int min2_int max_two min_two max_three min_three max_four min_four   -- for this text's walks alone
set_option linter.unusedVariables false
set_option linter.unusedSimpArgs false

/-! ### escape_table_string_string_of: function 57 -/
def escape_table_string_string_of.f (k : Nat) (l0_0 : List ByteArray) (l0_1 : List ByteArray) (a1 : ByteArray) : Option (ByteArray × Bool) := (slices_Index_string_string.f k l0_0 a1).bind fun t138 => ((escape_at_string.f l0_1 t138).bind fun bt139 => (some (bt139.1, bt139.2)))
theorem escape_table_string_string_of.mono : ∀ a0 a1 a2 k, LeO (escape_table_string_string_of.f k a0 a1 a2) (escape_table_string_string_of.f (k + 1) a0 a1 a2) := by
  intro a0 a1 a2 k
  unfold escape_table_string_string_of.f
  repeat' first
      | (with_reducible exact slices_Index_string_string.mono _ _ _)
      | (with_reducible exact LeO.refl _)
      | (with_reducible exact LeO.none _)
      | (with_reducible refine LeO.ite ?_ ?_)
      | (with_reducible refine LeO.bind ?_ (fun _ => ?_))
      | exact slices_Index_string_string.mono _ _ _
      | exact LeO.none _
      | refine LeO.ite ?_ ?_
      | refine LeO.bind ?_ (fun _ => ?_)
set_option maxHeartbeats 8000000 in
set_option maxRecDepth 100000 in
theorem escape_table_string_string_of.calls (k : Nat) (A0_0 : Option Addr) (c0_0 : Nat) (l0_0 : List ByteArray) (A0_1 : Option Addr) (c0_1 : Nat) (l0_1 : List ByteArray) (a1 : ByteArray) (r1 : ByteArray) (r2 : Bool) (w : World) (hG_ : Gd w) (hr0_0 : Kd.C Kd.string w A0_0 l0_0.length l0_0) (hc0_0 : l0_0.length ≤ c0_0) (hr0_1 : Kd.C Kd.string w A0_1 l0_1.length l0_1) (hc0_1 : l0_1.length ≤ c0_1) (h : escape_table_string_string_of.f k l0_0 l0_1 a1 = some (r1, r2)) :
    Calls Tryd.prog 57 #[.agg #[.slice A0_0 l0_0.length c0_0, .slice A0_1 l0_1.length c0_1], .string a1] w fun e w' => e = .returned (.tuple #[.string r1, .bool r2]) ∧ Below w.heap.size w w' := by
  have hu92 := Tryd.underlying92
  have HR0_0 := Aside0.mk hr0_0
  have HC0_0 := Aside0.mk hc0_0
  clear hr0_0 hc0_0
  have HR0_1 := Aside0.mk hr0_1
  have HC0_1 := Aside0.mk hc0_1
  clear hr0_1 hc0_1
  have HB := Aside0.mk (Below.refl w.heap.size w)
  have HG := Aside0.mk hG_
  clear hG_
  have H : ((slices_Index_string_string.f k l0_0 a1).bind fun t138 => ((escape_at_string.f l0_1 t138).bind fun bt139 => (some (bt139.1, bt139.2)))) = some (r1, r2) := h
  clear h
  replace H := Option.bind_eq_some_iff.mp H
  obtain ⟨t138, A30, H⟩ := H
  replace H : ((escape_at_string.f l0_1 t138).bind fun bt139 => (some (bt139.1, bt139.2))) = some (r1, r2) := H
  have A3 := Aside0.mk A30
  clear A30
  replace H := Option.bind_eq_some_iff.mp H
  obtain ⟨⟨t139, t140⟩, A40, H⟩ := H
  replace H : (some (t139, t140)) = some (r1, r2) := H
  have A4 := Aside0.mk A40
  clear A40
  simp only [Option.some.injEq, Prod.mk.injEq] at H
  obtain ⟨rfl, rfl⟩ := H
  go_enter Tryd.func57, Tryd.ntmps57
  go_wp2_with (first | ((with_reducible refine gate_dst (N := 2) rfl ?_); refine box_event ?hg (N := 2) ?hd (cs := #[.slice A0_0 l0_0.length c0_0, .slice A0_1 l0_1.length c0_1]) (t := 92) ?hr ?_; (case hd => rfl); (case hg => rfl); (case hr => first | (go_simp; done) | (go_simp; rfl)); intro gb137 hg w5 hbox hb; have n0_ := Aside0.mk (below_step (by repeat (first | (with_reducible first | exact HB.out | apply below_alloc | apply pw_below_drewN | apply below_drew1) | exact HB.out)) hb); have n1_ := Aside0.mk (hbox); have n2_ := Aside0.mk ((by rw [hg]; exact (below_size (by repeat (first | (with_reducible first | exact HB.out | apply below_alloc | apply pw_below_drewN | apply below_drew1) | exact HB.out))) : w.heap.size ≤ gb137)); have n3_ := Aside0.mk ((by rw [hg]; exact (below_size (by repeat (first | (with_reducible first | exact HB.out | apply below_alloc | apply pw_below_drewN | apply below_drew1) | exact HB.out))) : w.heap.size ≤ gb137)); clear HB; have HB := n0_; have BK137 := n1_; have GW137 := n2_; have GE137 := n3_; clear n0_ n1_ n2_ n3_; clear hb hbox hg; have hcz6_0 : w5.cell? ⟨gb137, 0, none⟩ = some (.slice A0_0 l0_0.length c0_0) := (blk_cell BK137.out 0).trans rfl; have hcz6_1 : w5.cell? ⟨gb137, 1, none⟩ = some (.slice A0_1 l0_1.length c0_1) := (blk_cell BK137.out 1).trans rfl; have hfz6_0 := blk_frozen BK137.out 0; have hfz6_1 := blk_frozen BK137.out 1) | (go_at_call 70; (with_reducible refine (slices_Index_string_string.calls k _ _ l0_0 a1 t138 _ ?side3 ?side1 ?side2 A3.out).mono ?_); (case side1 => repeat (first | exact (Kd.C_below HR0_0.out HB.out) | (with_reducible refine Kd.C_alloc ?_ _) | (with_reducible refine Kd.C_drewN ?_ _) | (with_reducible refine Kd.C_drew ?_))); (case side2 => exact HC0_0.out); (case side3 => first | exact HG.out | exact Gd.drewN HG.out _ | exact Gd.drew HG.out | exact Gd.below HG.out (by repeat (first | (with_reducible first | exact HB.out | apply below_alloc | apply pw_below_drewN | apply below_drew1 | refine below_set ?_ GE137.out) | exact HB.out))); rintro e w' ⟨rfl, ⟨nd, rfl⟩⟩; (try first | exact ⟨rfl, _, World.drewN_drewN _ _ _⟩ | exact ⟨rfl, _, Eq.trans (World.drewN_drewN _ _ _) (congrArg (World.drewN _) (Nat.add_assoc _ _ _))⟩)) | (go_at_call 69; (with_reducible refine (escape_at_string.calls _ _ l0_1 t138 t139 t140 _ ?side3 ?side1 ?side2 A4.out).mono ?_); (case side1 => repeat (first | exact (Kd.C_below HR0_1.out (by repeat (first | (with_reducible first | exact HB.out | apply below_alloc | apply pw_below_drewN | apply below_drew1 | refine below_set ?_ GE137.out) | exact HB.out))) | (with_reducible refine Kd.C_alloc ?_ _) | (with_reducible refine Kd.C_drewN ?_ _) | (with_reducible refine Kd.C_drew ?_))); (case side2 => exact HC0_1.out); (case side3 => first | exact HG.out | exact Gd.drewN HG.out _ | exact Gd.drew HG.out | exact Gd.below HG.out (by repeat (first | (with_reducible first | exact HB.out | apply below_alloc | apply pw_below_drewN | apply below_drew1 | refine below_set ?_ GE137.out) | exact HB.out))); rintro e w' ⟨rfl, ⟨nd, rfl⟩⟩; (try first | exact ⟨rfl, _, World.drewN_drewN _ _ _⟩ | exact ⟨rfl, _, Eq.trans (World.drewN_drewN _ _ _) (congrArg (World.drewN _) (Nat.add_assoc _ _ _))⟩)))
  repeat (go_quiet (first | ((with_reducible refine gate_dst (N := 2) rfl ?_); refine box_event ?hg (N := 2) ?hd (cs := #[.slice A0_0 l0_0.length c0_0, .slice A0_1 l0_1.length c0_1]) (t := 92) ?hr ?_; (case hd => rfl); (case hg => rfl); (case hr => first | (go_simp; done) | (go_simp; rfl)); intro gb137 hg w5 hbox hb; have n0_ := Aside0.mk (below_step (by repeat (first | (with_reducible first | exact HB.out | apply below_alloc | apply pw_below_drewN | apply below_drew1) | exact HB.out)) hb); have n1_ := Aside0.mk (hbox); have n2_ := Aside0.mk ((by rw [hg]; exact (below_size (by repeat (first | (with_reducible first | exact HB.out | apply below_alloc | apply pw_below_drewN | apply below_drew1) | exact HB.out))) : w.heap.size ≤ gb137)); have n3_ := Aside0.mk ((by rw [hg]; exact (below_size (by repeat (first | (with_reducible first | exact HB.out | apply below_alloc | apply pw_below_drewN | apply below_drew1) | exact HB.out))) : w.heap.size ≤ gb137)); clear HB; have HB := n0_; have BK137 := n1_; have GW137 := n2_; have GE137 := n3_; clear n0_ n1_ n2_ n3_; clear hb hbox hg; have hcz6_0 : w5.cell? ⟨gb137, 0, none⟩ = some (.slice A0_0 l0_0.length c0_0) := (blk_cell BK137.out 0).trans rfl; have hcz6_1 : w5.cell? ⟨gb137, 1, none⟩ = some (.slice A0_1 l0_1.length c0_1) := (blk_cell BK137.out 1).trans rfl; have hfz6_0 := blk_frozen BK137.out 0; have hfz6_1 := blk_frozen BK137.out 1) | (go_at_call 70; (with_reducible refine (slices_Index_string_string.calls k _ _ l0_0 a1 t138 _ ?side3 ?side1 ?side2 A3.out).mono ?_); (case side1 => repeat (first | exact (Kd.C_below HR0_0.out HB.out) | (with_reducible refine Kd.C_alloc ?_ _) | (with_reducible refine Kd.C_drewN ?_ _) | (with_reducible refine Kd.C_drew ?_))); (case side2 => exact HC0_0.out); (case side3 => first | exact HG.out | exact Gd.drewN HG.out _ | exact Gd.drew HG.out | exact Gd.below HG.out (by repeat (first | (with_reducible first | exact HB.out | apply below_alloc | apply pw_below_drewN | apply below_drew1 | refine below_set ?_ GE137.out) | exact HB.out))); rintro e w' ⟨rfl, ⟨nd, rfl⟩⟩; (try first | exact ⟨rfl, _, World.drewN_drewN _ _ _⟩ | exact ⟨rfl, _, Eq.trans (World.drewN_drewN _ _ _) (congrArg (World.drewN _) (Nat.add_assoc _ _ _))⟩)) | (go_at_call 69; (with_reducible refine (escape_at_string.calls _ _ l0_1 t138 t139 t140 _ ?side3 ?side1 ?side2 A4.out).mono ?_); (case side1 => repeat (first | exact (Kd.C_below HR0_1.out (by repeat (first | (with_reducible first | exact HB.out | apply below_alloc | apply pw_below_drewN | apply below_drew1 | refine below_set ?_ GE137.out) | exact HB.out))) | (with_reducible refine Kd.C_alloc ?_ _) | (with_reducible refine Kd.C_drewN ?_ _) | (with_reducible refine Kd.C_drew ?_))); (case side2 => exact HC0_1.out); (case side3 => first | exact HG.out | exact Gd.drewN HG.out _ | exact Gd.drew HG.out | exact Gd.below HG.out (by repeat (first | (with_reducible first | exact HB.out | apply below_alloc | apply pw_below_drewN | apply below_drew1 | refine below_set ?_ GE137.out) | exact HB.out))); rintro e w' ⟨rfl, ⟨nd, rfl⟩⟩; (try first | exact ⟨rfl, _, World.drewN_drewN _ _ _⟩ | exact ⟨rfl, _, Eq.trans (World.drewN_drewN _ _ _) (congrArg (World.drewN _) (Nat.add_assoc _ _ _))⟩))); try go_wp2_with (first | ((with_reducible refine gate_dst (N := 2) rfl ?_); refine box_event ?hg (N := 2) ?hd (cs := #[.slice A0_0 l0_0.length c0_0, .slice A0_1 l0_1.length c0_1]) (t := 92) ?hr ?_; (case hd => rfl); (case hg => rfl); (case hr => first | (go_simp; done) | (go_simp; rfl)); intro gb137 hg w5 hbox hb; have n0_ := Aside0.mk (below_step (by repeat (first | (with_reducible first | exact HB.out | apply below_alloc | apply pw_below_drewN | apply below_drew1) | exact HB.out)) hb); have n1_ := Aside0.mk (hbox); have n2_ := Aside0.mk ((by rw [hg]; exact (below_size (by repeat (first | (with_reducible first | exact HB.out | apply below_alloc | apply pw_below_drewN | apply below_drew1) | exact HB.out))) : w.heap.size ≤ gb137)); have n3_ := Aside0.mk ((by rw [hg]; exact (below_size (by repeat (first | (with_reducible first | exact HB.out | apply below_alloc | apply pw_below_drewN | apply below_drew1) | exact HB.out))) : w.heap.size ≤ gb137)); clear HB; have HB := n0_; have BK137 := n1_; have GW137 := n2_; have GE137 := n3_; clear n0_ n1_ n2_ n3_; clear hb hbox hg; have hcz6_0 : w5.cell? ⟨gb137, 0, none⟩ = some (.slice A0_0 l0_0.length c0_0) := (blk_cell BK137.out 0).trans rfl; have hcz6_1 : w5.cell? ⟨gb137, 1, none⟩ = some (.slice A0_1 l0_1.length c0_1) := (blk_cell BK137.out 1).trans rfl; have hfz6_0 := blk_frozen BK137.out 0; have hfz6_1 := blk_frozen BK137.out 1) | (go_at_call 70; (with_reducible refine (slices_Index_string_string.calls k _ _ l0_0 a1 t138 _ ?side3 ?side1 ?side2 A3.out).mono ?_); (case side1 => repeat (first | exact (Kd.C_below HR0_0.out HB.out) | (with_reducible refine Kd.C_alloc ?_ _) | (with_reducible refine Kd.C_drewN ?_ _) | (with_reducible refine Kd.C_drew ?_))); (case side2 => exact HC0_0.out); (case side3 => first | exact HG.out | exact Gd.drewN HG.out _ | exact Gd.drew HG.out | exact Gd.below HG.out (by repeat (first | (with_reducible first | exact HB.out | apply below_alloc | apply pw_below_drewN | apply below_drew1 | refine below_set ?_ GE137.out) | exact HB.out))); rintro e w' ⟨rfl, ⟨nd, rfl⟩⟩; (try first | exact ⟨rfl, _, World.drewN_drewN _ _ _⟩ | exact ⟨rfl, _, Eq.trans (World.drewN_drewN _ _ _) (congrArg (World.drewN _) (Nat.add_assoc _ _ _))⟩)) | (go_at_call 69; (with_reducible refine (escape_at_string.calls _ _ l0_1 t138 t139 t140 _ ?side3 ?side1 ?side2 A4.out).mono ?_); (case side1 => repeat (first | exact (Kd.C_below HR0_1.out (by repeat (first | (with_reducible first | exact HB.out | apply below_alloc | apply pw_below_drewN | apply below_drew1 | refine below_set ?_ GE137.out) | exact HB.out))) | (with_reducible refine Kd.C_alloc ?_ _) | (with_reducible refine Kd.C_drewN ?_ _) | (with_reducible refine Kd.C_drew ?_))); (case side2 => exact HC0_1.out); (case side3 => first | exact HG.out | exact Gd.drewN HG.out _ | exact Gd.drew HG.out | exact Gd.below HG.out (by repeat (first | (with_reducible first | exact HB.out | apply below_alloc | apply pw_below_drewN | apply below_drew1 | refine below_set ?_ GE137.out) | exact HB.out))); rintro e w' ⟨rfl, ⟨nd, rfl⟩⟩; (try first | exact ⟨rfl, _, World.drewN_drewN _ _ _⟩ | exact ⟨rfl, _, Eq.trans (World.drewN_drewN _ _ _) (congrArg (World.drewN _) (Nat.add_assoc _ _ _))⟩))))
  go_ret2
  exact ⟨by first | rfl | (simp [errW_none, errW_some] <;> rfl) | (simp [*, errW_none, errW_some] <;> rfl), by repeat (first | (with_reducible first | exact HB.out | apply below_alloc | apply pw_below_drewN | apply below_drew1 | refine below_set ?_ GE137.out) | exact HB.out)⟩

end Go.Proofs.YtfelfpjfjjgmoaaDoor.P
end
/- Lean functions for functions of the program, and that the Go code comes to their answers, where the library's variables are as Gd says. Written by a turned copy of the kit's print; Lean checks it. -/
section
namespace Go.Proofs.YtfelfpjfjjgmoaaDoor.P
open Go.RowKit Go.Proofs.YtfelfpjfjjgmoaaDoorW.PrintWords Go.Proofs.YtfelfpjfjjgmoaaDoorW.PrintLast Go.Proofs.YtfelfpjfjjgmoaaDoorW.PrintMore
attribute [local go_sem] max2_int min2_int max_two min_two max_three min_three max_four min_four   -- for this text's walks alone
set_option linter.unusedVariables false
set_option linter.unusedSimpArgs false

/-! ### escape_sign: function 44 -/
def escape_sign.f (k : Nat) (a0 : ByteArray) : Option (ByteArray) := (escape_names.f).bind fun bt175 => ((escape_table_string_string_of.f k bt175.1 bt175.2 a0).bind fun bt181 => (if bt181.2 = true then (some bt181.1) else ((strings_CutPrefix.f a0 (⟨#[35, 120]⟩ : ByteArray)).bind fun bt183 => (if bt183.2 = true then ((G_number.f bt183.1 16 6).bind fun t185 => (some t185)) else ((strings_CutPrefix.f a0 (⟨#[35]⟩ : ByteArray)).bind fun bt186 => (if bt186.2 = true then ((G_number.f bt186.1 10 7).bind fun t188 => (some t188)) else (some (⟨#[]⟩ : ByteArray))))))))
theorem escape_sign.mono : ∀ a0 k, LeO (escape_sign.f k a0) (escape_sign.f (k + 1) a0) := by
  intro a0 k
  unfold escape_sign.f
  repeat' first
      | (with_reducible exact escape_table_string_string_of.mono _ _ _ _)
      | (with_reducible exact LeO.refl _)
      | (with_reducible exact LeO.none _)
      | (with_reducible refine LeO.ite ?_ ?_)
      | (with_reducible refine LeO.bind ?_ (fun _ => ?_))
      | exact escape_table_string_string_of.mono _ _ _ _
      | exact LeO.none _
      | refine LeO.ite ?_ ?_
      | refine LeO.bind ?_ (fun _ => ?_)
set_option maxHeartbeats 8000000 in
set_option maxRecDepth 100000 in
theorem escape_sign.calls (k : Nat) (a0 : ByteArray) (r : ByteArray) (w : World) (hG_ : Gd w) (h : escape_sign.f k a0 = some r) :
    Calls Tryd.prog 44 #[.string a0] w fun e w' => e = .returned (.string r) ∧ Below w.heap.size w w' := by
  have HB := Aside0.mk (Below.refl w.heap.size w)
  have HG := Aside0.mk hG_
  clear hG_
  have H : ((escape_names.f).bind fun bt175 => ((escape_table_string_string_of.f k bt175.1 bt175.2 a0).bind fun bt181 => (if bt181.2 = true then (some bt181.1) else ((strings_CutPrefix.f a0 (⟨#[35, 120]⟩ : ByteArray)).bind fun bt183 => (if bt183.2 = true then ((G_number.f bt183.1 16 6).bind fun t185 => (some t185)) else ((strings_CutPrefix.f a0 (⟨#[35]⟩ : ByteArray)).bind fun bt186 => (if bt186.2 = true then ((G_number.f bt186.1 10 7).bind fun t188 => (some t188)) else (some (⟨#[]⟩ : ByteArray))))))))) = some r := h
  clear h
  replace H := Option.bind_eq_some_iff.mp H
  obtain ⟨⟨t175, t178⟩, A20, H⟩ := H
  replace H : ((escape_table_string_string_of.f k t175 t178 a0).bind fun bt181 => (if bt181.2 = true then (some bt181.1) else ((strings_CutPrefix.f a0 (⟨#[35, 120]⟩ : ByteArray)).bind fun bt183 => (if bt183.2 = true then ((G_number.f bt183.1 16 6).bind fun t185 => (some t185)) else ((strings_CutPrefix.f a0 (⟨#[35]⟩ : ByteArray)).bind fun bt186 => (if bt186.2 = true then ((G_number.f bt186.1 10 7).bind fun t188 => (some t188)) else (some (⟨#[]⟩ : ByteArray)))))))) = some r := H
  have A2 := Aside0.mk A20
  clear A20
  replace H := Option.bind_eq_some_iff.mp H
  obtain ⟨⟨t181, t182⟩, A30, H⟩ := H
  replace H : (if t182 = true then (some t181) else ((strings_CutPrefix.f a0 (⟨#[35, 120]⟩ : ByteArray)).bind fun bt183 => (if bt183.2 = true then ((G_number.f bt183.1 16 6).bind fun t185 => (some t185)) else ((strings_CutPrefix.f a0 (⟨#[35]⟩ : ByteArray)).bind fun bt186 => (if bt186.2 = true then ((G_number.f bt186.1 10 7).bind fun t188 => (some t188)) else (some (⟨#[]⟩ : ByteArray))))))) = some r := H
  have A3 := Aside0.mk A30
  clear A30
  by_cases c4 : t182 = true
  · subst c4
    have H1 : (some t181) = some r := by rw [if_pos rfl] at H; exact H
    clear H
    have H := H1
    clear H1
    obtain rfl := Option.some.inj H
    go_enter Tryd.func44, Tryd.ntmps44
    go_wp2_with (first | ((with_reducible refine gate_callee (f := 56) rfl ?_); refine goesL_ (some 10) rfl rfl Tryd.func56 (by kernel_rfl) rfl #[] rfl (by (try simp only [List.map_toArray, List.map_cons, List.map_nil]); first | done | rfl | (simp only [List.length_drop, List.length_take]; rfl)) ?_; (with_reducible refine (escape_names.calls  t175 t178 _ ?side1 A2.out).mono ?_); (case side1 => first | exact HG.out | exact Gd.drewN HG.out _ | exact Gd.drew HG.out | exact Gd.below HG.out (by repeat (first | (with_reducible first | exact HB.out | apply below_alloc | apply pw_below_drewN | apply below_drew1) | exact HB.out))); rintro e w5 ⟨v176, v179, rfl, ho0, ho1, hb⟩; refine ⟨_, rfl, ?_⟩; have n0_ := Aside0.mk (Kd.R_lower ho0 (below_size (by repeat (first | (with_reducible first | exact HB.out | apply below_alloc | apply pw_below_drewN | apply below_drew1) | exact HB.out)))); have n1_ := Aside0.mk (Kd.R_lower ho1 (below_size (by repeat (first | (with_reducible first | exact HB.out | apply below_alloc | apply pw_below_drewN | apply below_drew1) | exact HB.out)))); have n2_ := Aside0.mk (below_step (by repeat (first | (with_reducible first | exact HB.out | apply below_alloc | apply pw_below_drewN | apply below_drew1) | exact HB.out)) hb); clear HB; have HO177 := n0_; have HO180 := n1_; have HB := n2_; clear n0_ n1_ n2_; (try clear hb); (try clear hb2); (try clear hk); (try clear hi); (try clear ho0); (try clear ho1); obtain ⟨Ao6, co6, eo6⟩ := Kd.R_slice HO177.out; subst eo6; obtain ⟨Ao7, co7, eo7⟩ := Kd.R_slice HO180.out; subst eo7) | ((with_reducible refine gate_callee (f := 57) rfl ?_); refine goesL_ (some 12) rfl rfl Tryd.func57 (by kernel_rfl) rfl #[.agg #[.slice Ao6 t175.length co6, .slice Ao7 t178.length co7], .string a0] rfl (by (try simp only [List.map_toArray, List.map_cons, List.map_nil]); first | done | rfl | (simp only [List.length_drop, List.length_take]; rfl)) ?_; (with_reducible refine (escape_table_string_string_of.calls k _ _ t175 _ _ t178 a0 t181 true _ ?side5 ?side1 ?side2 ?side3 ?side4 A3.out).mono ?_); (case side1 => repeat (first | exact (Kd.R_reads' HO177.out).2.2 | (with_reducible refine Kd.C_alloc ?_ _) | (with_reducible refine Kd.C_drewN ?_ _) | (with_reducible refine Kd.C_drew ?_))); (case side2 => exact (Kd.R_reads' HO177.out).2.1); (case side3 => repeat (first | exact (Kd.R_reads' HO180.out).2.2 | (with_reducible refine Kd.C_alloc ?_ _) | (with_reducible refine Kd.C_drewN ?_ _) | (with_reducible refine Kd.C_drew ?_))); (case side4 => exact (Kd.R_reads' HO180.out).2.1); (case side5 => first | exact HG.out | exact Gd.drewN HG.out _ | exact Gd.drew HG.out | exact Gd.below HG.out (by repeat (first | (with_reducible first | exact HB.out | apply below_alloc | apply pw_below_drewN | apply below_drew1) | exact HB.out))); rintro e w8 ⟨rfl, hb⟩; refine ⟨_, rfl, ?_⟩; have n0_ := Aside0.mk (Kd.R_below (by (with_reducible repeat (first | apply Kd.R_alloc | apply Kd.R_drewN | apply Kd.R_drew)); exact HO177.out) hb); have n1_ := Aside0.mk (Kd.R_below (by (with_reducible repeat (first | apply Kd.R_alloc | apply Kd.R_drewN | apply Kd.R_drew)); exact HO180.out) hb); have n2_ := Aside0.mk (below_step (by repeat (first | (with_reducible first | exact HB.out | apply below_alloc | apply pw_below_drewN | apply below_drew1) | exact HB.out)) hb); clear HO177; clear HO180; clear HB; have HO177 := n0_; have HO180 := n1_; have HB := n2_; clear n0_ n1_ n2_; (try clear hb); (try clear hb2); (try clear hk); (try clear hi)))
    go_ret
    exact ⟨by first | rfl | (simp [errW_none, errW_some] <;> rfl) | (simp [*, errW_none, errW_some] <;> rfl), by repeat (first | (with_reducible first | exact HB.out | apply below_alloc | apply pw_below_drewN | apply below_drew1) | exact HB.out)⟩
  · replace c4 := Bool.eq_false_iff.mpr c4
    subst c4
    have H1 : ((strings_CutPrefix.f a0 (⟨#[35, 120]⟩ : ByteArray)).bind fun bt183 => (if bt183.2 = true then ((G_number.f bt183.1 16 6).bind fun t185 => (some t185)) else ((strings_CutPrefix.f a0 (⟨#[35]⟩ : ByteArray)).bind fun bt186 => (if bt186.2 = true then ((G_number.f bt186.1 10 7).bind fun t188 => (some t188)) else (some (⟨#[]⟩ : ByteArray)))))) = some r := by rw [if_neg (show ¬ (false = true) by decide)] at H; exact H
    clear H
    have H := H1
    clear H1
    replace H := Option.bind_eq_some_iff.mp H
    obtain ⟨⟨t183, t184⟩, A90, H⟩ := H
    replace H : (if t184 = true then ((G_number.f t183 16 6).bind fun t185 => (some t185)) else ((strings_CutPrefix.f a0 (⟨#[35]⟩ : ByteArray)).bind fun bt186 => (if bt186.2 = true then ((G_number.f bt186.1 10 7).bind fun t188 => (some t188)) else (some (⟨#[]⟩ : ByteArray))))) = some r := H
    have A9 := Aside0.mk A90
    clear A90
    by_cases c10 : t184 = true
    · subst c10
      have H1 : ((G_number.f t183 16 6).bind fun t185 => (some t185)) = some r := by rw [if_pos rfl] at H; exact H
      clear H
      have H := H1
      clear H1
      replace H := Option.bind_eq_some_iff.mp H
      obtain ⟨t185, A110, H⟩ := H
      replace H : (some t185) = some r := H
      have A11 := Aside0.mk A110
      clear A110
      obtain rfl := Option.some.inj H
      go_enter Tryd.func44, Tryd.ntmps44
      go_wp2_with (first | ((with_reducible refine gate_callee (f := 56) rfl ?_); refine goesL_ (some 10) rfl rfl Tryd.func56 (by kernel_rfl) rfl #[] rfl (by (try simp only [List.map_toArray, List.map_cons, List.map_nil]); first | done | rfl | (simp only [List.length_drop, List.length_take]; rfl)) ?_; (with_reducible refine (escape_names.calls  t175 t178 _ ?side1 A2.out).mono ?_); (case side1 => first | exact HG.out | exact Gd.drewN HG.out _ | exact Gd.drew HG.out | exact Gd.below HG.out (by repeat (first | (with_reducible first | exact HB.out | apply below_alloc | apply pw_below_drewN | apply below_drew1) | exact HB.out))); rintro e w12 ⟨v176, v179, rfl, ho0, ho1, hb⟩; refine ⟨_, rfl, ?_⟩; have n0_ := Aside0.mk (Kd.R_lower ho0 (below_size (by repeat (first | (with_reducible first | exact HB.out | apply below_alloc | apply pw_below_drewN | apply below_drew1) | exact HB.out)))); have n1_ := Aside0.mk (Kd.R_lower ho1 (below_size (by repeat (first | (with_reducible first | exact HB.out | apply below_alloc | apply pw_below_drewN | apply below_drew1) | exact HB.out)))); have n2_ := Aside0.mk (below_step (by repeat (first | (with_reducible first | exact HB.out | apply below_alloc | apply pw_below_drewN | apply below_drew1) | exact HB.out)) hb); clear HB; have HO177 := n0_; have HO180 := n1_; have HB := n2_; clear n0_ n1_ n2_; (try clear hb); (try clear hb2); (try clear hk); (try clear hi); (try clear ho0); (try clear ho1); obtain ⟨Ao13, co13, eo13⟩ := Kd.R_slice HO177.out; subst eo13; obtain ⟨Ao14, co14, eo14⟩ := Kd.R_slice HO180.out; subst eo14) | ((with_reducible refine gate_callee (f := 57) rfl ?_); refine goesL_ (some 12) rfl rfl Tryd.func57 (by kernel_rfl) rfl #[.agg #[.slice Ao13 t175.length co13, .slice Ao14 t178.length co14], .string a0] rfl (by (try simp only [List.map_toArray, List.map_cons, List.map_nil]); first | done | rfl | (simp only [List.length_drop, List.length_take]; rfl)) ?_; (with_reducible refine (escape_table_string_string_of.calls k _ _ t175 _ _ t178 a0 t181 false _ ?side5 ?side1 ?side2 ?side3 ?side4 A3.out).mono ?_); (case side1 => repeat (first | exact (Kd.R_reads' HO177.out).2.2 | (with_reducible refine Kd.C_alloc ?_ _) | (with_reducible refine Kd.C_drewN ?_ _) | (with_reducible refine Kd.C_drew ?_))); (case side2 => exact (Kd.R_reads' HO177.out).2.1); (case side3 => repeat (first | exact (Kd.R_reads' HO180.out).2.2 | (with_reducible refine Kd.C_alloc ?_ _) | (with_reducible refine Kd.C_drewN ?_ _) | (with_reducible refine Kd.C_drew ?_))); (case side4 => exact (Kd.R_reads' HO180.out).2.1); (case side5 => first | exact HG.out | exact Gd.drewN HG.out _ | exact Gd.drew HG.out | exact Gd.below HG.out (by repeat (first | (with_reducible first | exact HB.out | apply below_alloc | apply pw_below_drewN | apply below_drew1) | exact HB.out))); rintro e w15 ⟨rfl, hb⟩; refine ⟨_, rfl, ?_⟩; have n0_ := Aside0.mk (Kd.R_below (by (with_reducible repeat (first | apply Kd.R_alloc | apply Kd.R_drewN | apply Kd.R_drew)); exact HO177.out) hb); have n1_ := Aside0.mk (Kd.R_below (by (with_reducible repeat (first | apply Kd.R_alloc | apply Kd.R_drewN | apply Kd.R_drew)); exact HO180.out) hb); have n2_ := Aside0.mk (below_step (by repeat (first | (with_reducible first | exact HB.out | apply below_alloc | apply pw_below_drewN | apply below_drew1) | exact HB.out)) hb); clear HO177; clear HO180; clear HB; have HO177 := n0_; have HO180 := n1_; have HB := n2_; clear n0_ n1_ n2_; (try clear hb); (try clear hb2); (try clear hk); (try clear hi)) | ((with_reducible refine gate_callee (f := 23) rfl ?_); refine goesL_ (some 19) rfl rfl Tryd.func23 (by kernel_rfl) rfl #[.string a0, .string (⟨#[35, 120]⟩ : ByteArray)] rfl (by (try simp only [List.map_toArray, List.map_cons, List.map_nil]); first | done | rfl | (simp only [List.length_drop, List.length_take]; rfl)) ?_; (with_reducible refine (strings_CutPrefix.calls a0 (⟨#[35, 120]⟩ : ByteArray) t183 true _ ?side1 A9.out).mono ?_); (case side1 => first | exact HG.out | exact Gd.drewN HG.out _ | exact Gd.drew HG.out | exact Gd.below HG.out (by repeat (first | (with_reducible first | exact HB.out | apply below_alloc | apply pw_below_drewN | apply below_drew1) | exact HB.out))); rintro e w' ⟨rfl, ⟨nd, rfl⟩⟩; refine ⟨_, rfl, ?_⟩) | ((with_reducible refine gate_callee (f := 58) rfl ?_); refine goesL_ (some 24) rfl rfl Tryd.func58 (by kernel_rfl) rfl #[.string t183, .int .i64 16, .int .i64 6] rfl (by (try simp only [List.map_toArray, List.map_cons, List.map_nil]); first | done | rfl | (simp only [List.length_drop, List.length_take]; rfl)) ?_; (with_reducible refine (G_number.calls t183 16 6 t185 _ ?side1 A11.out).mono ?_); (case side1 => first | exact HG.out | exact Gd.drewN HG.out _ | exact Gd.drew HG.out | exact Gd.below HG.out (by repeat (first | (with_reducible first | exact HB.out | apply below_alloc | apply pw_below_drewN | apply below_drew1) | exact HB.out))); rintro e w16 ⟨rfl, hb⟩; refine ⟨_, rfl, ?_⟩; have n0_ := Aside0.mk (Kd.R_below (by (with_reducible repeat (first | apply Kd.R_alloc | apply Kd.R_drewN | apply Kd.R_drew)); exact HO177.out) hb); have n1_ := Aside0.mk (Kd.R_below (by (with_reducible repeat (first | apply Kd.R_alloc | apply Kd.R_drewN | apply Kd.R_drew)); exact HO180.out) hb); have n2_ := Aside0.mk (below_step (by repeat (first | (with_reducible first | exact HB.out | apply below_alloc | apply pw_below_drewN | apply below_drew1) | exact HB.out)) hb); clear HO177; clear HO180; clear HB; have HO177 := n0_; have HO180 := n1_; have HB := n2_; clear n0_ n1_ n2_; (try clear hb); (try clear hb2); (try clear hk); (try clear hi)))
      go_ret
      exact ⟨by first | rfl | (simp [errW_none, errW_some] <;> rfl) | (simp [*, errW_none, errW_some] <;> rfl), by repeat (first | (with_reducible first | exact HB.out | apply below_alloc | apply pw_below_drewN | apply below_drew1) | exact HB.out)⟩
    · replace c10 := Bool.eq_false_iff.mpr c10
      subst c10
      have H1 : ((strings_CutPrefix.f a0 (⟨#[35]⟩ : ByteArray)).bind fun bt186 => (if bt186.2 = true then ((G_number.f bt186.1 10 7).bind fun t188 => (some t188)) else (some (⟨#[]⟩ : ByteArray)))) = some r := by rw [if_neg (show ¬ (false = true) by decide)] at H; exact H
      clear H
      have H := H1
      clear H1
      replace H := Option.bind_eq_some_iff.mp H
      obtain ⟨⟨t186, t187⟩, A170, H⟩ := H
      replace H : (if t187 = true then ((G_number.f t186 10 7).bind fun t188 => (some t188)) else (some (⟨#[]⟩ : ByteArray))) = some r := H
      have A17 := Aside0.mk A170
      clear A170
      by_cases c18 : t187 = true
      · subst c18
        have H1 : ((G_number.f t186 10 7).bind fun t188 => (some t188)) = some r := by rw [if_pos rfl] at H; exact H
        clear H
        have H := H1
        clear H1
        replace H := Option.bind_eq_some_iff.mp H
        obtain ⟨t188, A190, H⟩ := H
        replace H : (some t188) = some r := H
        have A19 := Aside0.mk A190
        clear A190
        obtain rfl := Option.some.inj H
        go_enter Tryd.func44, Tryd.ntmps44
        go_wp2_with (first | ((with_reducible refine gate_callee (f := 56) rfl ?_); refine goesL_ (some 10) rfl rfl Tryd.func56 (by kernel_rfl) rfl #[] rfl (by (try simp only [List.map_toArray, List.map_cons, List.map_nil]); first | done | rfl | (simp only [List.length_drop, List.length_take]; rfl)) ?_; (with_reducible refine (escape_names.calls  t175 t178 _ ?side1 A2.out).mono ?_); (case side1 => first | exact HG.out | exact Gd.drewN HG.out _ | exact Gd.drew HG.out | exact Gd.below HG.out (by repeat (first | (with_reducible first | exact HB.out | apply below_alloc | apply pw_below_drewN | apply below_drew1) | exact HB.out))); rintro e w20 ⟨v176, v179, rfl, ho0, ho1, hb⟩; refine ⟨_, rfl, ?_⟩; have n0_ := Aside0.mk (Kd.R_lower ho0 (below_size (by repeat (first | (with_reducible first | exact HB.out | apply below_alloc | apply pw_below_drewN | apply below_drew1) | exact HB.out)))); have n1_ := Aside0.mk (Kd.R_lower ho1 (below_size (by repeat (first | (with_reducible first | exact HB.out | apply below_alloc | apply pw_below_drewN | apply below_drew1) | exact HB.out)))); have n2_ := Aside0.mk (below_step (by repeat (first | (with_reducible first | exact HB.out | apply below_alloc | apply pw_below_drewN | apply below_drew1) | exact HB.out)) hb); clear HB; have HO177 := n0_; have HO180 := n1_; have HB := n2_; clear n0_ n1_ n2_; (try clear hb); (try clear hb2); (try clear hk); (try clear hi); (try clear ho0); (try clear ho1); obtain ⟨Ao21, co21, eo21⟩ := Kd.R_slice HO177.out; subst eo21; obtain ⟨Ao22, co22, eo22⟩ := Kd.R_slice HO180.out; subst eo22) | ((with_reducible refine gate_callee (f := 57) rfl ?_); refine goesL_ (some 12) rfl rfl Tryd.func57 (by kernel_rfl) rfl #[.agg #[.slice Ao21 t175.length co21, .slice Ao22 t178.length co22], .string a0] rfl (by (try simp only [List.map_toArray, List.map_cons, List.map_nil]); first | done | rfl | (simp only [List.length_drop, List.length_take]; rfl)) ?_; (with_reducible refine (escape_table_string_string_of.calls k _ _ t175 _ _ t178 a0 t181 false _ ?side5 ?side1 ?side2 ?side3 ?side4 A3.out).mono ?_); (case side1 => repeat (first | exact (Kd.R_reads' HO177.out).2.2 | (with_reducible refine Kd.C_alloc ?_ _) | (with_reducible refine Kd.C_drewN ?_ _) | (with_reducible refine Kd.C_drew ?_))); (case side2 => exact (Kd.R_reads' HO177.out).2.1); (case side3 => repeat (first | exact (Kd.R_reads' HO180.out).2.2 | (with_reducible refine Kd.C_alloc ?_ _) | (with_reducible refine Kd.C_drewN ?_ _) | (with_reducible refine Kd.C_drew ?_))); (case side4 => exact (Kd.R_reads' HO180.out).2.1); (case side5 => first | exact HG.out | exact Gd.drewN HG.out _ | exact Gd.drew HG.out | exact Gd.below HG.out (by repeat (first | (with_reducible first | exact HB.out | apply below_alloc | apply pw_below_drewN | apply below_drew1) | exact HB.out))); rintro e w23 ⟨rfl, hb⟩; refine ⟨_, rfl, ?_⟩; have n0_ := Aside0.mk (Kd.R_below (by (with_reducible repeat (first | apply Kd.R_alloc | apply Kd.R_drewN | apply Kd.R_drew)); exact HO177.out) hb); have n1_ := Aside0.mk (Kd.R_below (by (with_reducible repeat (first | apply Kd.R_alloc | apply Kd.R_drewN | apply Kd.R_drew)); exact HO180.out) hb); have n2_ := Aside0.mk (below_step (by repeat (first | (with_reducible first | exact HB.out | apply below_alloc | apply pw_below_drewN | apply below_drew1) | exact HB.out)) hb); clear HO177; clear HO180; clear HB; have HO177 := n0_; have HO180 := n1_; have HB := n2_; clear n0_ n1_ n2_; (try clear hb); (try clear hb2); (try clear hk); (try clear hi)) | ((with_reducible refine gate_callee (f := 23) rfl ?_); refine goesL_ (some 19) rfl rfl Tryd.func23 (by kernel_rfl) rfl #[.string a0, .string (⟨#[35, 120]⟩ : ByteArray)] rfl (by (try simp only [List.map_toArray, List.map_cons, List.map_nil]); first | done | rfl | (simp only [List.length_drop, List.length_take]; rfl)) ?_; (with_reducible refine (strings_CutPrefix.calls a0 (⟨#[35, 120]⟩ : ByteArray) t183 false _ ?side1 A9.out).mono ?_); (case side1 => first | exact HG.out | exact Gd.drewN HG.out _ | exact Gd.drew HG.out | exact Gd.below HG.out (by repeat (first | (with_reducible first | exact HB.out | apply below_alloc | apply pw_below_drewN | apply below_drew1) | exact HB.out))); rintro e w' ⟨rfl, ⟨nd, rfl⟩⟩; refine ⟨_, rfl, ?_⟩) | ((with_reducible refine gate_callee (f := 23) rfl ?_); refine goesL_ (some 27) rfl rfl Tryd.func23 (by kernel_rfl) rfl #[.string a0, .string (⟨#[35]⟩ : ByteArray)] rfl (by (try simp only [List.map_toArray, List.map_cons, List.map_nil]); first | done | rfl | (simp only [List.length_drop, List.length_take]; rfl)) ?_; (with_reducible refine (strings_CutPrefix.calls a0 (⟨#[35]⟩ : ByteArray) t186 true _ ?side1 A17.out).mono ?_); (case side1 => first | exact HG.out | exact Gd.drewN HG.out _ | exact Gd.drew HG.out | exact Gd.below HG.out (by repeat (first | (with_reducible first | exact HB.out | apply below_alloc | apply pw_below_drewN | apply below_drew1) | exact HB.out))); rintro e w' ⟨rfl, ⟨nd, rfl⟩⟩; refine ⟨_, rfl, ?_⟩) | ((with_reducible refine gate_callee (f := 58) rfl ?_); refine goesL_ (some 32) rfl rfl Tryd.func58 (by kernel_rfl) rfl #[.string t186, .int .i64 10, .int .i64 7] rfl (by (try simp only [List.map_toArray, List.map_cons, List.map_nil]); first | done | rfl | (simp only [List.length_drop, List.length_take]; rfl)) ?_; (with_reducible refine (G_number.calls t186 10 7 t188 _ ?side1 A19.out).mono ?_); (case side1 => first | exact HG.out | exact Gd.drewN HG.out _ | exact Gd.drew HG.out | exact Gd.below HG.out (by repeat (first | (with_reducible first | exact HB.out | apply below_alloc | apply pw_below_drewN | apply below_drew1) | exact HB.out))); rintro e w24 ⟨rfl, hb⟩; refine ⟨_, rfl, ?_⟩; have n0_ := Aside0.mk (Kd.R_below (by (with_reducible repeat (first | apply Kd.R_alloc | apply Kd.R_drewN | apply Kd.R_drew)); exact HO177.out) hb); have n1_ := Aside0.mk (Kd.R_below (by (with_reducible repeat (first | apply Kd.R_alloc | apply Kd.R_drewN | apply Kd.R_drew)); exact HO180.out) hb); have n2_ := Aside0.mk (below_step (by repeat (first | (with_reducible first | exact HB.out | apply below_alloc | apply pw_below_drewN | apply below_drew1) | exact HB.out)) hb); clear HO177; clear HO180; clear HB; have HO177 := n0_; have HO180 := n1_; have HB := n2_; clear n0_ n1_ n2_; (try clear hb); (try clear hb2); (try clear hk); (try clear hi)))
        go_ret
        exact ⟨by first | rfl | (simp [errW_none, errW_some] <;> rfl) | (simp [*, errW_none, errW_some] <;> rfl), by repeat (first | (with_reducible first | exact HB.out | apply below_alloc | apply pw_below_drewN | apply below_drew1) | exact HB.out)⟩
      · replace c18 := Bool.eq_false_iff.mpr c18
        subst c18
        have H1 : (some (⟨#[]⟩ : ByteArray)) = some r := by rw [if_neg (show ¬ (false = true) by decide)] at H; exact H
        clear H
        have H := H1
        clear H1
        obtain rfl := Option.some.inj H
        go_enter Tryd.func44, Tryd.ntmps44
        go_wp2_with (first | ((with_reducible refine gate_callee (f := 56) rfl ?_); refine goesL_ (some 10) rfl rfl Tryd.func56 (by kernel_rfl) rfl #[] rfl (by (try simp only [List.map_toArray, List.map_cons, List.map_nil]); first | done | rfl | (simp only [List.length_drop, List.length_take]; rfl)) ?_; (with_reducible refine (escape_names.calls  t175 t178 _ ?side1 A2.out).mono ?_); (case side1 => first | exact HG.out | exact Gd.drewN HG.out _ | exact Gd.drew HG.out | exact Gd.below HG.out (by repeat (first | (with_reducible first | exact HB.out | apply below_alloc | apply pw_below_drewN | apply below_drew1) | exact HB.out))); rintro e w25 ⟨v176, v179, rfl, ho0, ho1, hb⟩; refine ⟨_, rfl, ?_⟩; have n0_ := Aside0.mk (Kd.R_lower ho0 (below_size (by repeat (first | (with_reducible first | exact HB.out | apply below_alloc | apply pw_below_drewN | apply below_drew1) | exact HB.out)))); have n1_ := Aside0.mk (Kd.R_lower ho1 (below_size (by repeat (first | (with_reducible first | exact HB.out | apply below_alloc | apply pw_below_drewN | apply below_drew1) | exact HB.out)))); have n2_ := Aside0.mk (below_step (by repeat (first | (with_reducible first | exact HB.out | apply below_alloc | apply pw_below_drewN | apply below_drew1) | exact HB.out)) hb); clear HB; have HO177 := n0_; have HO180 := n1_; have HB := n2_; clear n0_ n1_ n2_; (try clear hb); (try clear hb2); (try clear hk); (try clear hi); (try clear ho0); (try clear ho1); obtain ⟨Ao26, co26, eo26⟩ := Kd.R_slice HO177.out; subst eo26; obtain ⟨Ao27, co27, eo27⟩ := Kd.R_slice HO180.out; subst eo27) | ((with_reducible refine gate_callee (f := 57) rfl ?_); refine goesL_ (some 12) rfl rfl Tryd.func57 (by kernel_rfl) rfl #[.agg #[.slice Ao26 t175.length co26, .slice Ao27 t178.length co27], .string a0] rfl (by (try simp only [List.map_toArray, List.map_cons, List.map_nil]); first | done | rfl | (simp only [List.length_drop, List.length_take]; rfl)) ?_; (with_reducible refine (escape_table_string_string_of.calls k _ _ t175 _ _ t178 a0 t181 false _ ?side5 ?side1 ?side2 ?side3 ?side4 A3.out).mono ?_); (case side1 => repeat (first | exact (Kd.R_reads' HO177.out).2.2 | (with_reducible refine Kd.C_alloc ?_ _) | (with_reducible refine Kd.C_drewN ?_ _) | (with_reducible refine Kd.C_drew ?_))); (case side2 => exact (Kd.R_reads' HO177.out).2.1); (case side3 => repeat (first | exact (Kd.R_reads' HO180.out).2.2 | (with_reducible refine Kd.C_alloc ?_ _) | (with_reducible refine Kd.C_drewN ?_ _) | (with_reducible refine Kd.C_drew ?_))); (case side4 => exact (Kd.R_reads' HO180.out).2.1); (case side5 => first | exact HG.out | exact Gd.drewN HG.out _ | exact Gd.drew HG.out | exact Gd.below HG.out (by repeat (first | (with_reducible first | exact HB.out | apply below_alloc | apply pw_below_drewN | apply below_drew1) | exact HB.out))); rintro e w28 ⟨rfl, hb⟩; refine ⟨_, rfl, ?_⟩; have n0_ := Aside0.mk (Kd.R_below (by (with_reducible repeat (first | apply Kd.R_alloc | apply Kd.R_drewN | apply Kd.R_drew)); exact HO177.out) hb); have n1_ := Aside0.mk (Kd.R_below (by (with_reducible repeat (first | apply Kd.R_alloc | apply Kd.R_drewN | apply Kd.R_drew)); exact HO180.out) hb); have n2_ := Aside0.mk (below_step (by repeat (first | (with_reducible first | exact HB.out | apply below_alloc | apply pw_below_drewN | apply below_drew1) | exact HB.out)) hb); clear HO177; clear HO180; clear HB; have HO177 := n0_; have HO180 := n1_; have HB := n2_; clear n0_ n1_ n2_; (try clear hb); (try clear hb2); (try clear hk); (try clear hi)) | ((with_reducible refine gate_callee (f := 23) rfl ?_); refine goesL_ (some 19) rfl rfl Tryd.func23 (by kernel_rfl) rfl #[.string a0, .string (⟨#[35, 120]⟩ : ByteArray)] rfl (by (try simp only [List.map_toArray, List.map_cons, List.map_nil]); first | done | rfl | (simp only [List.length_drop, List.length_take]; rfl)) ?_; (with_reducible refine (strings_CutPrefix.calls a0 (⟨#[35, 120]⟩ : ByteArray) t183 false _ ?side1 A9.out).mono ?_); (case side1 => first | exact HG.out | exact Gd.drewN HG.out _ | exact Gd.drew HG.out | exact Gd.below HG.out (by repeat (first | (with_reducible first | exact HB.out | apply below_alloc | apply pw_below_drewN | apply below_drew1) | exact HB.out))); rintro e w' ⟨rfl, ⟨nd, rfl⟩⟩; refine ⟨_, rfl, ?_⟩) | ((with_reducible refine gate_callee (f := 23) rfl ?_); refine goesL_ (some 27) rfl rfl Tryd.func23 (by kernel_rfl) rfl #[.string a0, .string (⟨#[35]⟩ : ByteArray)] rfl (by (try simp only [List.map_toArray, List.map_cons, List.map_nil]); first | done | rfl | (simp only [List.length_drop, List.length_take]; rfl)) ?_; (with_reducible refine (strings_CutPrefix.calls a0 (⟨#[35]⟩ : ByteArray) t186 false _ ?side1 A17.out).mono ?_); (case side1 => first | exact HG.out | exact Gd.drewN HG.out _ | exact Gd.drew HG.out | exact Gd.below HG.out (by repeat (first | (with_reducible first | exact HB.out | apply below_alloc | apply pw_below_drewN | apply below_drew1) | exact HB.out))); rintro e w' ⟨rfl, ⟨nd, rfl⟩⟩; refine ⟨_, rfl, ?_⟩))
        go_ret
        exact ⟨by first | rfl | (simp [errW_none, errW_some] <;> rfl) | (simp [*, errW_none, errW_some] <;> rfl), by repeat (first | (with_reducible first | exact HB.out | apply below_alloc | apply pw_below_drewN | apply below_drew1) | exact HB.out)⟩

end Go.Proofs.YtfelfpjfjjgmoaaDoor.P
end
/- Plain answers of small printed functions: strings.CutPrefix, escape.sign. -/
section
set_option linter.unusedVariables false
namespace Go.Proofs.YtfelfpjfjjgmoaaDoor
open Go.RowKit Go.Proofs.YtfelfpjfjjgmoaaDoorW.PrintWords

def cutP (s p : ByteArray) : ByteArray × Bool := if (s.data.toList.take p.size == p.data.toList) = true then (s.extract p.size s.size, true) else (s, false)
theorem extract_list (s : ByteArray) (a b : Nat) : (s.extract a b).data.toList = (s.data.toList.drop a).take (b - a) := by
  simp [ByteArray.data_extract]
theorem toList_d (s : ByteArray) : s.toList = s.data.toList := Lib.toList_data s
theorem hasPrefix_eq (s p : ByteArray) : P.stringslite_HasPrefix.f s p = some (s.data.toList.take p.size == p.data.toList) := by
  unfold P.stringslite_HasPrefix.f
  by_cases h : (s.size : Int) ≥ (p.size : Int)
  · rw [if_pos h, if_pos (by omega), if_pos (by omega), toList_d, toList_d, extract_list]
    simp
  · rw [if_neg h]
    congr 1
    symm
    rw [beq_eq_false_iff_ne]
    intro e
    have := congrArg List.length e
    rw [List.length_take, data_length, data_length] at this
    omega
theorem cutP_eq (s p : ByteArray) : P.strings_CutPrefix.f s p = some (cutP s p) := by
  unfold P.strings_CutPrefix.f P.stringslite_CutPrefix.f cutP
  rw [hasPrefix_eq]
  simp only [Option.bind_some]
  split
  · rename_i h
    have hle : p.size ≤ s.size := by
      have := congrArg List.length (beq_iff_eq.1 h)
      rw [List.length_take, data_length, data_length] at this
      omega
    rw [if_pos (by omega), if_pos (by omega)]
    simp
  · simp

def bs (l : List UInt8) : ByteArray := ⟨l.toArray⟩
/-- What a name between an ampersand and a semicolon stands for. -/
def signF (s : ByteArray) : ByteArray :=
  if s.data.toList = [97, 109, 112] then ⟨#[38]⟩ else if s.data.toList = [108, 116] then ⟨#[60]⟩ else if s.data.toList = [103, 116] then ⟨#[62]⟩
  else if s.data.toList = [113, 117, 111, 116] then ⟨#[34]⟩ else if s.data.toList = [97, 112, 111, 115] then ⟨#[39]⟩
  else if (cutP s ⟨#[35, 120]⟩).2 = true then numF 16 6 (cutP s ⟨#[35, 120]⟩).1 else if (cutP s ⟨#[35]⟩).2 = true then numF 10 7 (cutP s ⟨#[35]⟩).1 else ⟨#[]⟩
theorem cutP_le (s p : ByteArray) : (cutP s p).1.size ≤ s.size := by
  unfold cutP
  split
  · simp
  · simp
theorem names_of (s : ByteArray) : P.escape_table_string_string_of.f 6 [⟨#[97, 109, 112]⟩, ⟨#[108, 116]⟩, ⟨#[103, 116]⟩, ⟨#[113, 117, 111, 116]⟩, ⟨#[97, 112, 111, 115]⟩] [⟨#[38]⟩, ⟨#[60]⟩, ⟨#[62]⟩, ⟨#[34]⟩, ⟨#[39]⟩] s =
    some (if s.data.toList = [97, 109, 112] then (⟨#[38]⟩, true) else if s.data.toList = [108, 116] then (⟨#[60]⟩, true) else if s.data.toList = [103, 116] then (⟨#[62]⟩, true)
  else if s.data.toList = [113, 117, 111, 116] then (⟨#[34]⟩, true) else if s.data.toList = [97, 112, 111, 115] then (⟨#[39]⟩, true) else (⟨#[]⟩, false)) := by
  unfold P.escape_table_string_string_of.f P.slices_Index_string_string.f
  have w1 : wrap64 1 = 1 := by unfold wrap64; omega
  have w2 : wrap64 2 = 2 := by unfold wrap64; omega
  have w3 : wrap64 3 = 3 := by unfold wrap64; omega
  have w4 : wrap64 4 = 4 := by unfold wrap64; omega
  have w5 : wrap64 5 = 5 := by unfold wrap64; omega
  simp only [P.slices_Index_string_string.l0, toList_d, List.length_cons, List.length_nil]
  simp only [rdOf, List.getD]
  by_cases h1 : s.data.toList = [97, 109, 112]
  · simp [h1, P.escape_at_string.f, rdOf]
  by_cases h2 : s.data.toList = [108, 116]
  · simp [h2, w1, P.escape_at_string.f, rdOf]
  by_cases h3 : s.data.toList = [103, 116]
  · simp [h3, w1, w2, P.escape_at_string.f, rdOf]
  by_cases h4 : s.data.toList = [113, 117, 111, 116]
  · simp [h4, w1, w2, w3, P.escape_at_string.f, rdOf]
  by_cases h5 : s.data.toList = [97, 112, 111, 115]
  · simp [h5, w1, w2, w3, w4, P.escape_at_string.f, rdOf]
  · simp [h1, h2, h3, h4, h5, w1, w2, w3, w4, w5, P.escape_at_string.f]
theorem sign_eq (s : ByteArray) (hs : s.size ≤ 281474976710656) : P.escape_sign.f 6 s = some (signF s) := by
  unfold P.escape_sign.f P.escape_names.f signF
  simp only [Option.bind_some]
  rw [names_of, cutP_eq, cutP_eq]
  simp only [Option.bind_some]
  have hn : ∀ p b m, (b = 10 ∨ b = 16) → G_number.f (cutP s p).1 b m = some (numF b m (cutP s p).1) := fun p b m hb => by
    unfold G_number.f
    rw [if_pos (by have := cutP_le s p; omega), if_pos hb]
  rw [hn _ _ _ (.inr rfl), hn _ _ _ (.inl rfl)]
  simp only [Option.bind_some]
  by_cases h1 : s.data.toList = [97, 109, 112]
  · simp [h1]
  by_cases h2 : s.data.toList = [108, 116]
  · simp [h2]
  by_cases h3 : s.data.toList = [103, 116]
  · simp [h3]
  by_cases h4 : s.data.toList = [113, 117, 111, 116]
  · simp [h4]
  by_cases h5 : s.data.toList = [97, 112, 111, 115]
  · simp [h5]
  simp only [h1, h2, h3, h4, h5, if_false, Bool.false_eq_true]
  split
  · rfl
  · split <;> rfl
end Go.Proofs.YtfelfpjfjjgmoaaDoor
end
/- strings.Builder's WriteString and String at this translation, by the library's contracts. -/
section
set_option linter.unusedVariables false
namespace Go.Proofs
open Go.Shelf
def Tryd.lays166_ren : Go.Shelf.Ren := ⟨fun | 166 => 42 | 240 => 55 | 276 => 68 | n => n, fun | 0 => 0 | 3 => 3 | 4 => 4 | 9 => 9 | 20 => 20 | 37 => 37 | 70 => 70 | 72 => 72 | 75 => 76 | 164 => 107 | 5 => 5 | 80 => 79 | n => n, fun | n => n⟩
theorem Tryd.lays166 : Go.Proofs.Lays.n166 Tryd.prog Tryd.lays166_ren := {
  mixed := by kernel_rfl
  f166 := Tryd.func42.trans (congrArg some (by kernel_rfl))
  f240 := Tryd.func55.trans (congrArg some (by kernel_rfl))
  f276 := Tryd.func68.trans (congrArg some (by kernel_rfl))
  t0 := Tryd.underlying0
  a0 := Tryd.isAgg0
  z0 := Tryd.sizeOf0
  v0 := Tryd.zeroValue0
  t3 := Tryd.underlying3
  a3 := Tryd.isAgg3
  z3 := Tryd.sizeOf3
  v3 := Tryd.zeroValue3
  t4 := Tryd.underlying4
  a4 := Tryd.isAgg4
  z4 := Tryd.sizeOf4
  v4 := Tryd.zeroValue4
  t9 := Tryd.underlying9
  a9 := Tryd.isAgg9
  z9 := Tryd.sizeOf9
  v9 := Tryd.zeroValue9
  t20 := Tryd.underlying20
  a20 := Tryd.isAgg20
  z20 := Tryd.sizeOf20
  v20 := Tryd.zeroValue20
  t37 := Tryd.underlying37
  a37 := Tryd.isAgg37
  z37 := Tryd.sizeOf37
  v37 := Tryd.zeroValue37
  t70 := Tryd.underlying70
  a70 := Tryd.isAgg70
  z70 := Tryd.sizeOf70
  v70 := Tryd.zeroValue70
  t72 := Tryd.underlying72
  a72 := Tryd.isAgg72
  z72 := Tryd.sizeOf72
  v72 := Tryd.zeroValue72
  t75 := Tryd.underlying76
  a75 := Tryd.isAgg76
  z75 := Tryd.sizeOf76
  v75 := Tryd.zeroValue76
  t164 := Tryd.underlying107
  a164 := Tryd.isAgg107
  z164 := Tryd.sizeOf107
  v164 := Tryd.zeroValue107 }
theorem Tryd.Builder_Extra_166 : Builder.Extra Tryd.prog Tryd.lays166_ren := {
  sizeBuilder := by kernel_rfl
  liesBuilder := by kernel_rfl
  t5 := Tryd.underlying5
  a5 := Tryd.isAgg5
  z5 := Tryd.sizeOf5
  v5 := Tryd.zeroValue5
  infoByte := by kernel_rfl
  cellsByte := by kernel_rfl
  sizeByte := by kernel_rfl
  neB5 := by decide }
end Go.Proofs
end
/- escape.Back: the text that stands in XML so, or why none does. -/
section
set_option linter.unusedVariables false
namespace Go.Proofs.YtfelfpjfjjgmoaaDoor
open Go.RowKit Go.Shelf Go.Proofs.YtfelfpjfjjgmoaaDoorW.PrintWords

/-! ### cutting at one byte, plain -/
def cutAt (c : UInt8) : List UInt8 → List UInt8 × List UInt8 × Bool
  | [] => ([], [], false)
  | x :: l => if x = c then ([], l, true) else (x :: (cutAt c l).1, (cutAt c l).2.1, (cutAt c l).2.2)
theorem index_ge (c : UInt8) : ∀ l : List UInt8, -1 ≤ Lib.index l [c]
  | [] => by simp [Lib.index]
  | x :: l => by
    have ih := index_ge c l
    unfold Lib.index
    split
    · omega
    · split
      · omega
      · omega
theorem cut_eq (c : UInt8) : ∀ l : List UInt8, Lib.cut l [c] = cutAt c l
  | [] => by simp [Lib.cut, Lib.index, cutAt]
  | x :: l => by
    have ih := cut_eq c l
    have hg := index_ge c l
    unfold cutAt
    by_cases h : x = c
    · subst h
      rw [if_pos rfl]
      simp [Lib.cut, Lib.index]
    · rw [if_neg h, ← ih]
      have hp : ([c].isPrefixOf (x :: l)) = false := by
        simp only [List.isPrefixOf, Bool.and_true]
        exact beq_eq_false_iff_ne.2 (fun e => h e.symm)
      unfold Lib.cut
      rw [show Lib.index (x :: l) [c] = if Lib.index l [c] == -1 then -1 else Lib.index l [c] + 1 from by conv => lhs; unfold Lib.index; rw [hp]; simp only [Bool.false_eq_true, if_false]]
      by_cases h0 : 0 ≤ Lib.index l [c]
      · have e1 : (Lib.index l [c] == -1) = false := beq_eq_false_iff_ne.2 (by omega)
        rw [e1]
        simp only [Bool.false_eq_true, if_false]
        rw [if_pos (by omega), if_pos h0]
        have e2 : (Lib.index l [c] + 1).toNat = (Lib.index l [c]).toNat + 1 := by omega
        rw [e2]
        simp only [List.take_succ_cons, List.length_cons, List.length_nil]
        rw [show (Lib.index l [c]).toNat + 1 + (0 + 1) = ((Lib.index l [c]).toNat + (0 + 1)) + 1 from by omega, List.drop_succ_cons]
      · have e1 : Lib.index l [c] = -1 := by omega
        rw [e1]
        simp
theorem cutAt_len (c : UInt8) : ∀ l : List UInt8, (cutAt c l).1.length + (cutAt c l).2.1.length + (if (cutAt c l).2.2 = true then 1 else 0) = l.length
  | [] => rfl
  | x :: l => by
    have ih := cutAt_len c l
    unfold cutAt
    split
    · simp
    · simp only [List.length_cons]
      omega

/-! ### Back, plain -/
def backL : Nat → List UInt8 → List UInt8 → Option (List UInt8)
  | 0, _, _ => none
  | k + 1, acc, l =>
    if (cutAt 38 l).2.2 = true then
      (if (cutAt 59 (cutAt 38 l).2.1).2.2 = true then
        (if (signF (bs (cutAt 59 (cutAt 38 l).2.1).1)).data.toList = [] then none
         else backL k (acc ++ (cutAt 38 l).1 ++ (signF (bs (cutAt 59 (cutAt 38 l).2.1).1)).data.toList) (cutAt 59 (cutAt 38 l).2.1).2.1)
       else none)
    else some (acc ++ (cutAt 38 l).1)
def resF : Option (List UInt8) → ByteArray × Int
  | some r => (bs r, 0)
  | none => (⟨#[]⟩, 5)
def backF (s : ByteArray) : ByteArray × Int :=
  if validB s = true then (if Lib.contains s.data.toList [60] = true then (⟨#[]⟩, 5) else resF (backL (s.size + 1) [] s.data.toList)) else (⟨#[]⟩, 3)

theorem numF_size (b m : Int) (s : ByteArray) : (numF b m s).size ≤ 4 := by
  unfold numF
  split
  · split
    · exact Nat.zero_le _
    · split
      · exact Nat.zero_le _
      · split
        · split
          · exact encode_size _
          · exact Nat.zero_le _
        · exact Nat.zero_le _
  · exact Nat.zero_le _
theorem signF_size (s : ByteArray) : (signF s).size ≤ 4 := by
  unfold signF
  repeat' split
  all_goals first | exact numF_size _ _ _ | exact (show (1 : Nat) ≤ 4 by omega) | exact Nat.zero_le _

theorem builder_below {T e : TypeId} {B b : Nat} {xs : List Value} {w w1 : World} (h : Lib.IsBuilder T e B b xs w) (hb : Below w.heap.size w w1) : Lib.IsBuilder T e B b xs w1 := by
  have f : ∀ p, Lib.BuilderAt T e B b p xs w → Lib.BuilderAt T e B b p xs w1 := by
    rintro p ⟨h1, v, h2, h3, h4⟩
    exact ⟨h1, v, (hb.block b (Array.getElem?_eq_some_iff.1 h2).1).trans h2, pw_own_below h3 hb, h4⟩
  exact h.imp (f _) (f _)
theorem builder_new (T e : TypeId) (B : Nat) (w : World) (hB : B ≤ w.heap.size) : Lib.IsBuilder T e B w.heap.size [] (w.alloc (.cells #[.pointer none, .slice none 0 0] T)) :=
  .inl ⟨hB, .slice none 0 0, by simpa using heap_alloc_new w _, own_nil _ _ _ _, by simp [Value.ownBlock]⟩
theorem bs_list (l : List UInt8) : (bs l).data.toList = l := by simp [bs]
theorem bs_size (l : List UInt8) : (bs l).size = l.length := by simp [bs, ByteArray.size]
theorem bs_of (s : ByteArray) : bs s.data.toList = s := by cases s; simp [bs]
theorem cells_app (a : List UInt8) (s : ByteArray) : Lib.byteCells a ++ Lib.strCells s = Lib.byteCells (a ++ s.data.toList) := by simp [Lib.strCells_eq, Lib.byteCells_append]

theorem CutBs (l : List UInt8) (c : UInt8) (hl : l.length < 4294967281) (w : World) (hG_ : Gd w) :
    Calls Tryd.prog 41 #[.string (bs l), .string ⟨#[c]⟩] w fun e w' => e = .returned (.tuple #[.string (bs (cutAt c l).1), .string (bs (cutAt c l).2.1), .bool (cutAt c l).2.2]) ∧ Drawn0 w w' := by
  refine (G_Cut.calls (bs l) ⟨#[c]⟩ (bs (cutAt c l).1) (bs (cutAt c l).2.1) (cutAt c l).2.2 w hG_ ?_)
  unfold G_Cut.f
  rw [if_pos (by rw [bs_size]; exact hl), bs_list, show (⟨#[c]⟩ : ByteArray).data.toList = [c] from rfl, cut_eq]
  rfl
theorem bs_empty (l : List UInt8) : (bs l).toList.isEmpty = l.isEmpty := by rw [toList_d, bs_list]

/-- What is known at the head of a round. -/
def BRel (w0 : World) (b : Nat) (N : Nat) (ANS : ByteArray × Int) (gg : Nat) (s0 : Value) (wx : World) : Prop :=
  ∃ acc l : List UInt8, s0 = .string (bs l) ∧ l.length < gg ∧ Lib.IsBuilder 72 5 w0.heap.size b (Lib.byteCells acc) wx ∧ Below w0.heap.size w0 wx ∧ resF (backL gg acc l) = ANS ∧ acc.length + 4 * l.length ≤ N

def G_Back.f (s : ByteArray) : Option (ByteArray × Int) := if s.size < 1000000000 then some (backF s) else none
set_option maxHeartbeats 8000000 in
set_option maxRecDepth 100000 in
theorem G_Back.calls (a0 : ByteArray) (r1 : ByteArray) (r2 : Int) (w : World) (hG_ : Gd w) (h : G_Back.f a0 = some (r1, r2)) :
    Calls Tryd.prog 27 #[.string a0] w fun e w' => e = .returned (.tuple #[.string r1, .int .i64 r2]) ∧ Below w.heap.size w w' := by
  unfold G_Back.f at h
  split at h
  rotate_left
  · cases h
  rename_i hs
  injection h with h
  have CV := G_Valid.calls a0 (validB a0) w hG_ (by unfold G_Valid.f; rw [if_pos (by omega)])
  have CC := fun W (hb : Below w.heap.size w W) => G_Contains.calls a0 ⟨#[60]⟩ (Lib.contains a0.data.toList [60]) W (hG_.below hb) (by unfold G_Contains.f; rw [if_pos (by omega)])
  unfold backF at h
  have HG := Aside0.mk hG_
  clear hG_
  cases hv : validB a0 with
  | false =>
    rw [hv] at h CV
    simp only [Bool.false_eq_true, if_false, Prod.mk.injEq] at h
    obtain ⟨rfl, rfl⟩ := h
    clear hv CC
    go_enter Tryd.func27, Tryd.ntmps27
    go_wp2_with (go_at_call 14; refine CV.mono ?_; rintro e w1 ⟨rfl, hb1⟩)
    go_ret2
    exact ⟨rfl, hb1⟩
  | true =>
    rw [hv] at h CV
    simp only [if_true] at h
    clear hv
    cases hc : Lib.contains a0.data.toList [60] with
    | true =>
      rw [hc] at h CC
      simp only [if_true, Prod.mk.injEq] at h
      obtain ⟨rfl, rfl⟩ := h
      clear hc
      go_enter Tryd.func27, Tryd.ntmps27
      go_wp2_with (first | (go_at_call 14; refine CV.mono ?_; rintro e w1 ⟨rfl, hb1⟩) | (go_at_call 40; refine (CC _ hb1).mono ?_; rintro e w2 ⟨rfl, ⟨nd, rfl⟩⟩))
      go_ret2
      exact ⟨rfl, pw_below_drewN hb1 _⟩
    | false =>
      rw [hc] at h CC
      simp only [Bool.false_eq_true, if_false] at h
      clear hc
      have HA := Aside0.mk h
      clear h
      have hs' := Aside0.mk hs
      go_enter Tryd.func27, Tryd.ntmps27
      go_wp2_with (first | (go_at_call 14; refine CV.mono ?_; rintro e w1 ⟨rfl, hb1⟩) | (go_at_call 40; refine (CC _ hb1).mono ?_; rintro e w2 ⟨rfl, ⟨nd, rfl⟩⟩))
      have hB0 := builder_new 72 5 w.heap.size (w1.drewN nd) (by have := hb1.size; exact this)
      have hbb := below_alloc (pw_below_drewN hb1 nd) (.cells #[.pointer none, .slice none 0 0] 72)
      have HR : BRel w w1.heap.size (4 * a0.size) (r1, r2) (a0.size + 1) (.string a0) ((w1.drewN nd).alloc (.cells #[.pointer none, .slice none 0 0] 72)) :=
        ⟨[], a0.data.toList, by rw [bs_of], by rw [data_length]; omega, hB0, hbb, HA.out, by rw [data_length]; simp⟩
      clear HA hB0 hbb CV CC
      have HR' := Aside0.mk HR
      clear HR
      generalize w1.heap.size = b at HR' ⊢
      go_loopg [0] (a0.size + 1) (fun gg s0 wx => BRel w b (4 * a0.size) (r1, r2) gg s0 wx)
      case atStart => exact HR'.out
      case round =>
        clear HR' hb1
        obtain ⟨acc, l, rfl, hg, hI, hBx, hans, hN⟩ := hrel
        have hsN := hs'.out
        have hlb : l.length < 4294967281 := by omega
        have C1 := CutBs l 38 hlb wr (HG.out.below hBx)
        obtain ⟨g', rfl⟩ : ∃ g', gk = g' + 1 := ⟨gk - 1, by omega⟩
        have hL := cutAt_len 38 l
        simp only [backL] at hans
        rcases hcut : cutAt 38 l with ⟨hd, rs, is⟩
        rw [hcut] at C1 hL hans
        simp only [] at C1 hL hans
        clear hcut
        have WS := fun (W : World) (ac : List UInt8) (x : ByteArray) (hIW : Lib.IsBuilder 72 5 w.heap.size b (Lib.byteCells ac) W) (hl : ac.length + x.size ≤ 140737488355328) (hBW : w.heap.size ≤ W.heap.size) =>
          (show Calls Tryd.prog 42 #[.pointer (some ⟨b, 0, none⟩), .string x] W fun e w' => e = .returned (.tuple #[.int .i64 x.size, .nilIface]) ∧ Lib.IsBuilder 72 5 w.heap.size b (Lib.byteCells (ac ++ x.data.toList)) w' ∧ Below w.heap.size W w' from
            (Any.Builder_WriteString Tryd.lays166 Tryd.Builder_Extra_166 w.heap.size b (Lib.byteCells ac) x W hIW (by rw [Lib.byteCells_length]; exact hl) hBW).mono fun e w' ⟨he, h1, h2⟩ => ⟨he, by rw [← cells_app]; exact .inr h1, h2⟩)
        have hI' := Aside0.mk hI
        have hBx' := Aside0.mk hBx
        clear hI hBx
        cases is with
        | false =>
          simp only [Bool.false_eq_true, if_false, Nat.add_zero] at hL hans
          have HR := Aside0.mk hans
          clear hans
          have ST := fun (W : World) (ac : List UInt8) (hIW : Lib.IsBuilder 72 5 w.heap.size b (Lib.byteCells ac) W) (hBW : w.heap.size ≤ W.heap.size) =>
            (show Calls Tryd.prog 43 #[.pointer (some ⟨b, 0, none⟩)] W fun e w' => e = .returned (.string (bs ac)) ∧ Below w.heap.size W w' from
              Any.Builder_String_any Tryd.lays169 Tryd.Builder_Extra_169 w.heap.size b ac W hIW hBW)
          go_wp2_with fail
          refine C1.mono ?_
          rintro e w2 ⟨rfl, hd2⟩
          have hb2 := Aside0.mk hd2.below
          clear hd2
          go_wp2_with fail
          refine (WS w2 acc (bs hd) (builder_below hI'.out hb2.out) (by rw [bs_size]; omega) (Nat.le_trans hBx'.out.size hb2.out.size)).mono ?_
          rintro e w3 ⟨rfl, hI3, hB3⟩
          rw [bs_list] at hI3
          have hI3' := Aside0.mk hI3
          have hB3' := Aside0.mk hB3
          clear hI3 hB3
          go_wp2_with fail
          refine (ST w3 (acc ++ hd) hI3'.out (Nat.le_trans (Nat.le_trans hBx'.out.size hb2.out.size) hB3'.out.size)).mono ?_
          rintro e w4 ⟨rfl, hB4⟩
          have hB4' := Aside0.mk hB4
          clear hB4
          go_wp2
          go_ret2
          refine ⟨?_, ?_⟩
          · have := HR.out
            simp only [resF, Prod.mk.injEq] at this
            rw [← this.1, ← this.2]
            rfl
          · exact ((hBx'.out.trans (hb2.out.mono hBx'.out.size)).trans hB3'.out).trans hB4'.out
        | true =>
          simp only [if_true] at hL hans
          have hL2 := cutAt_len 59 rs
          have hrb : rs.length < 4294967281 := by omega
          have C2 := fun (W : World) (hb : Below w.heap.size w W) => CutBs rs 59 hrb W (HG.out.below hb)
          rcases hcut2 : cutAt 59 rs with ⟨nm, tl, en⟩
          rw [hcut2] at C2 hL2 hans
          simp only [] at C2 hL2 hans
          clear hcut2
          have SG := fun (W : World) (hb : Below w.heap.size w W) => P.escape_sign.calls 6 (bs nm) (signF (bs nm)) W (HG.out.below hb) (sign_eq (bs nm) (by rw [bs_size]; omega))
          have hz := signF_size (bs nm)
          generalize signF (bs nm) = x at SG hans hz
          have HR := Aside0.mk hans
          clear hans
          go_wp2_with fail
          refine C1.mono ?_
          rintro e w2 ⟨rfl, hd2⟩
          have hb2 := Aside0.mk hd2.below
          clear hd2
          go_wp2_with fail
          refine (WS w2 acc (bs hd) (builder_below hI'.out hb2.out) (by rw [bs_size]; omega) (Nat.le_trans hBx'.out.size hb2.out.size)).mono ?_
          rintro e w3 ⟨rfl, hI3, hB3⟩
          rw [bs_list] at hI3
          have hI3' := Aside0.mk hI3
          have hB3' := Aside0.mk (((hBx'.out.trans (hb2.out.mono hBx'.out.size)).trans hB3))
          clear hI3 hB3
          go_wp2_with fail
          refine (C2 w3 hB3'.out).mono ?_
          rintro e w4 ⟨rfl, hd4⟩
          have hI4' := Aside0.mk (builder_below hI3'.out hd4.below)
          have hB4' := Aside0.mk (hB3'.out.trans (hd4.below.mono hB3'.out.size))
          clear hd4 hI3' hB3'
          go_wp2_with fail
          refine (SG w4 hB4'.out).mono ?_
          rintro e w5 ⟨rfl, hb5⟩
          have hI5' := Aside0.mk (builder_below hI4'.out hb5)
          have hB5' := Aside0.mk (hB4'.out.trans (hb5.mono hB4'.out.size))
          clear hb5 hI4' hB4'
          cases en with
          | false =>
            go_wp2
            go_ret2
            refine ⟨?_, hB5'.out⟩
            have := HR.out
            simp only [Bool.false_eq_true, if_false, resF, Prod.mk.injEq] at this
            rw [← this.1, ← this.2]
            rfl
          | true =>
            simp only [if_true] at hL2
            cases hx : x.data.toList with
            | nil =>
              have hxe : x.toList.isEmpty = true := by rw [toList_d, hx]; rfl
              have HR2 := Aside0.mk (show resF none = (r1, r2) from by have h := HR.out; rw [if_pos rfl, if_pos hx] at h; exact h)
              clear HR
              clear hx
              go_wp2
              go_ret2
              refine ⟨?_, hB5'.out⟩
              have := HR2.out
              simp only [resF, Prod.mk.injEq] at this
              rw [← this.1, ← this.2]
              rfl
            | cons c0 xs =>
              have hxe : x.toList.isEmpty = false := by rw [toList_d, hx]; rfl
              have HR2 := Aside0.mk (show resF (backL g' (acc ++ hd ++ x.data.toList) tl) = (r1, r2) from by have h := HR.out; rw [if_pos rfl, if_neg (by rw [hx]; simp)] at h; exact h)
              clear HR hx
              go_wp2_with fail
              refine (WS w5 (acc ++ hd) x hI5'.out (by rw [List.length_append]; omega) hB5'.out.size).mono ?_
              rintro e w6 ⟨rfl, hI6, hB6⟩
              have hI6' := Aside0.mk hI6
              have hB6' := Aside0.mk (hB5'.out.trans hB6)
              clear hI6 hB6 hI5' hB5'
              go_wp2
              go_roundg g'
              case measure => omega
              case rel => exact ⟨acc ++ hd ++ x.data.toList, tl, rfl, by omega, hI6'.out, hB6'.out, HR2.out, by simp only [List.length_append]; rw [data_length]; omega⟩
end Go.Proofs.YtfelfpjfjjgmoaaDoor
end
/- Lean functions for functions of the program, and that the Go code comes to their answers, where the library's variables are as Gd says. Written by a turned copy of the kit's print; Lean checks it. -/
section
namespace Go.Proofs.YtfelfpjfjjgmoaaDoor.P
open Go.RowKit Go.Proofs.YtfelfpjfjjgmoaaDoorW.PrintWords Go.Proofs.YtfelfpjfjjgmoaaDoorW.PrintLast Go.Proofs.YtfelfpjfjjgmoaaDoorW.PrintMore
attribute [local go_sem] max2_int min2_int max_two min_two max_three min_three max_four min_four   -- for this text's walks alone
set_option linter.unusedVariables false
set_option linter.unusedSimpArgs false

/-- A state of type 46 at block g of W; what its slices lead to came in by w0. -/
def IsS46 (w0 W : World) (g : Nat) (f0 : ByteArray) (f1 : ByteArray) : Prop := W.heap[g]? = some (.cells #[.string f0, .string f1] 46 (0, 0)) ∧ w0.heap.size ≤ g
theorem IsS46.grown {w0 W : World} {g : Nat} {f0 : ByteArray} {f1 : ByteArray} {W1 : World} {row : Option Nat} (h : IsS46 w0 W g f0 f1) (hw : W.grownBy W1 row) (hne : some g ≠ row) : IsS46 w0 W1 g f0 f1 := by
  obtain ⟨hb, hg⟩ := h
  exact ⟨blk_grown hb hw hne, hg⟩
theorem IsS46.own_neN {w0 W : World} {g : Nat} {f0 : ByteArray} {f1 : ByteArray} {α : Type} {d : Kd α} {e : Nat} {base : Nat} {ok : Nat → Prop} {v : Value} {xs : List α} (h : IsS46 w0 W g f0 f1) (ho : Kd.N d e W base ok v xs) (ht : e ≠ 46) : some g ≠ v.ownBlock := by
  obtain ⟨hb, hg⟩ := h
  exact Kd.N_ne ho hb ht
theorem IsS46.fresh {w0 W : World} {g : Nat} {f0 : ByteArray} {f1 : ByteArray} (h : IsS46 w0 W g f0 f1) : ∀ k, W.heap.size ≤ k → k ≠ g := by
  obtain ⟨hb, hg⟩ := h
  exact Kd.freshB hb
theorem IsS46.kept {w0 W : World} {g : Nat} {f0 : ByteArray} {f1 : ByteArray} {W1 : World} {S : Nat → Prop} (h : IsS46 w0 W g f0 f1) (hk : Kept W W1 S) (hne : ¬ S g) : IsS46 w0 W1 g f0 f1 := by
  obtain ⟨hb, hg⟩ := h
  exact ⟨blk_kept hb hk hne, hg⟩
theorem IsS46.below {w0 W : World} {g : Nat} {f0 : ByteArray} {f1 : ByteArray} {W1 : World} (h : IsS46 w0 W g f0 f1) (hw : Below W.heap.size W W1) : IsS46 w0 W1 g f0 f1 := h.grown (grown_of_below hw none) (by simp)
theorem IsS46.alloc {w0 W : World} {g : Nat} {f0 : ByteArray} {f1 : ByteArray} (h : IsS46 w0 W g f0 f1) (o : Obj) : IsS46 w0 (W.alloc o) g f0 f1 := h.below (below_alloc (Below.refl _ _) o)
theorem IsS46.drewN {w0 W : World} {g : Nat} {f0 : ByteArray} {f1 : ByteArray} (h : IsS46 w0 W g f0 f1) (m : Nat) : IsS46 w0 (W.drewN m) g f0 f1 := h
theorem IsS46.drew {w0 W : World} {g : Nat} {f0 : ByteArray} {f1 : ByteArray} (h : IsS46 w0 W g f0 f1) : IsS46 w0 W.drew g f0 f1 := h
theorem IsS46.at_ {w0 W : World} {g : Nat} {f0 : ByteArray} {f1 : ByteArray} {w' : World} {m : Nat} (hq : W.drewN m = w') (h : IsS46 w0 W g f0 f1) : IsS46 w0 w' g f0 f1 := by subst hq; exact IsS46.drewN h m
theorem IsS46.apart {w0 W : World} {g : Nat} {f0 : ByteArray} {f1 : ByteArray} {α : Type} {d : Kd α} {e : Nat} {base : Nat} {ok : Nat → Prop} {v : Value} {xs : List α} (h : IsS46 w0 W g f0 f1) (ho : d.R e W base ok v xs) (ht : ∀ q, q ∈ e :: d.E → q ≠ 46) : d.R e W base (fun k => ok k ∧ k ≠ g) v xs := by
  obtain ⟨hb, hg⟩ := h
  exact Kd.R_types ho hb ht
theorem IsS46.own_ne {w0 W : World} {g : Nat} {f0 : ByteArray} {f1 : ByteArray} {α : Type} {d : Kd α} {e : Nat} {base : Nat} {ok : Nat → Prop} {v : Value} {xs : List α} (h : IsS46 w0 W g f0 f1) (ho : d.R e W base ok v xs) (ht : e ≠ 46) : some g ≠ v.ownBlock := by
  obtain ⟨hb, hg⟩ := h
  exact Kd.R_ne ho hb ht
theorem IsS46.apartQ {w0 W : World} {g : Nat} {f0 : ByteArray} {f1 : ByteArray} {α : Type} {d : Kd α} {e : Nat} {base : Nat} {ok : Nat → Prop} {v : Value} {xs : List α} (h : IsS46 w0 W g f0 f1) (ho : d.Q e W base ok v xs) (ht : ∀ q, q ∈ e :: d.E → q ≠ 46) : d.Q e W base (fun k => ok k ∧ k ≠ g) v xs := by
  obtain ⟨hb, hg⟩ := h
  exact Kd.Q_types ho hb ht
theorem IsS46.own_neQ {w0 W : World} {g : Nat} {f0 : ByteArray} {f1 : ByteArray} {α : Type} {d : Kd α} {e : Nat} {base : Nat} {ok : Nat → Prop} {v : Value} {xs : List α} (h : IsS46 w0 W g f0 f1) (ho : d.Q e W base ok v xs) (ht : e ≠ 46) : some g ≠ v.ownBlock := by
  obtain ⟨hb, hg⟩ := h
  exact Kd.Q_ne ho hb ht
theorem IsS46.apartS {w0 W : World} {g : Nat} {f0 : ByteArray} {f1 : ByteArray} {α : Type} {d : Kd α} {e : Nat} {base : Nat} {ok : Nat → Prop} {v : Value} {xs : List α} (h : IsS46 w0 W g f0 f1) (ho : d.S e W base ok v xs) (ht : ∀ q, q ∈ e :: d.E → q ≠ 46) : d.S e W base (fun k => ok k ∧ k ≠ g) v xs := by
  obtain ⟨hb, hg⟩ := h
  exact Kd.S_types ho hb ht
theorem IsS46.own_neS {w0 W : World} {g : Nat} {f0 : ByteArray} {f1 : ByteArray} {α : Type} {d : Kd α} {e : Nat} {base : Nat} {ok : Nat → Prop} {v : Value} {xs : List α} (h : IsS46 w0 W g f0 f1) (ho : d.S e W base ok v xs) (ht : e ≠ 46) : some g ≠ v.ownBlock := by
  obtain ⟨hb, hg⟩ := h
  exact Kd.S_ne ho hb ht
theorem IsS46.lt {w0 W : World} {g : Nat} {f0 : ByteArray} {f1 : ByteArray} (h : IsS46 w0 W g f0 f1) : g < W.heap.size := by
  obtain ⟨hb, hg⟩ := h
  exact blk_lt hb
theorem IsS46.ge {w0 W : World} {g : Nat} {f0 : ByteArray} {f1 : ByteArray} (h : IsS46 w0 W g f0 f1) : w0.heap.size ≤ g := by
  obtain ⟨hb, hg⟩ := h
  exact hg
theorem IsS46.ne_blk {w0 W : World} {g : Nat} {f0 : ByteArray} {f1 : ByteArray} {a : Nat} {cs : Array Value} {t : TypeId} {fr : Nat × Nat} (h : IsS46 w0 W g f0 f1) (hb2 : W.heap[a]? = some (.cells cs t fr)) (ht : t ≠ 46) : g ≠ a := by
  obtain ⟨hb, hg⟩ := h
  rintro rfl
  rw [hb] at hb2
  injection hb2 with hb2
  injection hb2 with _ ht2
  exact ht ht2.symm
theorem IsS46.far {w0 W : World} {g : Nat} {f0 : ByteArray} {f1 : ByteArray} {p : Addr} (h : IsS46 w0 W g f0 f1) (hne : g ≠ p.block) (u : Value) : IsS46 w0 (W.setCell p u) g f0 f1 := by
  obtain ⟨hb, hg⟩ := h
  exact ⟨blk_far hb hne u, hg⟩
theorem cellS46_0 {W : World} {g : Nat} {f0 : ByteArray} {f1 : ByteArray} (h : W.heap[g]? = some (.cells #[.string f0, .string f1] 46 (0, 0))) : W.cell? ⟨g, 0, none⟩ = some (.string f0) := (blk_cell h 0).trans rfl
theorem IsS46.set_0 {w0 W : World} {g : Nat} {f0 : ByteArray} {f1 : ByteArray} (h : IsS46 w0 W g f0 f1) (x : ByteArray) : IsS46 w0 (W.setCell ⟨g, 0, none⟩ (.string x)) g x f1 := by
  obtain ⟨hb, hg⟩ := h
  exact ⟨by simpa using blk_set hb 0 (.string x), hg⟩
theorem cellS46_1 {W : World} {g : Nat} {f0 : ByteArray} {f1 : ByteArray} (h : W.heap[g]? = some (.cells #[.string f0, .string f1] 46 (0, 0))) : W.cell? ⟨g, 1, none⟩ = some (.string f1) := (blk_cell h 1).trans rfl
theorem IsS46.set_1 {w0 W : World} {g : Nat} {f0 : ByteArray} {f1 : ByteArray} (h : IsS46 w0 W g f0 f1) (x : ByteArray) : IsS46 w0 (W.setCell ⟨g, 1, none⟩ (.string x)) g f0 x := by
  obtain ⟨hb, hg⟩ := h
  exact ⟨by simpa using blk_set hb 1 (.string x), hg⟩
theorem IsS46.new (w0 W : World) (f0 : ByteArray) (f1 : ByteArray) (hB : Below w0.heap.size w0 W) : IsS46 w0 (W.alloc (.cells #[.string f0, .string f1] 46)) W.heap.size f0 f1 := ⟨by simpa using heap_alloc_new W _, hB.size⟩

/-! ### token_walk_string_is: function 15 -/
def token_walk_string_is.f (s0_0 : ByteArray) (s0_1 : ByteArray) (a1 : ByteArray) : Option (Bool × ByteArray × ByteArray) := (strings_CutPrefix.f s0_1 a1).bind fun bt108 => (some (bt108.2, s0_0, bt108.1))
set_option maxHeartbeats 8000000 in
set_option maxRecDepth 100000 in
theorem token_walk_string_is.calls (g : Nat) (s0_0 : ByteArray) (s0_1 : ByteArray) (a1 : ByteArray) (r1 : Bool) (r2 : ByteArray) (r3 : ByteArray) (w0 w : World) (hG_ : Gd w0) (hI : IsS46 w0 w g s0_0 s0_1) (hB : Below w0.heap.size w0 w) (h : token_walk_string_is.f s0_0 s0_1 a1 = some (r1, r2, r3)) :
    Calls Tryd.prog 15 #[.pointer (some ⟨g, 0, none⟩), .string a1] w fun e w' => e = .returned (.bool r1) ∧ IsS46 w0 w' g r2 r3 ∧ Below w0.heap.size w0 w' ∧ KeepBut w w' g none := by
  have HI0 := Aside0.mk hI
  have HK := Aside0.mk (KeepBut.refl w g none)
  have HL := Aside0.mk hB.size
  clear hI
  have HW0 := Aside0.mk hB.size
  have HB := Aside0.mk hB
  clear hB
  have HG := Aside0.mk hG_
  clear hG_
  have H : ((strings_CutPrefix.f s0_1 a1).bind fun bt108 => (some (bt108.2, s0_0, bt108.1))) = some (r1, r2, r3) := h
  clear h
  replace H := Option.bind_eq_some_iff.mp H
  obtain ⟨⟨t108, t109⟩, A30, H⟩ := H
  replace H : (some (t109, s0_0, t108)) = some (r1, r2, r3) := H
  have A3 := Aside0.mk A30
  clear A30
  simp only [Option.some.injEq, Prod.mk.injEq] at H
  obtain ⟨rfl, rfl, rfl⟩ := H
  obtain ⟨HGz4, hgz4⟩ := HI0.out
  have hcz4_0 := cellS46_0 HGz4
  have hcz4_1 := cellS46_1 HGz4
  have hfz4_0 := blk_frozen HGz4 0
  have hfz4_1 := blk_frozen HGz4 1
  clear HGz4 hgz4
  go_enter Tryd.func15, Tryd.ntmps15
  go_wp2_with (first | ((with_reducible refine gate_callee (f := 23) rfl ?_); refine goesL_ (some 13) rfl rfl Tryd.func23 (by kernel_rfl) rfl #[.string s0_1, .string a1] rfl (by (try simp only [List.map_toArray, List.map_cons, List.map_nil]); first | done | rfl | (simp only [List.length_drop, List.length_take]; rfl)) ?_; (with_reducible refine (strings_CutPrefix.calls s0_1 a1 t108 t109 _ ?side1 A3.out).mono ?_); (case side1 => first | exact HG.out | exact Gd.drewN HG.out _ | exact Gd.drew HG.out | exact Gd.below HG.out (by repeat (first | (with_reducible first | exact HB.out | apply below_alloc | apply pw_below_drewN | apply below_drew1 | refine below_set ?_ (IsS46.ge HI0.out)) | exact HB.out))); rintro e w' ⟨rfl, ⟨nd, rfl⟩⟩; refine ⟨_, rfl, ?_⟩))
  go_ret
  exact ⟨by first | rfl | (simp [errW_none, errW_some] <;> rfl) | (simp [*, errW_none, errW_some] <;> rfl), by repeat (first | (with_reducible first | exact HI0.out | apply IsS46.alloc | apply IsS46.drewN | apply IsS46.drew | apply IsS46.set_0 | apply IsS46.set_1) | exact HI0.out), by repeat (first | (with_reducible first | exact HB.out | apply below_alloc | apply pw_below_drewN | apply below_drew1 | refine below_set ?_ (IsS46.ge HI0.out)) | exact HB.out), by repeat (first | (with_reducible first | exact HK.out | apply KeepBut.set_ | apply keep_drewN | apply keep_drew | apply keep_alloc) | exact HK.out)⟩

end Go.Proofs.YtfelfpjfjjgmoaaDoor.P
end
/- Lean functions for functions of the program, and that the Go code comes to their answers, where the library's variables are as Gd says. Written by a turned copy of the kit's print; Lean checks it. -/
section
namespace Go.Proofs.YtfelfpjfjjgmoaaDoor.P
open Go.RowKit Go.Proofs.YtfelfpjfjjgmoaaDoorW.PrintWords Go.Proofs.YtfelfpjfjjgmoaaDoorW.PrintLast Go.Proofs.YtfelfpjfjjgmoaaDoorW.PrintMore
attribute [local go_sem] max2_int min2_int max_two min_two max_three min_three max_four min_four   -- for this text's walks alone
set_option linter.unusedVariables false
set_option linter.unusedSimpArgs false

/-! ### token_run_string: function 35 -/
def token_run_string.f (s0_0 : ByteArray) (s0_1 : ByteArray) (a1 : ByteArray) : Option (ByteArray × ByteArray × ByteArray) := (G_TrimLeft.f s0_1 a1).bind fun t110 => (if 0 ≤ (wrap64 ((s0_1.size : Int) - (t110.size : Int))) then (if (wrap64 ((s0_1.size : Int) - (t110.size : Int))) ≤ (s0_1.size : Int) then (some (s0_1.extract 0 ((wrap64 ((s0_1.size : Int) - (t110.size : Int))) : Int).toNat, s0_0, t110)) else (none)) else (none))
set_option maxHeartbeats 8000000 in
set_option maxRecDepth 100000 in
theorem token_run_string.calls (g : Nat) (s0_0 : ByteArray) (s0_1 : ByteArray) (a1 : ByteArray) (r1 : ByteArray) (r2 : ByteArray) (r3 : ByteArray) (w0 w : World) (hG_ : Gd w0) (hI : IsS46 w0 w g s0_0 s0_1) (hB : Below w0.heap.size w0 w) (h : token_run_string.f s0_0 s0_1 a1 = some (r1, r2, r3)) :
    Calls Tryd.prog 35 #[.pointer (some ⟨g, 0, none⟩), .string a1] w fun e w' => e = .returned (.string r1) ∧ IsS46 w0 w' g r2 r3 ∧ Below w0.heap.size w0 w' ∧ KeepBut w w' g none := by
  have HI0 := Aside0.mk hI
  have HK := Aside0.mk (KeepBut.refl w g none)
  have HL := Aside0.mk hB.size
  clear hI
  have HW0 := Aside0.mk hB.size
  have HB := Aside0.mk hB
  clear hB
  have HG := Aside0.mk hG_
  clear hG_
  have H : ((G_TrimLeft.f s0_1 a1).bind fun t110 => (if 0 ≤ (wrap64 ((s0_1.size : Int) - (t110.size : Int))) then (if (wrap64 ((s0_1.size : Int) - (t110.size : Int))) ≤ (s0_1.size : Int) then (some (s0_1.extract 0 ((wrap64 ((s0_1.size : Int) - (t110.size : Int))) : Int).toNat, s0_0, t110)) else (none)) else (none))) = some (r1, r2, r3) := h
  clear h
  replace H := Option.bind_eq_some_iff.mp H
  obtain ⟨t110, A30, H⟩ := H
  replace H : (if 0 ≤ (wrap64 ((s0_1.size : Int) - (t110.size : Int))) then (if (wrap64 ((s0_1.size : Int) - (t110.size : Int))) ≤ (s0_1.size : Int) then (some (s0_1.extract 0 ((wrap64 ((s0_1.size : Int) - (t110.size : Int))) : Int).toNat, s0_0, t110)) else (none)) else (none)) = some (r1, r2, r3) := H
  have A3 := Aside0.mk A30
  clear A30
  obtain ⟨ji4, hji4⟩ : ∃ j_ : Int, (wrap64 ((s0_1.size : Int) - (t110.size : Int))) = j_ := ⟨_, rfl⟩
  replace H : (if 0 ≤ (ji4) then (if (ji4) ≤ (s0_1.size : Int) then (some (s0_1.extract 0 ((ji4) : Int).toNat, s0_0, t110)) else (none)) else (none)) = some (r1, r2, r3) := by first | (rw [hji4] at H; exact H) | (simp only [hji4] at H ⊢; exact H)
  (try rw [hji4] at A3)
  have hji4w : (IntKind.i64.wrap ((s0_1.size : Int) - (t110.size : Int))) = ji4 := (i64_w _).trans hji4
  by_cases c5 : 0 ≤ (ji4)
  · rw [if_pos c5] at H
    have c5b0 := eq_true c5
    have c5b1 : decide (0 ≤ (ji4)) = true := decide_eq_true c5
    clear c5
    by_cases c6 : (ji4) ≤ (s0_1.size : Int)
    · rw [if_pos c6] at H
      have c6b0 := eq_true c6
      have c6b1 : decide ((ji4) ≤ (s0_1.size : Int)) = true := decide_eq_true c6
      clear c6
      simp only [Option.some.injEq, Prod.mk.injEq] at H
      obtain ⟨rfl, rfl, rfl⟩ := H
      obtain ⟨HGz7, hgz7⟩ := HI0.out
      have hcz7_0 := cellS46_0 HGz7
      have hcz7_1 := cellS46_1 HGz7
      have hfz7_0 := blk_frozen HGz7 0
      have hfz7_1 := blk_frozen HGz7 1
      clear HGz7 hgz7
      go_enter Tryd.func35, Tryd.ntmps35
      go_wp2_with (first | (go_at_call 50; (with_reducible refine (G_TrimLeft.calls s0_1 a1 t110 _ ?side1 A3.out).mono ?_); (case side1 => first | exact HG.out | exact Gd.drewN HG.out _ | exact Gd.drew HG.out | exact Gd.below HG.out (by repeat (first | (with_reducible first | exact HB.out | apply below_alloc | apply pw_below_drewN | apply below_drew1 | refine below_set ?_ (IsS46.ge HI0.out)) | exact HB.out))); rintro e w8 ⟨rfl, hb⟩; have n0_ := Aside0.mk (IsS46.below (by repeat (first | (with_reducible first | exact HI0.out | apply IsS46.alloc | apply IsS46.drewN | apply IsS46.drew | apply IsS46.set_0 | apply IsS46.set_1) | exact HI0.out)) hb); have n1_ := Aside0.mk (KeepBut.trans (by repeat (first | (with_reducible first | exact HK.out | apply KeepBut.set_ | apply keep_drewN | apply keep_drew | apply keep_alloc) | exact HK.out)) (KeepBut.of_below hb g none) (.inl rfl)); have n2_ := Aside0.mk (below_step (by repeat (first | (with_reducible first | exact HB.out | apply below_alloc | apply pw_below_drewN | apply below_drew1 | refine below_set ?_ (IsS46.ge HI0.out)) | exact HB.out)) hb); clear HI0; clear HK; clear HB; have HI0 := n0_; have HK := n1_; have HB := n2_; clear n0_ n1_ n2_; (try clear hb); (try clear hb2); (try clear hk); (try clear hi); obtain ⟨HGz9, hgz9⟩ := HI0.out; have hcz9_0 := cellS46_0 HGz9; have hcz9_1 := cellS46_1 HGz9; have hfz9_0 := blk_frozen HGz9 0; have hfz9_1 := blk_frozen HGz9 1; clear HGz9 hgz9))
      repeat (go_quiet (first | (go_at_call 50; (with_reducible refine (G_TrimLeft.calls s0_1 a1 t110 _ ?side1 A3.out).mono ?_); (case side1 => first | exact HG.out | exact Gd.drewN HG.out _ | exact Gd.drew HG.out | exact Gd.below HG.out (by repeat (first | (with_reducible first | exact HB.out | apply below_alloc | apply pw_below_drewN | apply below_drew1 | refine below_set ?_ (IsS46.ge HI0.out)) | exact HB.out))); rintro e w8 ⟨rfl, hb⟩; have n0_ := Aside0.mk (IsS46.below (by repeat (first | (with_reducible first | exact HI0.out | apply IsS46.alloc | apply IsS46.drewN | apply IsS46.drew | apply IsS46.set_0 | apply IsS46.set_1) | exact HI0.out)) hb); have n1_ := Aside0.mk (KeepBut.trans (by repeat (first | (with_reducible first | exact HK.out | apply KeepBut.set_ | apply keep_drewN | apply keep_drew | apply keep_alloc) | exact HK.out)) (KeepBut.of_below hb g none) (.inl rfl)); have n2_ := Aside0.mk (below_step (by repeat (first | (with_reducible first | exact HB.out | apply below_alloc | apply pw_below_drewN | apply below_drew1 | refine below_set ?_ (IsS46.ge HI0.out)) | exact HB.out)) hb); clear HI0; clear HK; clear HB; have HI0 := n0_; have HK := n1_; have HB := n2_; clear n0_ n1_ n2_; (try clear hb); (try clear hb2); (try clear hk); (try clear hi); obtain ⟨HGz9, hgz9⟩ := HI0.out; have hcz9_0 := cellS46_0 HGz9; have hcz9_1 := cellS46_1 HGz9; have hfz9_0 := blk_frozen HGz9 0; have hfz9_1 := blk_frozen HGz9 1; clear HGz9 hgz9)); try go_wp2_with (first | (go_at_call 50; (with_reducible refine (G_TrimLeft.calls s0_1 a1 t110 _ ?side1 A3.out).mono ?_); (case side1 => first | exact HG.out | exact Gd.drewN HG.out _ | exact Gd.drew HG.out | exact Gd.below HG.out (by repeat (first | (with_reducible first | exact HB.out | apply below_alloc | apply pw_below_drewN | apply below_drew1 | refine below_set ?_ (IsS46.ge HI0.out)) | exact HB.out))); rintro e w8 ⟨rfl, hb⟩; have n0_ := Aside0.mk (IsS46.below (by repeat (first | (with_reducible first | exact HI0.out | apply IsS46.alloc | apply IsS46.drewN | apply IsS46.drew | apply IsS46.set_0 | apply IsS46.set_1) | exact HI0.out)) hb); have n1_ := Aside0.mk (KeepBut.trans (by repeat (first | (with_reducible first | exact HK.out | apply KeepBut.set_ | apply keep_drewN | apply keep_drew | apply keep_alloc) | exact HK.out)) (KeepBut.of_below hb g none) (.inl rfl)); have n2_ := Aside0.mk (below_step (by repeat (first | (with_reducible first | exact HB.out | apply below_alloc | apply pw_below_drewN | apply below_drew1 | refine below_set ?_ (IsS46.ge HI0.out)) | exact HB.out)) hb); clear HI0; clear HK; clear HB; have HI0 := n0_; have HK := n1_; have HB := n2_; clear n0_ n1_ n2_; (try clear hb); (try clear hb2); (try clear hk); (try clear hi); obtain ⟨HGz9, hgz9⟩ := HI0.out; have hcz9_0 := cellS46_0 HGz9; have hcz9_1 := cellS46_1 HGz9; have hfz9_0 := blk_frozen HGz9 0; have hfz9_1 := blk_frozen HGz9 1; clear HGz9 hgz9)))
      go_ret
      exact ⟨by first | rfl | (simp [errW_none, errW_some] <;> rfl) | (simp only [← hji4]; first | rfl | (simp [errW_none, errW_some] <;> rfl)) | (simp [*, errW_none, errW_some] <;> rfl), by repeat (first | (with_reducible first | exact HI0.out | apply IsS46.alloc | apply IsS46.drewN | apply IsS46.drew | apply IsS46.set_0 | apply IsS46.set_1) | exact HI0.out), by repeat (first | (with_reducible first | exact HB.out | apply below_alloc | apply pw_below_drewN | apply below_drew1 | refine below_set ?_ (IsS46.ge HI0.out)) | exact HB.out), by repeat (first | (with_reducible first | exact HK.out | apply KeepBut.set_ | apply keep_drewN | apply keep_drew | apply keep_alloc) | exact HK.out)⟩
    · rw [if_neg c6] at H
      exact absurd H (by simp)
  · rw [if_neg c5] at H
    exact absurd H (by simp)

end Go.Proofs.YtfelfpjfjjgmoaaDoor.P
end
/- Lean functions for functions of the program, and that the Go code comes to their answers, where the library's variables are as Gd says. Written by a turned copy of the kit's print; Lean checks it. -/
section
namespace Go.Proofs.YtfelfpjfjjgmoaaDoor.P
open Go.RowKit Go.Proofs.YtfelfpjfjjgmoaaDoorW.PrintWords Go.Proofs.YtfelfpjfjjgmoaaDoorW.PrintLast Go.Proofs.YtfelfpjfjjgmoaaDoorW.PrintMore
attribute [local go_sem] max2_int min2_int max_two min_two max_three min_three max_four min_four   -- for this text's walks alone
set_option linter.unusedVariables false
set_option linter.unusedSimpArgs false

/-! ### token_name: function 34 -/
def token_name.f (s0_0 : ByteArray) (s0_1 : ByteArray) : Option (ByteArray × ByteArray × ByteArray) := if s0_1.toList = ([] : List UInt8) then (some ((⟨#[]⟩ : ByteArray), s0_0, s0_1)) else (if 0 ≤ 1 then (if 1 ≤ (s0_1.size : Int) then ((G_Contains.f (⟨#[65, 66, 67, 68, 69, 70, 71, 72, 73, 74, 75, 76, 77, 78, 79, 80, 81, 82, 83, 84, 85, 86, 87, 88, 89, 90, 97, 98, 99, 100, 101, 102, 103, 104, 105, 106, 107, 108, 109, 110, 111, 112, 113, 114, 115, 116, 117, 118, 119, 120, 121, 122, 95]⟩ : ByteArray) (s0_1.extract 0 1)).bind fun t113 => (if t113 = true then ((token_run_string.f s0_0 s0_1 (⟨#[65, 66, 67, 68, 69, 70, 71, 72, 73, 74, 75, 76, 77, 78, 79, 80, 81, 82, 83, 84, 85, 86, 87, 88, 89, 90, 97, 98, 99, 100, 101, 102, 103, 104, 105, 106, 107, 108, 109, 110, 111, 112, 113, 114, 115, 116, 117, 118, 119, 120, 121, 122, 95, 48, 49, 50, 51, 52, 53, 54, 55, 56, 57, 45, 46]⟩ : ByteArray)).bind fun bt114 => (some (bt114.1, bt114.2.1, bt114.2.2))) else (some ((⟨#[]⟩ : ByteArray), s0_0, s0_1)))) else (none)) else (none))
set_option maxHeartbeats 8000000 in
set_option maxRecDepth 100000 in
theorem token_name.calls (g : Nat) (s0_0 : ByteArray) (s0_1 : ByteArray) (r1 : ByteArray) (r2 : ByteArray) (r3 : ByteArray) (w0 w : World) (hG_ : Gd w0) (hI : IsS46 w0 w g s0_0 s0_1) (hB : Below w0.heap.size w0 w) (h : token_name.f s0_0 s0_1 = some (r1, r2, r3)) :
    Calls Tryd.prog 34 #[.pointer (some ⟨g, 0, none⟩)] w fun e w' => e = .returned (.string r1) ∧ IsS46 w0 w' g r2 r3 ∧ Below w0.heap.size w0 w' ∧ KeepBut w w' g none := by
  have HI0 := Aside0.mk hI
  have HK := Aside0.mk (KeepBut.refl w g none)
  have HL := Aside0.mk hB.size
  clear hI
  have HW0 := Aside0.mk hB.size
  have HB := Aside0.mk hB
  clear hB
  have HG := Aside0.mk hG_
  clear hG_
  have H : (if s0_1.toList = ([] : List UInt8) then (some ((⟨#[]⟩ : ByteArray), s0_0, s0_1)) else (if 0 ≤ 1 then (if 1 ≤ (s0_1.size : Int) then ((G_Contains.f (⟨#[65, 66, 67, 68, 69, 70, 71, 72, 73, 74, 75, 76, 77, 78, 79, 80, 81, 82, 83, 84, 85, 86, 87, 88, 89, 90, 97, 98, 99, 100, 101, 102, 103, 104, 105, 106, 107, 108, 109, 110, 111, 112, 113, 114, 115, 116, 117, 118, 119, 120, 121, 122, 95]⟩ : ByteArray) (s0_1.extract 0 1)).bind fun t113 => (if t113 = true then ((token_run_string.f s0_0 s0_1 (⟨#[65, 66, 67, 68, 69, 70, 71, 72, 73, 74, 75, 76, 77, 78, 79, 80, 81, 82, 83, 84, 85, 86, 87, 88, 89, 90, 97, 98, 99, 100, 101, 102, 103, 104, 105, 106, 107, 108, 109, 110, 111, 112, 113, 114, 115, 116, 117, 118, 119, 120, 121, 122, 95, 48, 49, 50, 51, 52, 53, 54, 55, 56, 57, 45, 46]⟩ : ByteArray)).bind fun bt114 => (some (bt114.1, bt114.2.1, bt114.2.2))) else (some ((⟨#[]⟩ : ByteArray), s0_0, s0_1)))) else (none)) else (none))) = some (r1, r2, r3) := h
  clear h
  by_cases c2 : s0_1.toList = ([] : List UInt8)
  · rw [if_pos c2] at H
    have c2b0 : (s0_1.toList == ([] : List UInt8)) = true := beq_iff_eq.mpr c2
    have c2b1 : (s0_1.toList != ([] : List UInt8)) = false := bne_eq_false_iff_eq.mpr c2
    clear c2
    simp only [Option.some.injEq, Prod.mk.injEq] at H
    obtain ⟨rfl, rfl, rfl⟩ := H
    obtain ⟨HGz3, hgz3⟩ := HI0.out
    have hcz3_0 := cellS46_0 HGz3
    have hcz3_1 := cellS46_1 HGz3
    have hfz3_0 := blk_frozen HGz3 0
    have hfz3_1 := blk_frozen HGz3 1
    clear HGz3 hgz3
    go_enter Tryd.func34, Tryd.ntmps34
    go_wp2
    go_ret
    exact ⟨by first | rfl | (simp [errW_none, errW_some] <;> rfl) | (simp [*, errW_none, errW_some] <;> rfl), by repeat (first | (with_reducible first | exact HI0.out | apply IsS46.alloc | apply IsS46.drewN | apply IsS46.drew | apply IsS46.set_0 | apply IsS46.set_1) | exact HI0.out), by repeat (first | (with_reducible first | exact HB.out | apply below_alloc | apply pw_below_drewN | apply below_drew1 | refine below_set ?_ (IsS46.ge HI0.out)) | exact HB.out), by repeat (first | (with_reducible first | exact HK.out | apply KeepBut.set_ | apply keep_drewN | apply keep_drew | apply keep_alloc) | exact HK.out)⟩
  · rw [if_neg c2] at H
    have c2b0 : (s0_1.toList == ([] : List UInt8)) = false := beq_eq_false_iff_ne.mpr c2
    have c2b1 : (s0_1.toList != ([] : List UInt8)) = true := bne_iff_ne.mpr c2
    by_cases c4 : 0 ≤ 1
    · rw [if_pos c4] at H
      have c4b0 := eq_true c4
      have c4b1 : decide (0 ≤ 1) = true := decide_eq_true c4
      clear c4
      by_cases c5 : 1 ≤ (s0_1.size : Int)
      · rw [if_pos c5] at H
        have c5b0 := eq_true c5
        have c5b1 : decide (1 ≤ (s0_1.size : Int)) = true := decide_eq_true c5
        clear c5
        replace H := Option.bind_eq_some_iff.mp H
        obtain ⟨t113, A60, H⟩ := H
        replace H : (if t113 = true then ((token_run_string.f s0_0 s0_1 (⟨#[65, 66, 67, 68, 69, 70, 71, 72, 73, 74, 75, 76, 77, 78, 79, 80, 81, 82, 83, 84, 85, 86, 87, 88, 89, 90, 97, 98, 99, 100, 101, 102, 103, 104, 105, 106, 107, 108, 109, 110, 111, 112, 113, 114, 115, 116, 117, 118, 119, 120, 121, 122, 95, 48, 49, 50, 51, 52, 53, 54, 55, 56, 57, 45, 46]⟩ : ByteArray)).bind fun bt114 => (some (bt114.1, bt114.2.1, bt114.2.2))) else (some ((⟨#[]⟩ : ByteArray), s0_0, s0_1))) = some (r1, r2, r3) := H
        have A6 := Aside0.mk A60
        clear A60
        by_cases c7 : t113 = true
        · subst c7
          have H1 : ((token_run_string.f s0_0 s0_1 (⟨#[65, 66, 67, 68, 69, 70, 71, 72, 73, 74, 75, 76, 77, 78, 79, 80, 81, 82, 83, 84, 85, 86, 87, 88, 89, 90, 97, 98, 99, 100, 101, 102, 103, 104, 105, 106, 107, 108, 109, 110, 111, 112, 113, 114, 115, 116, 117, 118, 119, 120, 121, 122, 95, 48, 49, 50, 51, 52, 53, 54, 55, 56, 57, 45, 46]⟩ : ByteArray)).bind fun bt114 => (some (bt114.1, bt114.2.1, bt114.2.2))) = some (r1, r2, r3) := by rw [if_pos rfl] at H; exact H
          clear H
          have H := H1
          clear H1
          replace H := Option.bind_eq_some_iff.mp H
          obtain ⟨⟨t114, t115, t116⟩, A80, H⟩ := H
          replace H : (some (t114, t115, t116)) = some (r1, r2, r3) := H
          have A8 := Aside0.mk A80
          clear A80
          simp only [Option.some.injEq, Prod.mk.injEq] at H
          obtain ⟨rfl, rfl, rfl⟩ := H
          obtain ⟨HGz9, hgz9⟩ := HI0.out
          have hcz9_0 := cellS46_0 HGz9
          have hcz9_1 := cellS46_1 HGz9
          have hfz9_0 := blk_frozen HGz9 0
          have hfz9_1 := blk_frozen HGz9 1
          clear HGz9 hgz9
          go_enter Tryd.func34, Tryd.ntmps34
          go_wp2_with (first | (go_at_call 40; (with_reducible refine (G_Contains.calls (⟨#[65, 66, 67, 68, 69, 70, 71, 72, 73, 74, 75, 76, 77, 78, 79, 80, 81, 82, 83, 84, 85, 86, 87, 88, 89, 90, 97, 98, 99, 100, 101, 102, 103, 104, 105, 106, 107, 108, 109, 110, 111, 112, 113, 114, 115, 116, 117, 118, 119, 120, 121, 122, 95]⟩ : ByteArray) (s0_1.extract 0 1) true _ ?side1 A6.out).mono ?_); (case side1 => first | exact HG.out | exact Gd.drewN HG.out _ | exact Gd.drew HG.out | exact Gd.below HG.out (by repeat (first | (with_reducible first | exact HB.out | apply below_alloc | apply pw_below_drewN | apply below_drew1 | refine below_set ?_ (IsS46.ge HI0.out)) | exact HB.out))); rintro e w' ⟨rfl, ⟨nd, rfl⟩⟩) | ((with_reducible refine gate_callee (f := 35) rfl ?_); refine goesL_ (some 18) rfl rfl Tryd.func35 (by kernel_rfl) rfl #[.pointer (some ⟨g, 0, none⟩), .string (⟨#[65, 66, 67, 68, 69, 70, 71, 72, 73, 74, 75, 76, 77, 78, 79, 80, 81, 82, 83, 84, 85, 86, 87, 88, 89, 90, 97, 98, 99, 100, 101, 102, 103, 104, 105, 106, 107, 108, 109, 110, 111, 112, 113, 114, 115, 116, 117, 118, 119, 120, 121, 122, 95, 48, 49, 50, 51, 52, 53, 54, 55, 56, 57, 45, 46]⟩ : ByteArray)] rfl (by (try simp only [List.map_toArray, List.map_cons, List.map_nil]); first | done | rfl | (simp only [List.length_drop, List.length_take]; rfl)) ?_; (with_reducible refine (token_run_string.calls g s0_0 s0_1 (⟨#[65, 66, 67, 68, 69, 70, 71, 72, 73, 74, 75, 76, 77, 78, 79, 80, 81, 82, 83, 84, 85, 86, 87, 88, 89, 90, 97, 98, 99, 100, 101, 102, 103, 104, 105, 106, 107, 108, 109, 110, 111, 112, 113, 114, 115, 116, 117, 118, 119, 120, 121, 122, 95, 48, 49, 50, 51, 52, 53, 54, 55, 56, 57, 45, 46]⟩ : ByteArray) t114 t115 t116 w0 _ HG.out ?side1 ?side2 A8.out).mono ?_); (case side1 => repeat (first | (with_reducible first | exact HI0.out | apply IsS46.alloc | apply IsS46.drewN | apply IsS46.drew | apply IsS46.set_0 | apply IsS46.set_1) | exact HI0.out)); (case side2 => repeat (first | (with_reducible first | exact HB.out | apply below_alloc | apply pw_below_drewN | apply below_drew1 | refine below_set ?_ (IsS46.ge HI0.out)) | exact HB.out)); rintro e w10 ⟨rfl, hi, hb, hk⟩; refine ⟨_, rfl, ?_⟩; have n0_ := Aside0.mk (KeepBut.trans (by repeat (first | (with_reducible first | exact HK.out | apply KeepBut.set_ | apply keep_drewN | apply keep_drew | apply keep_alloc) | exact HK.out)) hk (.inl rfl)); have n1_ := Aside0.mk (hb); have n2_ := Aside0.mk (hi); clear HK; clear HB; clear HI0; have HK := n0_; have HB := n1_; have HI0 := n2_; clear n0_ n1_ n2_; (try clear hb); (try clear hb2); (try clear hk); (try clear hi)))
          go_ret
          exact ⟨by first | rfl | (simp [errW_none, errW_some] <;> rfl) | (simp [*, errW_none, errW_some] <;> rfl), by repeat (first | (with_reducible first | exact HI0.out | apply IsS46.alloc | apply IsS46.drewN | apply IsS46.drew | apply IsS46.set_0 | apply IsS46.set_1) | exact HI0.out), by repeat (first | (with_reducible first | exact HB.out | apply below_alloc | apply pw_below_drewN | apply below_drew1 | refine below_set ?_ (IsS46.ge HI0.out)) | exact HB.out), by repeat (first | (with_reducible first | exact HK.out | apply KeepBut.set_ | apply keep_drewN | apply keep_drew | apply keep_alloc) | exact HK.out)⟩
        · replace c7 := Bool.eq_false_iff.mpr c7
          subst c7
          have H1 : (some ((⟨#[]⟩ : ByteArray), s0_0, s0_1)) = some (r1, r2, r3) := by rw [if_neg (show ¬ (false = true) by decide)] at H; exact H
          clear H
          have H := H1
          clear H1
          simp only [Option.some.injEq, Prod.mk.injEq] at H
          obtain ⟨rfl, rfl, rfl⟩ := H
          obtain ⟨HGz11, hgz11⟩ := HI0.out
          have hcz11_0 := cellS46_0 HGz11
          have hcz11_1 := cellS46_1 HGz11
          have hfz11_0 := blk_frozen HGz11 0
          have hfz11_1 := blk_frozen HGz11 1
          clear HGz11 hgz11
          go_enter Tryd.func34, Tryd.ntmps34
          go_wp2_with (first | (go_at_call 40; (with_reducible refine (G_Contains.calls (⟨#[65, 66, 67, 68, 69, 70, 71, 72, 73, 74, 75, 76, 77, 78, 79, 80, 81, 82, 83, 84, 85, 86, 87, 88, 89, 90, 97, 98, 99, 100, 101, 102, 103, 104, 105, 106, 107, 108, 109, 110, 111, 112, 113, 114, 115, 116, 117, 118, 119, 120, 121, 122, 95]⟩ : ByteArray) (s0_1.extract 0 1) false _ ?side1 A6.out).mono ?_); (case side1 => first | exact HG.out | exact Gd.drewN HG.out _ | exact Gd.drew HG.out | exact Gd.below HG.out (by repeat (first | (with_reducible first | exact HB.out | apply below_alloc | apply pw_below_drewN | apply below_drew1 | refine below_set ?_ (IsS46.ge HI0.out)) | exact HB.out))); rintro e w' ⟨rfl, ⟨nd, rfl⟩⟩))
          go_ret
          exact ⟨by first | rfl | (simp [errW_none, errW_some] <;> rfl) | (simp [*, errW_none, errW_some] <;> rfl), by repeat (first | (with_reducible first | exact HI0.out | apply IsS46.alloc | apply IsS46.drewN | apply IsS46.drew | apply IsS46.set_0 | apply IsS46.set_1) | exact HI0.out), by repeat (first | (with_reducible first | exact HB.out | apply below_alloc | apply pw_below_drewN | apply below_drew1 | refine below_set ?_ (IsS46.ge HI0.out)) | exact HB.out), by repeat (first | (with_reducible first | exact HK.out | apply KeepBut.set_ | apply keep_drewN | apply keep_drew | apply keep_alloc) | exact HK.out)⟩
      · rw [if_neg c5] at H
        exact absurd H (by simp)
    · rw [if_neg c4] at H
      exact absurd H (by simp)

end Go.Proofs.YtfelfpjfjjgmoaaDoor.P
end
