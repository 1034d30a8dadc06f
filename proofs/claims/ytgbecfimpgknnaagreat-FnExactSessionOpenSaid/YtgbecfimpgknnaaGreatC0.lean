/-
  WHAT THE FUNCTIONS THAT THE LAWS REACH COMPUTE: each function's contract, proved off its printed body (the text is written by program). No condition beyond those that each theorem states.
-/
import Derived.Test.YtgbecfimpgknnaaGreatRows
import Derived.Test.YtgbecfimpgknnaaGreatL0
import Derived.KernelRfl
namespace Go.Proofs.YtgbecfimpgknnaaGreat
open Go Go.BL
set_option linter.unusedVariables false
set_option linter.unusedSimpArgs false
noncomputable abbrev pj (J : JoinT) : PJ := ⟨Tryz.prog, J⟩
noncomputable abbrev wgL : Go.Conc.Lib.WgLink := { add := 112, done := 114, wait := 117, relMerge := 157, disable := 158, enable := 159, inBubble := 160, associate := 161, fatal := 162, uOr := 163, uAdd := 164, raceRead := 165, uLoad := 166, uStore := 167, disassociate := 168, semrelease := 169, acquire := 171, isAssociated := 172, uCas := 173, raceWrite := 174, semacquire := 175, orU64 := 204, addU64 := 205, loadU64 := 206, storeU64 := 207, casU64 := 209, tWg := 150, tUP := 193, tAssoc := 194, tAU := 147, tU64 := 145, tUint := 198, tU32 := 148, tNoCopy := 142, tANoCopy := 143, tAlign64 := 144, tWgP := 191, tPU32 := 199, tPAU := 248, tPU64 := 250 }
theorem wgLib : Go.Conc.Lib.WgLib Tryz.prog wgL :=
  ⟨Tryz.func112, Tryz.func114, Tryz.func117, Tryz.func157, Tryz.func158, Tryz.func159, Tryz.func160, Tryz.func161, Tryz.func162, Tryz.func163, Tryz.func164, Tryz.func165, Tryz.func166, Tryz.func167, Tryz.func168, Tryz.func169, Tryz.func171, Tryz.func172, Tryz.func173, Tryz.func174, Tryz.func175, Tryz.func204, Tryz.func205, Tryz.func206, Tryz.func207, Tryz.func209, Tryz.underlying191, Tryz.runUnderlying191, Tryz.sizeOf191, Tryz.isAgg191, Tryz.zeroValue191, Tryz.underlying193, Tryz.runUnderlying193, Tryz.sizeOf193, Tryz.isAgg193, Tryz.zeroValue193, Tryz.underlying194, Tryz.runUnderlying194, Tryz.sizeOf194, Tryz.isAgg194, Tryz.zeroValue194, Tryz.underlying150, Tryz.runUnderlying150, Tryz.sizeOf150, Tryz.isAgg150, Tryz.zeroValue150, Tryz.underlying147, Tryz.runUnderlying147, Tryz.sizeOf147, Tryz.isAgg147, Tryz.zeroValue147, Tryz.underlying145, Tryz.runUnderlying145, Tryz.sizeOf145, Tryz.isAgg145, Tryz.zeroValue145, Tryz.underlying198, Tryz.runUnderlying198, Tryz.sizeOf198, Tryz.isAgg198, Tryz.zeroValue198, Tryz.underlying148, Tryz.runUnderlying148, Tryz.sizeOf148, Tryz.isAgg148, Tryz.zeroValue148, Tryz.underlying199, Tryz.runUnderlying199, Tryz.sizeOf199, Tryz.isAgg199, Tryz.zeroValue199, Tryz.underlying248, Tryz.runUnderlying248, Tryz.sizeOf248, Tryz.isAgg248, Tryz.zeroValue248, Tryz.underlying250, Tryz.runUnderlying250, Tryz.sizeOf250, Tryz.isAgg250, Tryz.zeroValue250, Tryz.underlying0, Tryz.runUnderlying0, Tryz.sizeOf0, Tryz.isAgg0, Tryz.zeroValue0, Tryz.underlying3, Tryz.runUnderlying3, Tryz.sizeOf3, Tryz.isAgg3, Tryz.zeroValue3, Tryz.underlying4, Tryz.runUnderlying4, Tryz.sizeOf4, Tryz.isAgg4, Tryz.zeroValue4, Tryz.underlying9, Tryz.runUnderlying9, Tryz.sizeOf9, Tryz.isAgg9, Tryz.zeroValue9, Tryz.underlying20, Tryz.runUnderlying20, Tryz.sizeOf20, Tryz.isAgg20, Tryz.zeroValue20, Tryz.underlying21, Tryz.runUnderlying21, Tryz.sizeOf21, Tryz.isAgg21, Tryz.zeroValue21, (by kernel_rfl), (by kernel_rfl)⟩
theorem en125 : enters Tryz.prog 125 = true := by kernel_rfl
theorem mo : Tryz.prog.follows .mixedOrders = true := by kernel_rfl
theorem fo128x1 : fieldOff Tryz.prog 128 1 = some 1 := by kernel_rfl
theorem lk3 : lk Tryz.prog 3 = some none := by kernel_rfl
theorem fo128x0 : fieldOff Tryz.prog 128 0 = some 0 := by kernel_rfl
theorem lk9 : lk Tryz.prog 9 = some none := by kernel_rfl
theorem en103 : enters Tryz.prog 103 = true := by kernel_rfl
theorem sz3 : sizeIs Tryz.prog 3 = some 1 := by kernel_rfl
theorem en199 : enters Tryz.prog 199 = true := by kernel_rfl
theorem en151 : enters Tryz.prog 151 = true := by kernel_rfl
theorem en152 : enters Tryz.prog 152 = true := by kernel_rfl
theorem pl128 : placesOf Tryz.prog 128 = some [(0, 1), (1, 1)] := by kernel_rfl
theorem zo128 : zeroOf Tryz.prog 128 = some (.agg #[.string ⟨#[]⟩, .int .i64 0]) := by kernel_rfl
theorem sz128 : sizeIs Tryz.prog 128 = some 2 := by kernel_rfl
theorem sz9 : sizeIs Tryz.prog 9 = some 1 := by kernel_rfl
theorem zo9 : zeroOf Tryz.prog 9 = some (.string ⟨#[]⟩) := by kernel_rfl
theorem eo98 : elemOk Tryz.prog 98 9 1 16 = true := by kernel_rfl
theorem su98 : (match Program.underlying Tryz.prog 98 with | some (.slice _) => true | _ => false) = true := by kernel_rfl
theorem en123 : enters Tryz.prog 123 = true := by kernel_rfl
theorem en124 : enters Tryz.prog 124 = true := by kernel_rfl
theorem sz44 : sizeIs Tryz.prog 44 = some 3 := by kernel_rfl
theorem fo44x0 : fieldOff Tryz.prog 44 0 = some 0 := by kernel_rfl
theorem en213 : enters Tryz.prog 213 = true := by kernel_rfl
theorem fo138x0 : fieldOff Tryz.prog 138 0 = some 0 := by kernel_rfl
theorem fo138x1 : fieldOff Tryz.prog 138 1 = some 1 := by kernel_rfl
theorem lk98 : lk Tryz.prog 98 = some none := by kernel_rfl
theorem en180 : enters Tryz.prog 180 = true := by kernel_rfl
theorem fo138x2 : fieldOff Tryz.prog 138 2 = some 2 := by kernel_rfl
theorem en226 : enters Tryz.prog 226 = true := by kernel_rfl
theorem en115 : enters Tryz.prog 115 = true := by kernel_rfl
theorem en200 : enters Tryz.prog 200 = true := by kernel_rfl
theorem en153 : enters Tryz.prog 153 = true := by kernel_rfl
theorem fo29x0 : fieldOff Tryz.prog 29 0 = some 0 := by kernel_rfl
theorem fo29x1 : fieldOff Tryz.prog 29 1 = some 1 := by kernel_rfl
theorem lk27 : lk Tryz.prog 27 = some none := by kernel_rfl
theorem sz100 : sizeIs Tryz.prog 100 = some 4 := by kernel_rfl
theorem lk100 : lk Tryz.prog 100 = some (some 4) := by kernel_rfl
theorem zo100 : zeroOf Tryz.prog 100 = some (.agg #[.int .i64 0, .string ⟨#[]⟩, .string ⟨#[]⟩, .slice none 0 0]) := by kernel_rfl
theorem fo100x0 : fieldOff Tryz.prog 100 0 = some 0 := by kernel_rfl
theorem fo100x1 : fieldOff Tryz.prog 100 1 = some 1 := by kernel_rfl
theorem fo100x2 : fieldOff Tryz.prog 100 2 = some 2 := by kernel_rfl
theorem fo100x3 : fieldOff Tryz.prog 100 3 = some 3 := by kernel_rfl
theorem pl138 : placesOf Tryz.prog 138 = some [(0, 1), (1, 1), (2, 1)] := by kernel_rfl
theorem zo138 : zeroOf Tryz.prog 138 = some (.agg #[.string ⟨#[]⟩, .slice none 0 0, .string ⟨#[]⟩]) := by kernel_rfl
theorem en126 : enters Tryz.prog 126 = true := by kernel_rfl
theorem zo29 : zeroOf Tryz.prog 29 = some (.agg #[.int .i64 0, .slice none 0 0]) := by kernel_rfl
theorem sz29 : sizeIs Tryz.prog 29 = some 2 := by kernel_rfl
theorem sz98 : sizeIs Tryz.prog 98 = some 1 := by kernel_rfl
theorem eo27 : elemOk Tryz.prog 27 100 4 64 = true := by kernel_rfl
theorem sz27 : sizeIs Tryz.prog 27 = some 1 := by kernel_rfl
theorem lk29 : lk Tryz.prog 29 = some (some 2) := by kernel_rfl
theorem en66 : enters Tryz.prog 66 = true := by kernel_rfl
theorem zo3 : zeroOf Tryz.prog 3 = some (.int .i64 0) := by kernel_rfl
theorem lk188 : lk Tryz.prog 188 = some none := by kernel_rfl
theorem eo188 : elemOk Tryz.prog 188 3 1 8 = true := by kernel_rfl
theorem su188 : (match Program.underlying Tryz.prog 188 with | some (.slice _) => true | _ => false) = true := by kernel_rfl
theorem sz188 : sizeIs Tryz.prog 188 = some 1 := by kernel_rfl
theorem mth187Less : mthOk Tryz.prog 187 "Less" 269 false = true := by kernel_rfl
theorem en269 : enters Tryz.prog 269 = true := by kernel_rfl
theorem mth187Swap : mthOk Tryz.prog 187 "Swap" 272 false = true := by kernel_rfl
theorem en272 : enters Tryz.prog 272 = true := by kernel_rfl
theorem mth187Push : mthOk Tryz.prog 187 "Push" 271 true = true := by kernel_rfl
theorem en271 : enters Tryz.prog 271 = true := by kernel_rfl
theorem mth187Len : mthOk Tryz.prog 187 "Len" 268 false = true := by kernel_rfl
theorem en268 : enters Tryz.prog 268 = true := by kernel_rfl
theorem en201 : enters Tryz.prog 201 = true := by kernel_rfl
theorem en202 : enters Tryz.prog 202 = true := by kernel_rfl
theorem mth187Pop : mthOk Tryz.prog 187 "Pop" 270 true = true := by kernel_rfl
theorem en270 : enters Tryz.prog 270 = true := by kernel_rfl
theorem en154 : enters Tryz.prog 154 = true := by kernel_rfl
theorem en155 : enters Tryz.prog 155 = true := by kernel_rfl
theorem en109 : enters Tryz.prog 109 = true := by kernel_rfl
theorem en110 : enters Tryz.prog 110 = true := by kernel_rfl
theorem fo116x0 : fieldOff Tryz.prog 116 0 = some 0 := by kernel_rfl
theorem fo116x1 : fieldOff Tryz.prog 116 1 = some 1 := by kernel_rfl
theorem en214 : enters Tryz.prog 214 = true := by kernel_rfl
theorem fo116x2 : fieldOff Tryz.prog 116 2 = some 2 := by kernel_rfl
theorem en190 : enters Tryz.prog 190 = true := by kernel_rfl
theorem fo38x1 : fieldOff Tryz.prog 38 1 = some 1 := by kernel_rfl
theorem lk36 : lk Tryz.prog 36 = some none := by kernel_rfl
theorem sz116 : sizeIs Tryz.prog 116 = some 3 := by kernel_rfl
theorem lk116 : lk Tryz.prog 116 = some (some 3) := by kernel_rfl
theorem en181 : enters Tryz.prog 181 = true := by kernel_rfl
theorem fo38x0 : fieldOff Tryz.prog 38 0 = some 0 := by kernel_rfl
theorem zo116 : zeroOf Tryz.prog 116 = some (.agg #[.int .i64 0, .int .i64 0, .string ⟨#[]⟩]) := by kernel_rfl
theorem en145 : enters Tryz.prog 145 = true := by kernel_rfl
theorem lk38 : lk Tryz.prog 38 = some (some 2) := by kernel_rfl
theorem en91 : enters Tryz.prog 91 = true := by kernel_rfl
theorem fo44x1 : fieldOff Tryz.prog 44 1 = some 1 := by kernel_rfl
theorem fo44x2 : fieldOff Tryz.prog 44 2 = some 2 := by kernel_rfl
theorem lk44 : lk Tryz.prog 44 = some (some 3) := by kernel_rfl
theorem zo44 : zeroOf Tryz.prog 44 = some (.agg #[.string ⟨#[]⟩, .string ⟨#[]⟩, .int .i64 0]) := by kernel_rfl
theorem en104 : enters Tryz.prog 104 = true := by kernel_rfl
theorem en47 : enters Tryz.prog 47 = true := by kernel_rfl
theorem pl44 : placesOf Tryz.prog 44 = some [(0, 1), (1, 1), (2, 1)] := by kernel_rfl
theorem en92 : enters Tryz.prog 92 = true := by kernel_rfl
theorem en93 : enters Tryz.prog 93 = true := by kernel_rfl
theorem fo31x1 : fieldOff Tryz.prog 31 1 = some 1 := by kernel_rfl
theorem lk23 : lk Tryz.prog 23 = some none := by kernel_rfl
theorem en37 : enters Tryz.prog 37 = true := by kernel_rfl
theorem fo31x2 : fieldOff Tryz.prog 31 2 = some 2 := by kernel_rfl
theorem lk26 : lk Tryz.prog 26 = some none := by kernel_rfl
theorem sz40 : sizeIs Tryz.prog 40 = some 5 := by kernel_rfl
theorem fo40x0 : fieldOff Tryz.prog 40 0 = some 0 := by kernel_rfl
theorem fo40x1 : fieldOff Tryz.prog 40 1 = some 1 := by kernel_rfl
theorem lk40 : lk Tryz.prog 40 = some (some 5) := by kernel_rfl
theorem en106 : enters Tryz.prog 106 = true := by kernel_rfl
theorem en107 : enters Tryz.prog 107 = true := by kernel_rfl
theorem fo31x3 : fieldOff Tryz.prog 31 3 = some 3 := by kernel_rfl
theorem en54 : enters Tryz.prog 54 = true := by kernel_rfl
theorem sz174 : sizeIs Tryz.prog 174 = some 2 := by kernel_rfl
theorem fo174x0 : fieldOff Tryz.prog 174 0 = some 0 := by kernel_rfl
theorem fo174x1 : fieldOff Tryz.prog 174 1 = some 1 := by kernel_rfl
theorem en70 : enters Tryz.prog 70 = true := by kernel_rfl
theorem fo40x3 : fieldOff Tryz.prog 40 3 = some 3 := by kernel_rfl
theorem en130 : enters Tryz.prog 130 = true := by kernel_rfl
theorem zo40 : zeroOf Tryz.prog 40 = some (.agg #[.string ⟨#[]⟩, .string ⟨#[]⟩, .slice none 0 0, .int .i64 0, .slice none 0 0]) := by kernel_rfl
theorem fo40x2 : fieldOff Tryz.prog 40 2 = some 2 := by kernel_rfl
theorem lk35 : lk Tryz.prog 35 = some none := by kernel_rfl
theorem en127 : enters Tryz.prog 127 = true := by kernel_rfl
theorem en128 : enters Tryz.prog 128 = true := by kernel_rfl
theorem en129 : enters Tryz.prog 129 = true := by kernel_rfl
theorem fo31x0 : fieldOff Tryz.prog 31 0 = some 0 := by kernel_rfl
theorem en64 : enters Tryz.prog 64 = true := by kernel_rfl
theorem en65 : enters Tryz.prog 65 = true := by kernel_rfl
theorem lk31 : lk Tryz.prog 31 = some (some 5) := by kernel_rfl
theorem en67 : enters Tryz.prog 67 = true := by kernel_rfl
theorem en68 : enters Tryz.prog 68 = true := by kernel_rfl
theorem en69 : enters Tryz.prog 69 = true := by kernel_rfl
theorem en71 : enters Tryz.prog 71 = true := by kernel_rfl
theorem lk174 : lk Tryz.prog 174 = some (some 2) := by kernel_rfl
theorem zo174 : zeroOf Tryz.prog 174 = some (.agg #[.string ⟨#[]⟩, .int .i64 0]) := by kernel_rfl
theorem en208 : enters Tryz.prog 208 = true := by kernel_rfl
theorem en170 : enters Tryz.prog 170 = true := by kernel_rfl
theorem exn203 : Extern.findNext Tryz.f203 = none := by kernel_rfl
theorem exf203 : Extern.find Tryz.f203 = some Extern.BytealgCompare.compare := by kernel_rfl
theorem en156 : enters Tryz.prog 156 = true := by kernel_rfl
theorem en111 : enters Tryz.prog 111 = true := by kernel_rfl
theorem en36 : enters Tryz.prog 36 = true := by kernel_rfl
theorem en55 : enters Tryz.prog 55 = true := by kernel_rfl
theorem en52 : enters Tryz.prog 52 = true := by kernel_rfl
theorem en119 : enters Tryz.prog 119 = true := by kernel_rfl
theorem sz4 : sizeIs Tryz.prog 4 = some 1 := by kernel_rfl
theorem lk4 : lk Tryz.prog 4 = some none := by kernel_rfl
theorem en176 : enters Tryz.prog 176 = true := by kernel_rfl
theorem en102 : enters Tryz.prog 102 = true := by kernel_rfl
theorem lk140 : lk Tryz.prog 140 = some none := by kernel_rfl
theorem lk132 : lk Tryz.prog 132 = some none := by kernel_rfl
theorem en116 : enters Tryz.prog 116 = true := by kernel_rfl
theorem zo150 : zeroOf Tryz.prog 150 = some (.agg #[.int .u64 0, .int .u32 0]) := by kernel_rfl
theorem eo140 : elemOk Tryz.prog 140 4 1 1 = true := by kernel_rfl
theorem zo4 : zeroOf Tryz.prog 4 = some (.bool false) := by kernel_rfl
theorem zo140 : zeroOf Tryz.prog 140 = some (.slice none 0 0) := by kernel_rfl
theorem sz140 : sizeIs Tryz.prog 140 = some 1 := by kernel_rfl
theorem en112 : enters Tryz.prog 112 = true := by kernel_rfl
theorem en117 : enters Tryz.prog 117 = true := by kernel_rfl
theorem en118 : enters Tryz.prog 118 = true := by kernel_rfl
theorem en46 : enters Tryz.prog 46 = true := by kernel_rfl
theorem en56 : enters Tryz.prog 56 = true := by kernel_rfl
theorem en57 : enters Tryz.prog 57 = true := by kernel_rfl
theorem en58 : enters Tryz.prog 58 = true := by kernel_rfl
theorem en59 : enters Tryz.prog 59 = true := by kernel_rfl
theorem en60 : enters Tryz.prog 60 = true := by kernel_rfl
theorem fo156x0 : fieldOff Tryz.prog 156 0 = some 0 := by kernel_rfl
theorem fo156x1 : fieldOff Tryz.prog 156 1 = some 1 := by kernel_rfl
theorem fo255x0 : fieldOff Tryz.prog 255 0 = some 0 := by kernel_rfl
theorem fo266x2 : fieldOff Tryz.prog 266 2 = some 2 := by kernel_rfl
theorem sz156 : sizeIs Tryz.prog 156 = some 3 := by kernel_rfl
theorem lk156 : lk Tryz.prog 156 = some (some 3) := by kernel_rfl
theorem en120 : enters Tryz.prog 120 = true := by kernel_rfl
theorem sz255 : sizeIs Tryz.prog 255 = some 2 := by kernel_rfl
theorem lk255 : lk Tryz.prog 255 = some (some 2) := by kernel_rfl
theorem en210 : enters Tryz.prog 210 = true := by kernel_rfl
theorem sz266 : sizeIs Tryz.prog 266 = some 3 := by kernel_rfl
theorem lk266 : lk Tryz.prog 266 = some (some 3) := by kernel_rfl
theorem en227 : enters Tryz.prog 227 = true := by kernel_rfl
theorem fo214x1 : fieldOff Tryz.prog 214 1 = some 1 := by kernel_rfl
theorem fo214x2 : fieldOff Tryz.prog 214 2 = some 2 := by kernel_rfl
theorem fo214x3 : fieldOff Tryz.prog 214 3 = some 3 := by kernel_rfl
theorem en212 : enters Tryz.prog 212 = true := by kernel_rfl
theorem sz214 : sizeIs Tryz.prog 214 = some 4 := by kernel_rfl
theorem lk214 : lk Tryz.prog 214 = some (some 4) := by kernel_rfl
theorem en179 : enters Tryz.prog 179 = true := by kernel_rfl
theorem fo161x1 : fieldOff Tryz.prog 161 1 = some 1 := by kernel_rfl
theorem lk159 : lk Tryz.prog 159 = some none := by kernel_rfl
theorem en211 : enters Tryz.prog 211 = true := by kernel_rfl
theorem fo52x1 : fieldOff Tryz.prog 52 1 = some 1 := by kernel_rfl
theorem lk50 : lk Tryz.prog 50 = some none := by kernel_rfl
theorem en122 : enters Tryz.prog 122 = true := by kernel_rfl
theorem fo163x0 : fieldOff Tryz.prog 163 0 = some 0 := by kernel_rfl
theorem fo163x1 : fieldOff Tryz.prog 163 1 = some 1 := by kernel_rfl
theorem fo163x2 : fieldOff Tryz.prog 163 2 = some 2 := by kernel_rfl
theorem lk158 : lk Tryz.prog 158 = some none := by kernel_rfl
theorem en177 : enters Tryz.prog 177 = true := by kernel_rfl
theorem fo163x3 : fieldOff Tryz.prog 163 3 = some 3 := by kernel_rfl
theorem lk161 : lk Tryz.prog 161 = some (some 2) := by kernel_rfl
theorem en178 : enters Tryz.prog 178 = true := by kernel_rfl
theorem sz163 : sizeIs Tryz.prog 163 = some 5 := by kernel_rfl
theorem lk163 : lk Tryz.prog 163 = some (some 5) := by kernel_rfl
theorem en121 : enters Tryz.prog 121 = true := by kernel_rfl
theorem fo54x0 : fieldOff Tryz.prog 54 0 = some 0 := by kernel_rfl
theorem fo54x1 : fieldOff Tryz.prog 54 1 = some 1 := by kernel_rfl
theorem lk48 : lk Tryz.prog 48 = some none := by kernel_rfl
theorem en61 : enters Tryz.prog 61 = true := by kernel_rfl
theorem fo54x2 : fieldOff Tryz.prog 54 2 = some 2 := by kernel_rfl
theorem lk49 : lk Tryz.prog 49 = some none := by kernel_rfl
theorem en62 : enters Tryz.prog 62 = true := by kernel_rfl
theorem fo54x3 : fieldOff Tryz.prog 54 3 = some 3 := by kernel_rfl
theorem lk52 : lk Tryz.prog 52 = some (some 2) := by kernel_rfl
theorem en63 : enters Tryz.prog 63 = true := by kernel_rfl
theorem fo156x2 : fieldOff Tryz.prog 156 2 = some 2 := by kernel_rfl
theorem fo255x1 : fieldOff Tryz.prog 255 1 = some 1 := by kernel_rfl
theorem fo266x0 : fieldOff Tryz.prog 266 0 = some 0 := by kernel_rfl
theorem fo266x1 : fieldOff Tryz.prog 266 1 = some 1 := by kernel_rfl
theorem eo23 : elemOk Tryz.prog 23 44 3 40 = true := by kernel_rfl
theorem en131 : enters Tryz.prog 131 = true := by kernel_rfl
theorem eo35 : elemOk Tryz.prog 35 174 2 24 = true := by kernel_rfl
theorem en215 : enters Tryz.prog 215 = true := by kernel_rfl
theorem eo36 : elemOk Tryz.prog 36 116 3 32 = true := by kernel_rfl
theorem en228 : enters Tryz.prog 228 = true := by kernel_rfl
theorem fo214x0 : fieldOff Tryz.prog 214 0 = some 0 := by kernel_rfl
theorem en217 : enters Tryz.prog 217 = true := by kernel_rfl
theorem en184 : enters Tryz.prog 184 = true := by kernel_rfl
theorem fo52x0 : fieldOff Tryz.prog 52 0 = some 0 := by kernel_rfl
theorem en133 : enters Tryz.prog 133 = true := by kernel_rfl
theorem zo38 : zeroOf Tryz.prog 38 = some (.agg #[.int .i64 0, .slice none 0 0]) := by kernel_rfl
theorem fo161x0 : fieldOff Tryz.prog 161 0 = some 0 := by kernel_rfl
theorem en216 : enters Tryz.prog 216 = true := by kernel_rfl
theorem sz36 : sizeIs Tryz.prog 36 = some 1 := by kernel_rfl
theorem sz38 : sizeIs Tryz.prog 38 = some 2 := by kernel_rfl
theorem en182 : enters Tryz.prog 182 = true := by kernel_rfl
theorem sz35 : sizeIs Tryz.prog 35 = some 1 := by kernel_rfl
theorem en183 : enters Tryz.prog 183 = true := by kernel_rfl
theorem eo26 : elemOk Tryz.prog 26 40 5 88 = true := by kernel_rfl
theorem en132 : enters Tryz.prog 132 = true := by kernel_rfl
theorem zo31 : zeroOf Tryz.prog 31 = some (.agg #[.string ⟨#[]⟩, .slice none 0 0, .slice none 0 0, .int .i64 0, .slice none 0 0]) := by kernel_rfl
theorem en72 : enters Tryz.prog 72 = true := by kernel_rfl
theorem sz23 : sizeIs Tryz.prog 23 = some 1 := by kernel_rfl
theorem en73 : enters Tryz.prog 73 = true := by kernel_rfl
theorem sz26 : sizeIs Tryz.prog 26 = some 1 := by kernel_rfl
theorem en74 : enters Tryz.prog 74 = true := by kernel_rfl
theorem sz31 : sizeIs Tryz.prog 31 = some 5 := by kernel_rfl
theorem en134 : enters Tryz.prog 134 = true := by kernel_rfl
theorem en138 : enters Tryz.prog 138 = true := by kernel_rfl
theorem en186 : enters Tryz.prog 186 = true := by kernel_rfl
theorem en218 : enters Tryz.prog 218 = true := by kernel_rfl
theorem en185 : enters Tryz.prog 185 = true := by kernel_rfl
theorem en135 : enters Tryz.prog 135 = true := by kernel_rfl
theorem en139 : enters Tryz.prog 139 = true := by kernel_rfl
theorem en80 : enters Tryz.prog 80 = true := by kernel_rfl
theorem en81 : enters Tryz.prog 81 = true := by kernel_rfl
theorem en31 : enters Tryz.prog 31 = true := by kernel_rfl
theorem en75 : enters Tryz.prog 75 = true := by kernel_rfl
theorem en76 : enters Tryz.prog 76 = true := by kernel_rfl
theorem en77 : enters Tryz.prog 77 = true := by kernel_rfl
theorem lk54 : lk Tryz.prog 54 = some (some 5) := by kernel_rfl
theorem en22 : enters Tryz.prog 22 = true := by kernel_rfl
theorem en24 : enters Tryz.prog 24 = true := by kernel_rfl
theorem en23 : enters Tryz.prog 23 = true := by kernel_rfl
theorem en21 : enters Tryz.prog 21 = true := by kernel_rfl
theorem en25 : enters Tryz.prog 25 = true := by kernel_rfl
theorem en136 : enters Tryz.prog 136 = true := by kernel_rfl
theorem zo60 : zeroOf Tryz.prog 60 = some (.agg #[.string ⟨#[]⟩, .string ⟨#[]⟩, .string ⟨#[]⟩]) := by kernel_rfl
theorem pl60 : placesOf Tryz.prog 60 = some [(0, 1), (1, 1), (2, 1)] := by kernel_rfl
theorem sz60 : sizeIs Tryz.prog 60 = some 3 := by kernel_rfl
theorem lk60 : lk Tryz.prog 60 = some (some 3) := by kernel_rfl
theorem en78 : enters Tryz.prog 78 = true := by kernel_rfl
theorem en42 : enters Tryz.prog 42 = true := by kernel_rfl
theorem fo60x0 : fieldOff Tryz.prog 60 0 = some 0 := by kernel_rfl
theorem fo60x1 : fieldOff Tryz.prog 60 1 = some 1 := by kernel_rfl
theorem fo60x2 : fieldOff Tryz.prog 60 2 = some 2 := by kernel_rfl
theorem en27 : enters Tryz.prog 27 = true := by kernel_rfl
theorem en28 : enters Tryz.prog 28 = true := by kernel_rfl
theorem en29 : enters Tryz.prog 29 = true := by kernel_rfl
variable {J : JoinT}
abbrev cur (b : Nat) (l : List UInt8) (i : Nat) : Cells := box1 b [str l, .int .i64 i] 128
set_option maxRecDepth 4000 in
set_option maxHeartbeats 400000 in
theorem l6In_c (n lo hi : Int) (B : Kn) : RetB (pj J) 125 [.int .i64 n, .int .i64 lo, .int .i64 hi] B (.bool (decide (lo ≤ n) && decide (n ≤ hi))) := by
  refine cBB 15 Tryz.func125 rfl rfl rfl (Nat.le_of_ble_eq_true rfl) ?_
  refine wSR ?_
  refine xAs ?_
  refine wKp [(0, _), (1, _), (2, _), (6, _)] ⟨rfl, rfl, rfl, rfl, trivial⟩ ?_
  refine wSR ?_
  refine xMv ?_
  refine xMv ?_
  refine oX (w_geq rfl rfl rfl rfl ?_)
  refine xMv ?_
  refine r_split (d := 10) rfl (fun g1 => ?_) (fun g1 => ?_)
  · try simp only [sQ1, sQ2, sQ3, sQ4, sQ5, sQ6, sQ7, sQ8, ne_eq] at g1
    refine xMv ?_
    refine xMv ?_
    refine oX (w_leq rfl rfl rfl rfl ?_)
    refine oX (w_pickT rfl rfl rfl rfl ?_)
    refine xAs ?_
    refine wKp [(0, _), (1, _), (2, _), (6, _)] ⟨rfl, rfl, rfl, rfl, trivial⟩ ?_
    refine w_ret ?_
    exact end0 .ret (.inl rfl) [_] ⟨rfl, trivial⟩ ⟨by exact bool_eq (by rw [Bool.eq_iff_iff]; simp []; omega), rfl, rfl⟩
  · try simp only [sQ1, sQ2, sQ3, sQ4, sQ5, sQ6, sQ7, sQ8, ne_eq] at g1
    refine oX (w_pass rfl rfl ?_)
    refine oX (w_pass rfl rfl ?_)
    refine oX (w_pass rfl rfl ?_)
    refine oX (w_pickF rfl rfl rfl rfl ?_)
    refine xAs ?_
    refine wKp [(0, _), (1, _), (2, _), (6, _)] ⟨rfl, rfl, rfl, rfl, trivial⟩ ?_
    refine w_ret ?_
    exact end0 .ret (.inl rfl) [_] ⟨rfl, trivial⟩ ⟨by exact bool_eq (by rw [Bool.eq_iff_iff]; simp []; omega), rfl, rfl⟩

set_option maxRecDepth 4000 in
set_option maxHeartbeats 400000 in
theorem nameByte_c (c : UInt8) (B : Kn) : RetB (pj J) 199 [.int .u8 c.toNat] B (.bool (nameB c)) := by
  refine cBB 17 Tryz.func199 rfl rfl rfl (Nat.le_of_ble_eq_true rfl) ?_
  refine wSR ?_
  refine xAs ?_
  refine wKp [(0, _), (2, _)] ⟨rfl, rfl, trivial⟩ ?_
  refine wSR ?_
  refine xMv ?_
  refine oX (w_geq rfl rfl rfl rfl ?_)
  refine xMv ?_
  refine r_split (d := 5) rfl (fun g1 => ?_) (fun g1 => ?_)
  · try simp only [sQ1, sQ2, sQ3, sQ4, sQ5, sQ6, sQ7, sQ8, ne_eq] at g1
    refine xMv ?_
    refine oX (w_leq rfl rfl rfl rfl ?_)
    refine oX (w_pickT rfl rfl rfl rfl ?_)
    refine xMv ?_
    refine r_split (d := 9) rfl (fun g2 => ?_) (fun g2 => ?_)
    · try simp only [sQ1, sQ2, sQ3, sQ4, sQ5, sQ6, sQ7, sQ8, ne_eq] at g2
      refine oX (w_pass rfl rfl ?_)
      refine oX (w_pass rfl rfl ?_)
      refine oX (w_pass rfl rfl ?_)
      refine oX (w_pass rfl rfl ?_)
      refine oX (w_pass rfl rfl ?_)
      refine oX (w_pass rfl rfl ?_)
      refine oX (w_pickT rfl rfl rfl rfl ?_)
      refine xAs ?_
      refine wKp [(0, _), (2, _)] ⟨rfl, rfl, trivial⟩ ?_
      refine w_ret ?_
      exact end0 .ret (.inl rfl) [_] ⟨rfl, trivial⟩ ⟨by exact bool_eq (by rw [Bool.eq_iff_iff]; simp [nameB]; omega), rfl, rfl⟩
    · try simp only [sQ1, sQ2, sQ3, sQ4, sQ5, sQ6, sQ7, sQ8, ne_eq] at g2
      refine xMv ?_
      refine oX (w_geq rfl rfl rfl rfl ?_)
      refine xMv ?_
      refine r_split (d := 12) rfl (fun g3 => ?_) (fun g3 => ?_)
      · try simp only [sQ1, sQ2, sQ3, sQ4, sQ5, sQ6, sQ7, sQ8, ne_eq] at g3
        refine xMv ?_
        refine oX (w_leq rfl rfl rfl rfl ?_)
        refine oX (w_pickT rfl rfl rfl rfl ?_)
        refine oX (w_pickF rfl rfl rfl rfl ?_)
        refine xAs ?_
        refine wKp [(0, _), (2, _)] ⟨rfl, rfl, trivial⟩ ?_
        refine w_ret ?_
        exact end0 .ret (.inl rfl) [_] ⟨rfl, trivial⟩ ⟨by exact bool_eq (by rw [Bool.eq_iff_iff]; simp [nameB]; omega), rfl, rfl⟩
      · try simp only [sQ1, sQ2, sQ3, sQ4, sQ5, sQ6, sQ7, sQ8, ne_eq] at g3
        refine oX (w_pass rfl rfl ?_)
        refine oX (w_pass rfl rfl ?_)
        refine oX (w_pickF rfl rfl rfl rfl ?_)
        refine oX (w_pickF rfl rfl rfl rfl ?_)
        refine xAs ?_
        refine wKp [(0, _), (2, _)] ⟨rfl, rfl, trivial⟩ ?_
        refine w_ret ?_
        exact end0 .ret (.inl rfl) [_] ⟨rfl, trivial⟩ ⟨by exact bool_eq (by rw [Bool.eq_iff_iff]; simp [nameB]; omega), rfl, rfl⟩
  · try simp only [sQ1, sQ2, sQ3, sQ4, sQ5, sQ6, sQ7, sQ8, ne_eq] at g1
    refine oX (w_pass rfl rfl ?_)
    refine oX (w_pass rfl rfl ?_)
    refine oX (w_pickF rfl rfl rfl rfl ?_)
    refine xMv ?_
    refine xMv ?_
    refine oX (w_geq rfl rfl rfl rfl ?_)
    refine xMv ?_
    refine r_split (d := 12) rfl (fun g4 => ?_) (fun g4 => ?_)
    · try simp only [sQ1, sQ2, sQ3, sQ4, sQ5, sQ6, sQ7, sQ8, ne_eq] at g4
      refine xMv ?_
      refine oX (w_leq rfl rfl rfl rfl ?_)
      refine oX (w_pickT rfl rfl rfl rfl ?_)
      refine oX (w_pickF rfl rfl rfl rfl ?_)
      refine xAs ?_
      refine wKp [(0, _), (2, _)] ⟨rfl, rfl, trivial⟩ ?_
      refine w_ret ?_
      exact end0 .ret (.inl rfl) [_] ⟨rfl, trivial⟩ ⟨by exact bool_eq (by rw [Bool.eq_iff_iff]; simp [nameB]; omega), rfl, rfl⟩
    · try simp only [sQ1, sQ2, sQ3, sQ4, sQ5, sQ6, sQ7, sQ8, ne_eq] at g4
      refine oX (w_pass rfl rfl ?_)
      refine oX (w_pass rfl rfl ?_)
      refine oX (w_pickF rfl rfl rfl rfl ?_)
      refine oX (w_pickF rfl rfl rfl rfl ?_)
      refine xAs ?_
      refine wKp [(0, _), (2, _)] ⟨rfl, rfl, trivial⟩ ?_
      refine w_ret ?_
      exact end0 .ret (.inl rfl) [_] ⟨rfl, trivial⟩ ⟨by exact bool_eq (by rw [Bool.eq_iff_iff]; simp [nameB]; omega), rfl, rfl⟩

set_option maxRecDepth 4000 in
set_option maxHeartbeats 400000 in
theorem specName_c (l : List UInt8) (hl : l.length ≤ 2000000) (B : Kn) : RetB (pj J) 124 [str l] B (.bool (nameOk l)) := by
  refine cBB 37 Tryz.func124 rfl rfl rfl (Nat.le_of_ble_eq_true rfl) ?_
  refine wSR ?_
  refine xAs ?_
  refine wKp [(0, _), (2, _)] ⟨rfl, rfl, trivial⟩ ?_
  refine w_seq ?_
  refine wSR ?_
  refine xAs ?_
  refine wKp [(0, _), (2, _), (3, _)] ⟨rfl, rfl, rfl, trivial⟩ ?_
  refine w_block ?_
  refine w_loop (α := Nat) (fun k => [(0, str l), (3, .int .i64 k)]) (fun k => []) (fun k Bx => Bx = B ∧ k ≤ l.length ∧ (l.take k).all nameB = true) (fun k => l.length - k) 0 ⟨rfl, rfl, trivial⟩ rfl (⟨rfl, Nat.zero_le _, by simp⟩) (fun k B1 hle1 hI => ?_)
  obtain ⟨rfl, hk, ha⟩ := hI
  refine w_seq ?_
  refine wSR ?_
  refine xMv ?_
  refine xMv ?_
  refine oX (w_lenS rfl rfl Tryz.underlying9 rfl ?_)
  refine oX (w_lss rfl rfl rfl rfl ?_)
  refine wKp [(0, _), (3, _), (7, _)] ⟨rfl, rfl, rfl, trivial⟩ ?_
  refine wCd rfl (fun g1 => ?_) (fun g1 => ?_)
  · try simp only [sQ1, sQ2, sQ3, sQ4, sQ5, sQ6, sQ7, sQ8, ne_eq] at g1
    obtain ⟨c, hc⟩ : ∃ c, l[k]? = some c := ⟨_, List.getElem?_eq_getElem (by omega)⟩
    refine w_skip ?_
    refine thn_n ?_
    refine w_seq ?_
    refine w_block ?_
    refine w_seq_bool 33 (!(nameB c)) [0, 3, 7] ?_ ?_
    · skip
      refine xMv ?_
      refine xMv ?_
      refine oX (w_index rfl rfl Tryz.underlying9 rfl rfl (by omega) (by simpa using hc) ?_)
      refine oX (w_geq rfl rfl rfl rfl ?_)
      refine xMv ?_
      refine r_split (d := 14) rfl (fun g1 => ?_) (fun g1 => ?_)
      · try simp only [sQ1, sQ2, sQ3, sQ4, sQ5, sQ6, sQ7, sQ8, ne_eq] at g1
        refine xMv ?_
        refine xMv ?_
        refine oX (w_index rfl rfl Tryz.underlying9 rfl rfl (by omega) (by simpa using hc) ?_)
        refine oX (w_leq rfl rfl rfl rfl ?_)
        refine oX (w_pickT rfl rfl rfl rfl ?_)
        refine oX (w_not rfl rfl rfl ?_)
        refine xMv ?_
        refine r_split (d := 21) rfl (fun g2 => ?_) (fun g2 => ?_)
        · try simp only [sQ1, sQ2, sQ3, sQ4, sQ5, sQ6, sQ7, sQ8, ne_eq] at g2
          refine xMv ?_
          refine xMv ?_
          refine oX (w_index rfl rfl Tryz.underlying9 rfl rfl (by omega) (by simpa using hc) ?_)
          refine oX (w_geq rfl rfl rfl rfl ?_)
          refine xMv ?_
          refine r_split (d := 26) rfl (fun g3 => ?_) (fun g3 => ?_)
          · try simp only [sQ1, sQ2, sQ3, sQ4, sQ5, sQ6, sQ7, sQ8, ne_eq] at g3
            refine xMv ?_
            refine xMv ?_
            refine oX (w_index rfl rfl Tryz.underlying9 rfl rfl (by omega) (by simpa using hc) ?_)
            refine oX (w_leq rfl rfl rfl rfl ?_)
            refine oX (w_pickT rfl rfl rfl rfl ?_)
            refine oX (w_not rfl rfl rfl ?_)
            refine oX (w_pickT rfl rfl rfl rfl ?_)
            exact ⟨rfl, rfl, rfl, leafB rfl (by rw [Bool.eq_iff_iff]; simp [nameB, ]; omega), ⟨rfl, rfl, rfl, trivial⟩⟩
          · try simp only [sQ1, sQ2, sQ3, sQ4, sQ5, sQ6, sQ7, sQ8, ne_eq] at g3
            refine oX (w_pass rfl rfl ?_)
            refine oX (w_pass rfl rfl ?_)
            refine oX (w_pass rfl rfl ?_)
            refine oX (w_pass rfl rfl ?_)
            refine oX (w_pickF rfl rfl rfl rfl ?_)
            refine oX (w_not rfl rfl rfl ?_)
            refine oX (w_pickT rfl rfl rfl rfl ?_)
            exact ⟨rfl, rfl, rfl, leafB rfl (by rw [Bool.eq_iff_iff]; simp [nameB, ]; omega), ⟨rfl, rfl, rfl, trivial⟩⟩
        · try simp only [sQ1, sQ2, sQ3, sQ4, sQ5, sQ6, sQ7, sQ8, ne_eq] at g2
          refine oX (w_pass rfl rfl ?_)
          refine oX (w_pass rfl rfl ?_)
          refine oX (w_pass rfl rfl ?_)
          refine oX (w_pass rfl rfl ?_)
          refine oX (w_pass rfl rfl ?_)
          refine oX (w_pass rfl rfl ?_)
          refine oX (w_pass rfl rfl ?_)
          refine oX (w_pass rfl rfl ?_)
          refine oX (w_pass rfl rfl ?_)
          refine oX (w_pass rfl rfl ?_)
          refine oX (w_pass rfl rfl ?_)
          refine oX (w_pickF rfl rfl rfl rfl ?_)
          exact ⟨rfl, rfl, rfl, leafB rfl (by rw [Bool.eq_iff_iff]; simp [nameB, ]; omega), ⟨rfl, rfl, rfl, trivial⟩⟩
      · try simp only [sQ1, sQ2, sQ3, sQ4, sQ5, sQ6, sQ7, sQ8, ne_eq] at g1
        refine oX (w_pass rfl rfl ?_)
        refine oX (w_pass rfl rfl ?_)
        refine oX (w_pass rfl rfl ?_)
        refine oX (w_pass rfl rfl ?_)
        refine oX (w_pickF rfl rfl rfl rfl ?_)
        refine oX (w_not rfl rfl rfl ?_)
        refine xMv ?_
        refine xMv ?_
        refine xMv ?_
        refine oX (w_index rfl rfl Tryz.underlying9 rfl rfl (by omega) (by simpa using hc) ?_)
        refine oX (w_geq rfl rfl rfl rfl ?_)
        refine xMv ?_
        refine r_split (d := 26) rfl (fun g4 => ?_) (fun g4 => ?_)
        · try simp only [sQ1, sQ2, sQ3, sQ4, sQ5, sQ6, sQ7, sQ8, ne_eq] at g4
          refine xMv ?_
          refine xMv ?_
          refine oX (w_index rfl rfl Tryz.underlying9 rfl rfl (by omega) (by simpa using hc) ?_)
          refine oX (w_leq rfl rfl rfl rfl ?_)
          refine oX (w_pickT rfl rfl rfl rfl ?_)
          refine oX (w_not rfl rfl rfl ?_)
          refine oX (w_pickT rfl rfl rfl rfl ?_)
          exact ⟨rfl, rfl, rfl, leafB rfl (by rw [Bool.eq_iff_iff]; simp [nameB, ]; omega), ⟨rfl, rfl, rfl, trivial⟩⟩
        · try simp only [sQ1, sQ2, sQ3, sQ4, sQ5, sQ6, sQ7, sQ8, ne_eq] at g4
          refine oX (w_pass rfl rfl ?_)
          refine oX (w_pass rfl rfl ?_)
          refine oX (w_pass rfl rfl ?_)
          refine oX (w_pass rfl rfl ?_)
          refine oX (w_pickF rfl rfl rfl rfl ?_)
          refine oX (w_not rfl rfl rfl ?_)
          refine oX (w_pickT rfl rfl rfl rfl ?_)
          exact ⟨rfl, rfl, rfl, leafB rfl (by rw [Bool.eq_iff_iff]; simp [nameB, ]; omega), ⟨rfl, rfl, rfl, trivial⟩⟩
    refine wKp [(0, _), (3, _), (7, _), (33, _)] ⟨rfl, rfl, rfl, rfl, trivial⟩ ?_
    refine wCd rfl (fun g9 => ?_) (fun g9 => ?_)
    · try simp only [sQ1, sQ2, sQ3, sQ4, sQ5, sQ6, sQ7, sQ8, ne_eq] at g9
      refine wSR ?_
      refine xAs ?_
      refine wKp [(0, _), (2, _), (3, _), (7, _), (33, _)] ⟨rfl, rfl, rfl, rfl, rfl, trivial⟩ ?_
      refine w_ret (inB_r (thn_r (rnd_r (inB_r (thn_r ?_)))))
      exact end0 .ret (.inl rfl) [_] ⟨rfl, trivial⟩ ⟨bool_eq (by simp [nameOk, all_stop hc g9]), rfl, rfl⟩
    · try simp only [sQ1, sQ2, sQ3, sQ4, sQ5, sQ6, sQ7, sQ8, ne_eq] at g9
      refine w_skip ?_
      refine inB_n (thn_n ?_)
      refine w_region ?_
      refine xMv ?_
      refine oX (w_add rfl rfl rfl rfl (by first | exact wrI64 (by omega) (by omega) | rfl) ?_)
      refine xAs ?_
      exact rnd_n (k + 1) (by omega) ⟨rfl, by omega, all_step hc g9 ha⟩ ⟨rfl, rfl, trivial⟩ rfl
  · try simp only [sQ1, sQ2, sQ3, sQ4, sQ5, sQ6, sQ7, sQ8, ne_eq] at g1
    refine w_exit (thn_x (rnd_x (inB_hit (thn_n ?_))))
    refine wSR ?_
    refine xMv ?_
    refine oX (w_lenS rfl rfl Tryz.underlying9 rfl ?_)
    refine oX (w_retB rfl rfl en125 rfl (l6In_c _ _ _ _) ?_)
    refine xAs ?_
    refine wKp [(0, _), (2, _), (3, _), (7, _)] ⟨rfl, rfl, rfl, rfl, trivial⟩ ?_
    refine w_ret ?_
    exact end0 .ret (.inl rfl) [_] ⟨rfl, trivial⟩ ⟨bool_eq (by (obtain rfl : k = l.length := by omega); rw [List.take_length] at ha; rw [Bool.eq_iff_iff]; simp [nameOk, ha]; omega), rfl, rfl⟩

set_option maxRecDepth 4000 in
set_option maxHeartbeats 400000 in
theorem done_c (b : Nat) (l : List UInt8) (i : Nat) (hi : i ≤ l.length) (hl : l.length ≤ 2000000) (B : Kn) : Upd1 (pj J) 103 [ptr ⟨b, 0, none⟩] B (cur b l i) (.bool (decide (i = l.length))) (cur b l i) := by
  refine cBB 13 Tryz.func103 rfl rfl rfl (Nat.le_of_ble_eq_true rfl) ?_
  refine wSR ?_
  refine xAs ?_
  refine wKp [(0, _), (2, _)] ⟨rfl, rfl, trivial⟩ ?_
  refine w_seq ?_
  refine w_draw (same _ _) mo (by kernel_rfl) ⟨rfl, rfl⟩ (fun _ _ => ?_)
  refine aTP 0 rfl (by kernel_rfl) rfl (fun D B L => w_move rfl rfl rfl ⟨rfl, rfl, rfl, rfl⟩) ?_
  refine aTk 1 rfl (by kernel_rfl) rfl (q_of fun D => w_nilCheck rfl rfl rfl ⟨rfl, rfl, rfl, rfl⟩) ?_
  refine aTk 2 rfl (by kernel_rfl) rfl (q_of fun D => wFA rfl rfl fo128x1 rfl ⟨rfl, rfl, rfl, rfl⟩) ?_
  refine aTk 3 rfl (by kernel_rfl) rfl (q_of fun D => w_load1 rfl rfl lk3 rfl (atL 0 rfl rfl rfl) ⟨rfl, rfl, rfl, rfl⟩) ?_
  refine aTP 4 rfl (by kernel_rfl) rfl (fun D B L => w_move rfl rfl rfl ⟨rfl, rfl, rfl, rfl⟩) ?_
  refine aTk 5 rfl (by kernel_rfl) rfl (q_of fun D => w_nilCheck rfl rfl rfl ⟨rfl, rfl, rfl, rfl⟩) ?_
  refine aTk 6 rfl (by kernel_rfl) rfl (q_of fun D => wFA rfl rfl fo128x0 rfl ⟨rfl, rfl, rfl, rfl⟩) ?_
  refine aTk 7 rfl (by kernel_rfl) rfl (q_of fun D => w_load1 rfl rfl lk9 rfl (atL 0 rfl rfl rfl) ⟨rfl, rfl, rfl, rfl⟩) ?_
  refine aTk 8 rfl (by kernel_rfl) rfl (q_of fun D => w_lenS rfl rfl Tryz.underlying9 rfl ⟨rfl, rfl, rfl, rfl⟩) ?_
  refine aTk 9 rfl (by kernel_rfl) rfl (q_of fun D => w_eqlI rfl rfl rfl rfl ⟨rfl, rfl, rfl, rfl⟩) ?_
  refine aTP 10 rfl (by kernel_rfl) rfl (fun D B L => w_assign rfl rfl rfl ⟨rfl, rfl, rfl, rfl⟩) ?_
  refine any_done (by kernel_rfl) (by kernel_rfl) ?_
  refine thn_n ?_
  refine wKp [(0, _), (2, _)] ⟨rfl, rfl, trivial⟩ ?_
  refine w_ret ?_
  exact end1 .ret (.inl rfl) [_] 0 rfl ⟨rfl, trivial⟩ ⟨bool_eq (by rw [Bool.eq_iff_iff]; simp; omega), rfl, rfl⟩

set_option maxRecDepth 4000 in
set_option maxHeartbeats 400000 in
theorem take_c (b : Nat) (l : List UInt8) (i : Nat) (hi : i ≤ l.length) (hl : l.length ≤ 2000000) (x : UInt8) (B : Kn) : Upd1 (pj J) 152 [ptr ⟨b, 0, none⟩, .int .u8 x.toNat] B (cur b l i) (.bool (decide (l[i]? = some x))) (cur b l (if l[i]? = some x then i + 1 else i)) := by
  refine cBB 27 Tryz.func152 rfl rfl rfl (Nat.le_of_ble_eq_true rfl) ?_
  refine wSR ?_
  refine xAs ?_
  refine wKp [(0, _), (1, _), (4, _)] ⟨rfl, rfl, rfl, trivial⟩ ?_
  refine w_seq ?_
  refine w_seq_boolD 19 (decide (l[i]? ≠ some x)) [0, 1, 4] (same _ _) mo (by kernel_rfl) ⟨rfl, rfl⟩ (fun _ _ => ?_) ?_
  · skip
    refine aTP 0 rfl (by kernel_rfl) rfl (fun D B L => w_move rfl rfl rfl ⟨rfl, rfl, rfl, rfl⟩) ?_
    refine aTk 1 rfl (by kernel_rfl) rfl (q_of fun D => w_ret1 0 rfl rfl rfl en103 rfl (done_c _ _ _ (by omega) (by omega) _) ⟨rfl, rfl, rfl, rfl⟩) ?_
    refine aTP 2 rfl (by kernel_rfl) rfl (fun D B L => w_move rfl rfl rfl ⟨rfl, rfl, rfl, rfl⟩) ?_
    refine a_split (d := 7) rfl (fun g1 => ?_) (fun g1 => ?_)
    · try simp only [sQ1, sQ2, sQ3, sQ4, sQ5, sQ6, sQ7, sQ8, ne_eq] at g1
      refine aTP 3 rfl (by kernel_rfl) rfl (fun D B L => w_pass rfl rfl ⟨rfl, rfl, rfl, rfl⟩) ?_
      refine aTk 4 rfl (by kernel_rfl) rfl (q_of fun D => w_pass rfl rfl ⟨rfl, rfl, rfl, rfl⟩) ?_
      refine aTk 5 rfl (by kernel_rfl) rfl (q_of fun D => w_pass rfl rfl ⟨rfl, rfl, rfl, rfl⟩) ?_
      refine aTk 6 rfl (by kernel_rfl) rfl (q_of fun D => w_pass rfl rfl ⟨rfl, rfl, rfl, rfl⟩) ?_
      refine aTP 7 rfl (by kernel_rfl) rfl (fun D B L => w_pass rfl rfl ⟨rfl, rfl, rfl, rfl⟩) ?_
      refine aTk 8 rfl (by kernel_rfl) rfl (q_of fun D => w_pass rfl rfl ⟨rfl, rfl, rfl, rfl⟩) ?_
      refine aTk 9 rfl (by kernel_rfl) rfl (q_of fun D => w_pass rfl rfl ⟨rfl, rfl, rfl, rfl⟩) ?_
      refine aTk 10 rfl (by kernel_rfl) rfl (q_of fun D => w_pass rfl rfl ⟨rfl, rfl, rfl, rfl⟩) ?_
      refine aTk 11 rfl (by kernel_rfl) rfl (q_of fun D => w_pass rfl rfl ⟨rfl, rfl, rfl, rfl⟩) ?_
      refine aTP 12 rfl (by kernel_rfl) rfl (fun D B L => w_pass rfl rfl ⟨rfl, rfl, rfl, rfl⟩) ?_
      refine aTk 13 rfl (by kernel_rfl) rfl (q_of fun D => w_pass rfl rfl ⟨rfl, rfl, rfl, rfl⟩) ?_
      refine aTk 14 rfl (by kernel_rfl) rfl (q_of fun D => w_pickT rfl rfl rfl rfl ⟨rfl, rfl, rfl, rfl⟩) ?_
      refine any_done (by kernel_rfl) (by kernel_rfl) ?_
      exact ⟨rfl, rfl, rfl, leafB rfl (by first | (simp [g1]; done) | (rw [Bool.eq_iff_iff]; simp [hc, ← UInt8.toNat_inj]; omega)), ⟨rfl, rfl, rfl, trivial⟩⟩
    · try simp only [sQ1, sQ2, sQ3, sQ4, sQ5, sQ6, sQ7, sQ8, ne_eq] at g1
      obtain ⟨c, hc⟩ : ∃ c, l[i]? = some c := ⟨_, List.getElem?_eq_getElem (by omega)⟩
      refine aTP 3 rfl (by kernel_rfl) rfl (fun D B L => w_move rfl rfl rfl ⟨rfl, rfl, rfl, rfl⟩) ?_
      refine aTk 4 rfl (by kernel_rfl) rfl (q_of fun D => w_nilCheck rfl rfl rfl ⟨rfl, rfl, rfl, rfl⟩) ?_
      refine aTk 5 rfl (by kernel_rfl) rfl (q_of fun D => wFA rfl rfl fo128x0 rfl ⟨rfl, rfl, rfl, rfl⟩) ?_
      refine aTk 6 rfl (by kernel_rfl) rfl (q_of fun D => w_load1 rfl rfl lk9 rfl (atL 0 rfl rfl rfl) ⟨rfl, rfl, rfl, rfl⟩) ?_
      refine aTP 7 rfl (by kernel_rfl) rfl (fun D B L => w_move rfl rfl rfl ⟨rfl, rfl, rfl, rfl⟩) ?_
      refine aTk 8 rfl (by kernel_rfl) rfl (q_of fun D => w_nilCheck rfl rfl rfl ⟨rfl, rfl, rfl, rfl⟩) ?_
      refine aTk 9 rfl (by kernel_rfl) rfl (q_of fun D => wFA rfl rfl fo128x1 rfl ⟨rfl, rfl, rfl, rfl⟩) ?_
      refine aTk 10 rfl (by kernel_rfl) rfl (q_of fun D => w_load1 rfl rfl lk3 rfl (atL 0 rfl rfl rfl) ⟨rfl, rfl, rfl, rfl⟩) ?_
      refine aTk 11 rfl (by kernel_rfl) rfl (q_of fun D => w_index rfl rfl Tryz.underlying9 rfl rfl (by omega) (by simpa using hc) ⟨rfl, rfl, rfl, rfl⟩) ?_
      refine aTP 12 rfl (by kernel_rfl) rfl (fun D B L => w_move rfl rfl rfl ⟨rfl, rfl, rfl, rfl⟩) ?_
      refine aTk 13 rfl (by kernel_rfl) rfl (q_of fun D => w_neqI rfl rfl rfl rfl ⟨rfl, rfl, rfl, rfl⟩) ?_
      refine aTk 14 rfl (by kernel_rfl) rfl (q_of fun D => w_pickF rfl rfl rfl rfl ⟨rfl, rfl, rfl, rfl⟩) ?_
      refine any_done (by kernel_rfl) (by kernel_rfl) ?_
      exact ⟨rfl, rfl, rfl, leafB rfl (by first | (simp [g1]; done) | (rw [Bool.eq_iff_iff]; simp [hc, ← UInt8.toNat_inj]; omega)), ⟨rfl, rfl, rfl, trivial⟩⟩
  refine wKp [(0, _), (1, _), (4, _), (19, _)] ⟨rfl, rfl, rfl, rfl, trivial⟩ ?_
  refine wCd rfl (fun g2 => ?_) (fun g2 => ?_)
  · try simp only [sQ1, sQ2, sQ3, sQ4, sQ5, sQ6, sQ7, sQ8, ne_eq] at g2
    refine wSR ?_
    refine xAs ?_
    refine wKp [(0, _), (1, _), (4, _), (19, _)] ⟨rfl, rfl, rfl, rfl, trivial⟩ ?_
    refine w_ret (thn_r ?_)
    exact end1 .ret (.inl rfl) [_] 0 rfl ⟨rfl, trivial⟩ ⟨bool_eq (by simp [g2]), rfl, by rw [if_neg g2]⟩
  · try simp only [sQ1, sQ2, sQ3, sQ4, sQ5, sQ6, sQ7, sQ8, ne_eq] at g2
    refine w_skip ?_
    refine thn_n ?_
    refine wSR ?_
    refine xMv ?_
    refine oX (w_nilCheck rfl rfl rfl ?_)
    refine oX (wFA rfl rfl fo128x1 rfl ?_)
    refine oX (w_load1 rfl rfl lk3 rfl (atL 0 rfl rfl rfl) ?_)
    refine oX (w_add rfl rfl rfl rfl (by first | exact wrI64 (by omega) (by omega) | rfl) ?_)
    refine oX (w_nilCheck rfl rfl rfl ?_)
    refine oX (wFA rfl rfl fo128x1 rfl ?_)
    refine oX (w_store [_] 0 [_, _] rfl rfl sz3 rfl rfl rfl rfl rfl rfl rfl rfl ?_)
    refine wTd [(0, _), (1, _), (4, _), (19, _)] [_] ⟨rfl, rfl, rfl, rfl, trivial⟩ rfl ?_
    refine wSR ?_
    refine xAs ?_
    refine wKp [(0, _), (1, _), (4, _), (19, _)] ⟨rfl, rfl, rfl, rfl, trivial⟩ ?_
    refine w_ret ?_
    exact end1 .ret (.inl rfl) [_] 0 rfl ⟨rfl, trivial⟩ ⟨bool_eq (by simp [g2]), rfl, by rw [if_pos g2]; rfl⟩

set_option maxRecDepth 4000 in
set_option maxHeartbeats 400000 in
theorem name_c (b : Nat) (l : List UInt8) (i : Nat) (hi : i ≤ l.length) (hl : l.length ≤ 2000000) (B : Kn) : Upd1 (pj J) 151 [ptr ⟨b, 0, none⟩] B (cur b l i) (.tuple #[str (word l i), .bool (wordOk (word l i))]) (cur b l (i + (word l i).length)) := by
  refine cBB 54 Tryz.func151 rfl rfl rfl (Nat.le_of_ble_eq_true rfl) ?_
  refine wSR ?_
  refine xAs ?_
  refine xAs ?_
  refine wKp [(0, _), (2, _), (3, _)] ⟨rfl, rfl, rfl, trivial⟩ ?_
  refine wSR ?_
  refine xMv ?_
  refine oX (w_nilCheck rfl rfl rfl ?_)
  refine oX (wFA rfl rfl fo128x1 rfl ?_)
  refine oX (w_load1 rfl rfl lk3 rfl (atL 0 rfl rfl rfl) ?_)
  refine xAs ?_
  refine wKp [(0, _), (2, _), (3, _), (4, _)] ⟨rfl, rfl, rfl, rfl, trivial⟩ ?_
  refine w_seq ?_
  refine w_block ?_
  refine w_loop (α := Nat) (fun k => [(0, ptr ⟨b, 0, none⟩), (4, .int .i64 i)]) (fun k => [cur b l (i + k)]) (fun k Bx => Bx = B ∧ i + k ≤ l.length ∧ ((l.drop i).take k).all nameB = true) (fun k => l.length - i - k) 0 ⟨rfl, rfl, trivial⟩ rfl (⟨rfl, by omega, by simp⟩) (fun k B1 hle1 hI => ?_)
  obtain ⟨rfl, hk, ha⟩ := hI
  refine w_seq ?_
  refine w_seq_boolD 24 (match l[i + k]? with | some c => nameB c | none => false) [0, 4] (same _ _) mo (by kernel_rfl) ⟨rfl, rfl⟩ (fun _ _ => ?_) ?_
  · skip
    refine aTP 0 rfl (by kernel_rfl) rfl (fun D B L => w_move rfl rfl rfl ⟨rfl, rfl, rfl, rfl⟩) ?_
    refine aTk 1 rfl (by kernel_rfl) rfl (q_of fun D => w_ret1 0 rfl rfl rfl en103 rfl (done_c _ _ _ (by omega) (by omega) _) ⟨rfl, rfl, rfl, rfl⟩) ?_
    refine aTk 2 rfl (by kernel_rfl) rfl (q_of fun D => w_not rfl rfl rfl ⟨rfl, rfl, rfl, rfl⟩) ?_
    refine aTP 3 rfl (by kernel_rfl) rfl (fun D B L => w_move rfl rfl rfl ⟨rfl, rfl, rfl, rfl⟩) ?_
    refine a_split (d := 13) rfl (fun g1 => ?_) (fun g1 => ?_)
    · try simp only [sQ1, sQ2, sQ3, sQ4, sQ5, sQ6, sQ7, sQ8, ne_eq] at g1
      obtain ⟨c, hc⟩ : ∃ c, l[i + k]? = some c := ⟨_, List.getElem?_eq_getElem (by omega)⟩
      refine aTP 4 rfl (by kernel_rfl) rfl (fun D B L => w_move rfl rfl rfl ⟨rfl, rfl, rfl, rfl⟩) ?_
      refine aTk 5 rfl (by kernel_rfl) rfl (q_of fun D => w_nilCheck rfl rfl rfl ⟨rfl, rfl, rfl, rfl⟩) ?_
      refine aTk 6 rfl (by kernel_rfl) rfl (q_of fun D => wFA rfl rfl fo128x0 rfl ⟨rfl, rfl, rfl, rfl⟩) ?_
      refine aTk 7 rfl (by kernel_rfl) rfl (q_of fun D => w_load1 rfl rfl lk9 rfl (atL 0 rfl rfl rfl) ⟨rfl, rfl, rfl, rfl⟩) ?_
      refine aTP 8 rfl (by kernel_rfl) rfl (fun D B L => w_move rfl rfl rfl ⟨rfl, rfl, rfl, rfl⟩) ?_
      refine aTk 9 rfl (by kernel_rfl) rfl (q_of fun D => w_nilCheck rfl rfl rfl ⟨rfl, rfl, rfl, rfl⟩) ?_
      refine aTk 10 rfl (by kernel_rfl) rfl (q_of fun D => wFA rfl rfl fo128x1 rfl ⟨rfl, rfl, rfl, rfl⟩) ?_
      refine aTk 11 rfl (by kernel_rfl) rfl (q_of fun D => w_load1 rfl rfl lk3 rfl (atL 0 rfl rfl rfl) ⟨rfl, rfl, rfl, rfl⟩) ?_
      refine aTk 12 rfl (by kernel_rfl) rfl (q_of fun D => w_index rfl rfl Tryz.underlying9 rfl rfl (by omega) hc ⟨rfl, rfl, rfl, rfl⟩) ?_
      refine aTk 13 rfl (by kernel_rfl) rfl (q_of fun D => w_retB rfl rfl en199 rfl (nameByte_c _ _) ⟨rfl, rfl, rfl, rfl⟩) ?_
      refine aTk 14 rfl (by kernel_rfl) rfl (q_of fun D => w_pickT rfl rfl rfl rfl ⟨rfl, rfl, rfl, rfl⟩) ?_
      refine any_done (by kernel_rfl) (by kernel_rfl) ?_
      exact ⟨rfl, rfl, rfl, leafB rfl (by first | (rw [hc]; done) | (rw [List.getElem?_eq_none (by omega)])), ⟨rfl, rfl, trivial⟩⟩
    · try simp only [sQ1, sQ2, sQ3, sQ4, sQ5, sQ6, sQ7, sQ8, ne_eq] at g1
      refine aTP 4 rfl (by kernel_rfl) rfl (fun D B L => w_pass rfl rfl ⟨rfl, rfl, rfl, rfl⟩) ?_
      refine aTk 5 rfl (by kernel_rfl) rfl (q_of fun D => w_pass rfl rfl ⟨rfl, rfl, rfl, rfl⟩) ?_
      refine aTk 6 rfl (by kernel_rfl) rfl (q_of fun D => w_pass rfl rfl ⟨rfl, rfl, rfl, rfl⟩) ?_
      refine aTk 7 rfl (by kernel_rfl) rfl (q_of fun D => w_pass rfl rfl ⟨rfl, rfl, rfl, rfl⟩) ?_
      refine aTP 8 rfl (by kernel_rfl) rfl (fun D B L => w_pass rfl rfl ⟨rfl, rfl, rfl, rfl⟩) ?_
      refine aTk 9 rfl (by kernel_rfl) rfl (q_of fun D => w_pass rfl rfl ⟨rfl, rfl, rfl, rfl⟩) ?_
      refine aTk 10 rfl (by kernel_rfl) rfl (q_of fun D => w_pass rfl rfl ⟨rfl, rfl, rfl, rfl⟩) ?_
      refine aTk 11 rfl (by kernel_rfl) rfl (q_of fun D => w_pass rfl rfl ⟨rfl, rfl, rfl, rfl⟩) ?_
      refine aTk 12 rfl (by kernel_rfl) rfl (q_of fun D => w_pass rfl rfl ⟨rfl, rfl, rfl, rfl⟩) ?_
      refine aTk 13 rfl (by kernel_rfl) rfl (q_of fun D => w_pass rfl rfl ⟨rfl, rfl, rfl, rfl⟩) ?_
      refine aTk 14 rfl (by kernel_rfl) rfl (q_of fun D => w_pickF rfl rfl rfl rfl ⟨rfl, rfl, rfl, rfl⟩) ?_
      refine any_done (by kernel_rfl) (by kernel_rfl) ?_
      exact ⟨rfl, rfl, rfl, leafB rfl (by first | (rw [hc]; done) | (rw [List.getElem?_eq_none (by omega)])), ⟨rfl, rfl, trivial⟩⟩
  refine wKp [(0, _), (4, _), (24, _)] ⟨rfl, rfl, rfl, trivial⟩ ?_
  refine wCd rfl (fun g2 => ?_) (fun g2 => ?_)
  · try simp only [sQ1, sQ2, sQ3, sQ4, sQ5, sQ6, sQ7, sQ8, ne_eq] at g2
    refine w_skip ?_
    refine thn_n ?_
    refine w_block ?_
    refine w_region ?_
    refine xMv ?_
    refine oX (w_nilCheck rfl rfl rfl ?_)
    refine oX (wFA rfl rfl fo128x1 rfl ?_)
    refine oX (w_load1 rfl rfl lk3 rfl (atL 0 rfl rfl rfl) ?_)
    refine oX (w_add rfl rfl rfl rfl (by first | exact wrI64 (by omega) (by omega) | rfl) ?_)
    refine oX (w_nilCheck rfl rfl rfl ?_)
    refine oX (wFA rfl rfl fo128x1 rfl ?_)
    refine oX (w_store [_] 0 [_, _] rfl rfl sz3 rfl rfl rfl rfl rfl rfl rfl rfl ?_)
    refine inB_n ?_
    obtain ⟨c, hc, hn⟩ := some_true g2
    exact rnd_n (k + 1) (by have := lt_of_get hc; omega) ⟨rfl, by have := lt_of_get hc; omega, all_step (by simpa using hc) hn ha⟩ ⟨rfl, rfl, trivial⟩ rfl
  · try simp only [sQ1, sQ2, sQ3, sQ4, sQ5, sQ6, sQ7, sQ8, ne_eq] at g2
    have hw : word l i = (l.drop i).take k := word_end ha (fun c hc => by rw [hc] at g2; exact g2)
    have hwl : (word l i).length = k := by rw [hw, List.length_take, List.length_drop]; omega
    refine w_exit (thn_x (rnd_x (inB_hit (thn_n ?_))))
    refine wSR ?_
    refine xMv ?_
    refine oX (w_nilCheck rfl rfl rfl ?_)
    refine oX (wFA rfl rfl fo128x1 rfl ?_)
    refine oX (w_load1 rfl rfl lk3 rfl (atL 0 rfl rfl rfl) ?_)
    refine xMv ?_
    refine oX (w_sub rfl rfl rfl rfl (by first | exact wrI64 (by omega) (by omega) | rfl) ?_)
    refine xAs ?_
    refine wKp [(0, _), (4, _), (5, _), (24, _)] ⟨rfl, rfl, rfl, rfl, trivial⟩ ?_
    refine w_seq ?_
    refine w_draw (same _ _) mo (by kernel_rfl) ⟨rfl, rfl⟩ (fun _ _ => ?_)
    refine aTP 0 rfl (by kernel_rfl) rfl (fun D B L => w_move rfl rfl rfl ⟨rfl, rfl, rfl, rfl⟩) ?_
    refine aTk 1 rfl (by kernel_rfl) rfl (q_of fun D => w_nilCheck rfl rfl rfl ⟨rfl, rfl, rfl, rfl⟩) ?_
    refine aTk 2 rfl (by kernel_rfl) rfl (q_of fun D => wFA rfl rfl fo128x0 rfl ⟨rfl, rfl, rfl, rfl⟩) ?_
    refine aTk 3 rfl (by kernel_rfl) rfl (q_of fun D => w_load1 rfl rfl lk9 rfl (atL 0 rfl rfl rfl) ⟨rfl, rfl, rfl, rfl⟩) ?_
    refine aTP 4 rfl (by kernel_rfl) rfl (fun D B L => w_move rfl rfl rfl ⟨rfl, rfl, rfl, rfl⟩) ?_
    refine aTP 5 rfl (by kernel_rfl) rfl (fun D B L => w_move rfl rfl rfl ⟨rfl, rfl, rfl, rfl⟩) ?_
    refine aTk 6 rfl (by kernel_rfl) rfl (q_of fun D => w_nilCheck rfl rfl rfl ⟨rfl, rfl, rfl, rfl⟩) ?_
    refine aTk 7 rfl (by kernel_rfl) rfl (q_of fun D => wFA rfl rfl fo128x1 rfl ⟨rfl, rfl, rfl, rfl⟩) ?_
    refine aTk 8 rfl (by kernel_rfl) rfl (q_of fun D => w_load1 rfl rfl lk3 rfl (atL 0 rfl rfl rfl) ⟨rfl, rfl, rfl, rfl⟩) ?_
    refine aTk 9 rfl (by kernel_rfl) rfl (q_of fun D => w_sliceS rfl rfl Tryz.underlying9 rfl (a := i) (b := i + k) ⟨_, _, rfl, rfl⟩ ⟨_, _, rfl, by omega⟩ (by omega) (by omega) ⟨rfl, rfl, rfl, rfl⟩) ?_
    refine aTP 10 rfl (by kernel_rfl) rfl (fun D B L => w_move rfl rfl rfl ⟨rfl, rfl, rfl, rfl⟩) ?_
    refine aTk 11 rfl (by kernel_rfl) rfl (q_of fun D => w_geq rfl rfl rfl rfl ⟨rfl, rfl, rfl, rfl⟩) ?_
    refine aTP 12 rfl (by kernel_rfl) rfl (fun D B L => w_move rfl rfl rfl ⟨rfl, rfl, rfl, rfl⟩) ?_
    refine a_split (d := 50) rfl (fun g1 => ?_) (fun g1 => ?_)
    · try simp only [sQ1, sQ2, sQ3, sQ4, sQ5, sQ6, sQ7, sQ8, ne_eq] at g1
      refine aTP 13 rfl (by kernel_rfl) rfl (fun D B L => w_move rfl rfl rfl ⟨rfl, rfl, rfl, rfl⟩) ?_
      refine aTk 14 rfl (by kernel_rfl) rfl (q_of fun D => w_leq rfl rfl rfl rfl ⟨rfl, rfl, rfl, rfl⟩) ?_
      refine aTk 15 rfl (by kernel_rfl) rfl (q_of fun D => w_pickT rfl rfl rfl rfl ⟨rfl, rfl, rfl, rfl⟩) ?_
      refine aTP 16 rfl (by kernel_rfl) rfl (fun D B L => w_assign rfl rfl rfl ⟨rfl, rfl, rfl, rfl⟩) ?_
      refine aTP 17 rfl (by kernel_rfl) rfl (fun D B L => w_assign rfl rfl rfl ⟨rfl, rfl, rfl, rfl⟩) ?_
      refine any_done (by kernel_rfl) (by kernel_rfl) ?_
      refine thn_n ?_
      refine wKp [(0, _), (2, _), (3, _), (4, _), (5, _), (24, _)] ⟨rfl, rfl, rfl, rfl, rfl, rfl, trivial⟩ ?_
      refine w_ret ?_
      exact end1 .ret (.inl rfl) [_, _] 0 rfl ⟨rfl, rfl, trivial⟩ ⟨two_eq (by rw [drop_take_word, hw]) (bool_eq (by rw [Bool.eq_iff_iff]; simp [wordOk, hwl]; omega)), rfl, by rw [hwl]⟩
    · try simp only [sQ1, sQ2, sQ3, sQ4, sQ5, sQ6, sQ7, sQ8, ne_eq] at g1
      refine aTP 13 rfl (by kernel_rfl) rfl (fun D B L => w_pass rfl rfl ⟨rfl, rfl, rfl, rfl⟩) ?_
      refine aTk 14 rfl (by kernel_rfl) rfl (q_of fun D => w_pass rfl rfl ⟨rfl, rfl, rfl, rfl⟩) ?_
      refine aTk 15 rfl (by kernel_rfl) rfl (q_of fun D => w_pickF rfl rfl rfl rfl ⟨rfl, rfl, rfl, rfl⟩) ?_
      refine aTP 16 rfl (by kernel_rfl) rfl (fun D B L => w_assign rfl rfl rfl ⟨rfl, rfl, rfl, rfl⟩) ?_
      refine aTP 17 rfl (by kernel_rfl) rfl (fun D B L => w_assign rfl rfl rfl ⟨rfl, rfl, rfl, rfl⟩) ?_
      refine any_done (by kernel_rfl) (by kernel_rfl) ?_
      refine thn_n ?_
      refine wKp [(0, _), (2, _), (3, _), (4, _), (5, _), (24, _)] ⟨rfl, rfl, rfl, rfl, rfl, rfl, trivial⟩ ?_
      refine w_ret ?_
      exact end1 .ret (.inl rfl) [_, _] 0 rfl ⟨rfl, rfl, trivial⟩ ⟨two_eq (by rw [drop_take_word, hw]) (bool_eq (by rw [Bool.eq_iff_iff]; simp [wordOk, hwl]; omega)), rfl, by rw [hwl]⟩

set_option maxRecDepth 4000 in
set_option maxHeartbeats 400000 in
theorem domain_c (b : Nat) (l : List UInt8) (i : Nat) (hi : i ≤ l.length) (hl : l.length ≤ 2000000) (B : Kn) : Upd1 (pj J) 102 [ptr ⟨b, 0, none⟩] B (cur b l i) (.tuple #[str (domText l i), .bool (domOk l i)]) (cur b l (dom l i).2) := by
  refine cBB 53 Tryz.func102 rfl rfl rfl (Nat.le_of_ble_eq_true rfl) ?_
  refine wSR ?_
  refine xAs ?_
  refine xAs ?_
  refine wKp [(0, _), (2, _), (3, _)] ⟨rfl, rfl, rfl, trivial⟩ ?_
  refine wSR ?_
  refine xMv ?_
  refine oX (w_nilCheck rfl rfl rfl ?_)
  refine oX (wFA rfl rfl fo128x1 rfl ?_)
  refine oX (w_load1 rfl rfl lk3 rfl (atL 0 rfl rfl rfl) ?_)
  refine xAs ?_
  refine wKp [(0, _), (2, _), (3, _), (4, _)] ⟨rfl, rfl, rfl, rfl, trivial⟩ ?_
  refine w_seq ?_
  refine wSR ?_
  refine xMv ?_
  refine oX (w_upd1 0 rfl rfl rfl en151 rfl (name_c _ _ _ (by omega) (by omega) _) ?_)
  refine xMv ?_
  refine oX (w_extract rfl rfl rfl rfl ?_)
  refine oX (w_extract rfl rfl rfl rfl ?_)
  refine xAs ?_
  refine xAs ?_
  refine wTd [(0, _), (2, _), (3, _), (4, _), (6, _)] [_] ⟨rfl, rfl, rfl, rfl, rfl, trivial⟩ rfl ?_
  refine wSR ?_
  refine xMv ?_
  refine oX (w_not rfl rfl rfl ?_)
  refine wKp [(0, _), (2, _), (3, _), (4, _), (6, _), (20, _)] ⟨rfl, rfl, rfl, rfl, rfl, rfl, trivial⟩ ?_
  refine wCd rfl (fun g1 => ?_) (fun g1 => ?_)
  · try simp only [sQ1, sQ2, sQ3, sQ4, sQ5, sQ6, sQ7, sQ8, ne_eq] at g1
    refine wSR ?_
    refine xAs ?_
    refine xAs ?_
    refine wKp [(0, _), (2, _), (3, _), (4, _), (6, _), (20, _)] ⟨rfl, rfl, rfl, rfl, rfl, rfl, trivial⟩ ?_
    refine w_ret (thn_r ?_)
    exact end1 .ret (.inl rfl) [_, _] 0 rfl ⟨rfl, rfl, trivial⟩ ⟨two_eq (by simp [domText, dom_bad g1]) (bool_eq (by simp [domOk, dom_bad g1])), rfl, by rw [dom_bad g1]⟩
  · try simp only [sQ1, sQ2, sQ3, sQ4, sQ5, sQ6, sQ7, sQ8, ne_eq] at g1
    refine w_skip ?_
    refine thn_n ?_
    refine w_seq ?_
    refine wSR ?_
    refine xAs ?_
    refine wKp [(0, _), (2, _), (3, _), (4, _), (6, _), (7, _), (20, _)] ⟨rfl, rfl, rfl, rfl, rfl, rfl, rfl, trivial⟩ ?_
    refine w_block ?_
    refine w_loop (α := Nat × Nat) (fun x => [(0, ptr ⟨b, 0, none⟩), (4, .int .i64 i), (7, .int .i64 x.1)]) (fun x => [cur b l x.2]) (fun x Bx => Bx = B ∧ 1 ≤ x.1 ∧ x.1 ≤ 3 ∧ i ≤ x.2 ∧ x.2 ≤ l.length ∧ dom l i = more (3 - x.1) l x.2) (fun x => 3 - x.1) (1, i + (word l i).length) ⟨rfl, rfl, rfl, trivial⟩ rfl (⟨rfl, by omega, by omega, by omega, word_le hi, dom_good g1⟩) (fun x B1 hle1 hI => ?_)
    obtain ⟨rfl, hk1, hk3, hix, hxl, hd⟩ := hI
    refine w_seq ?_
    refine wSR ?_
    refine xMv ?_
    refine oX (w_lss rfl rfl rfl rfl ?_)
    refine xMv ?_
    refine r_split (d := 23) rfl (fun g2 => ?_) (fun g2 => ?_)
    · try simp only [sQ1, sQ2, sQ3, sQ4, sQ5, sQ6, sQ7, sQ8, ne_eq] at g2
      refine xMv ?_
      refine oX (w_upd1 0 rfl rfl rfl en152 rfl (take_c _ _ _ (by omega) (by omega) 46 _) ?_)
      refine oX (w_pickT rfl rfl rfl rfl ?_)
      refine wTd [(0, _), (4, _), (7, _), (26, _)] [_] ⟨rfl, rfl, rfl, rfl, trivial⟩ rfl ?_
      refine wCd rfl (fun g3 => ?_) (fun g3 => ?_)
      · try simp only [sQ1, sQ2, sQ3, sQ4, sQ5, sQ6, sQ7, sQ8, ne_eq] at g3
        rw [if_pos g3]
        have hx2 := lt_of_get g3
        refine w_skip ?_
        refine thn_n ?_
        refine w_seq ?_
        refine w_block ?_
        refine wSR ?_
        refine xMv ?_
        refine oX (w_upd1 0 rfl rfl rfl en151 rfl (name_c _ _ _ (by omega) (by omega) _) ?_)
        refine xMv ?_
        refine oX (w_extract rfl rfl rfl rfl ?_)
        refine oX (w_extract rfl rfl rfl rfl ?_)
        refine xAs ?_
        refine xAs ?_
        refine wTd [(0, _), (4, _), (7, _), (9, _), (26, _)] [_] ⟨rfl, rfl, rfl, rfl, rfl, trivial⟩ rfl ?_
        refine wSR ?_
        refine xMv ?_
        refine oX (w_not rfl rfl rfl ?_)
        refine wKp [(0, _), (4, _), (7, _), (9, _), (26, _), (35, _)] ⟨rfl, rfl, rfl, rfl, rfl, rfl, trivial⟩ ?_
        refine wCd rfl (fun g4 => ?_) (fun g4 => ?_)
        · try simp only [sQ1, sQ2, sQ3, sQ4, sQ5, sQ6, sQ7, sQ8, ne_eq] at g4
          refine wSR ?_
          refine xAs ?_
          refine xAs ?_
          refine wKp [(0, _), (2, _), (3, _), (4, _), (7, _), (9, _), (26, _), (35, _)] ⟨rfl, rfl, rfl, rfl, rfl, rfl, rfl, rfl, trivial⟩ ?_
          refine w_ret (inB_r (thn_r (rnd_r (inB_r (thn_r ?_)))))
          have hdd := hd.trans (more_bad (by omega) g3 g4)
          exact end1 .ret (.inl rfl) [_, _] 0 rfl ⟨rfl, rfl, trivial⟩ ⟨two_eq (by simp [domText, hdd]) (bool_eq (by simp [domOk, hdd])), rfl, by rw [hdd]⟩
        · try simp only [sQ1, sQ2, sQ3, sQ4, sQ5, sQ6, sQ7, sQ8, ne_eq] at g4
          refine w_skip ?_
          refine inB_n (thn_n ?_)
          refine w_region ?_
          refine xMv ?_
          refine oX (w_add rfl rfl rfl rfl (by first | exact wrI64 (by omega) (by omega) | rfl) ?_)
          refine xAs ?_
          exact rnd_n (x.1 + 1, x.2 + 1 + (word l (x.2 + 1)).length) (by simp only []; omega) ⟨rfl, by simp only []; omega, by simp only []; omega, by simp only []; omega, word_le (by omega), by rw [hd, more_good (by omega) g3 g4]; rw [show 3 - (x.1 + 1) = 3 - x.1 - 1 from by omega]⟩ ⟨rfl, rfl, rfl, trivial⟩ rfl
      · try simp only [sQ1, sQ2, sQ3, sQ4, sQ5, sQ6, sQ7, sQ8, ne_eq] at g3
        rw [if_neg g3]
        replace hd := hd.trans (more_stop g3)
        refine w_exit (thn_x (rnd_x (inB_hit (thn_n ?_))))
        refine w_seq ?_
        refine w_draw (same _ _) mo (by kernel_rfl) ⟨rfl, rfl⟩ (fun _ _ => ?_)
        refine aTP 0 rfl (by kernel_rfl) rfl (fun D B L => w_move rfl rfl rfl ⟨rfl, rfl, rfl, rfl⟩) ?_
        refine aTk 1 rfl (by kernel_rfl) rfl (q_of fun D => w_nilCheck rfl rfl rfl ⟨rfl, rfl, rfl, rfl⟩) ?_
        refine aTk 2 rfl (by kernel_rfl) rfl (q_of fun D => wFA rfl rfl fo128x0 rfl ⟨rfl, rfl, rfl, rfl⟩) ?_
        refine aTk 3 rfl (by kernel_rfl) rfl (q_of fun D => w_load1 rfl rfl lk9 rfl (atL 0 rfl rfl rfl) ⟨rfl, rfl, rfl, rfl⟩) ?_
        refine aTP 4 rfl (by kernel_rfl) rfl (fun D B L => w_move rfl rfl rfl ⟨rfl, rfl, rfl, rfl⟩) ?_
        refine aTP 5 rfl (by kernel_rfl) rfl (fun D B L => w_move rfl rfl rfl ⟨rfl, rfl, rfl, rfl⟩) ?_
        refine aTk 6 rfl (by kernel_rfl) rfl (q_of fun D => w_nilCheck rfl rfl rfl ⟨rfl, rfl, rfl, rfl⟩) ?_
        refine aTk 7 rfl (by kernel_rfl) rfl (q_of fun D => wFA rfl rfl fo128x1 rfl ⟨rfl, rfl, rfl, rfl⟩) ?_
        refine aTk 8 rfl (by kernel_rfl) rfl (q_of fun D => w_load1 rfl rfl lk3 rfl (atL 0 rfl rfl rfl) ⟨rfl, rfl, rfl, rfl⟩) ?_
        refine aTk 9 rfl (by kernel_rfl) rfl (q_of fun D => w_sliceS rfl rfl Tryz.underlying9 rfl (a := i) (b := x.2) ⟨_, _, rfl, rfl⟩ ⟨_, _, rfl, rfl⟩ (by omega) (by omega) ⟨rfl, rfl, rfl, rfl⟩) ?_
        refine aTP 10 rfl (by kernel_rfl) rfl (fun D B L => w_move rfl rfl rfl ⟨rfl, rfl, rfl, rfl⟩) ?_
        refine aTk 11 rfl (by kernel_rfl) rfl (q_of fun D => w_nilCheck rfl rfl rfl ⟨rfl, rfl, rfl, rfl⟩) ?_
        refine aTk 12 rfl (by kernel_rfl) rfl (q_of fun D => wFA rfl rfl fo128x1 rfl ⟨rfl, rfl, rfl, rfl⟩) ?_
        refine aTk 13 rfl (by kernel_rfl) rfl (q_of fun D => w_load1 rfl rfl lk3 rfl (atL 0 rfl rfl rfl) ⟨rfl, rfl, rfl, rfl⟩) ?_
        refine aTP 14 rfl (by kernel_rfl) rfl (fun D B L => w_move rfl rfl rfl ⟨rfl, rfl, rfl, rfl⟩) ?_
        refine aTk 15 rfl (by kernel_rfl) rfl (q_of fun D => w_sub rfl rfl rfl rfl (by first | exact wrI64 (by omega) (by omega) | rfl) ⟨rfl, rfl, rfl, rfl⟩) ?_
        refine aTk 16 rfl (by kernel_rfl) rfl (q_of fun D => w_leq rfl rfl rfl rfl ⟨rfl, rfl, rfl, rfl⟩) ?_
        refine aTP 17 rfl (by kernel_rfl) rfl (fun D B L => w_assign rfl rfl rfl ⟨rfl, rfl, rfl, rfl⟩) ?_
        refine aTP 18 rfl (by kernel_rfl) rfl (fun D B L => w_assign rfl rfl rfl ⟨rfl, rfl, rfl, rfl⟩) ?_
        refine any_done (by kernel_rfl) (by kernel_rfl) ?_
        refine thn_n ?_
        refine wKp [(0, _), (2, _), (3, _), (4, _), (7, _), (26, _)] ⟨rfl, rfl, rfl, rfl, rfl, rfl, trivial⟩ ?_
        refine w_ret ?_
        exact end1 .ret (.inl rfl) [_, _] 0 rfl ⟨rfl, rfl, trivial⟩ ⟨two_eq (by simp [domText, hd]) (bool_eq (by rw [Bool.eq_iff_iff]; simp [domOk, hd]; omega)), rfl, by rw [hd]⟩
    · try simp only [sQ1, sQ2, sQ3, sQ4, sQ5, sQ6, sQ7, sQ8, ne_eq] at g2
      replace hd : dom l i = (true, x.2) := hd.trans (by rw [show 3 - x.1 = 0 from by omega]; rfl)
      refine oX (w_pass rfl rfl ?_)
      refine oX (w_pass rfl rfl ?_)
      refine oX (w_pickF rfl rfl rfl rfl ?_)
      refine wKp [(0, _), (4, _), (7, _), (26, _)] ⟨rfl, rfl, rfl, rfl, trivial⟩ ?_
      refine wCd (t := false) rfl (fun h => Bool.noConfusion h) (fun _ => ?_)
      refine w_exit (thn_x (rnd_x (inB_hit (thn_n ?_))))
      refine w_seq ?_
      refine w_draw (same _ _) mo (by kernel_rfl) ⟨rfl, rfl⟩ (fun _ _ => ?_)
      refine aTP 0 rfl (by kernel_rfl) rfl (fun D B L => w_move rfl rfl rfl ⟨rfl, rfl, rfl, rfl⟩) ?_
      refine aTk 1 rfl (by kernel_rfl) rfl (q_of fun D => w_nilCheck rfl rfl rfl ⟨rfl, rfl, rfl, rfl⟩) ?_
      refine aTk 2 rfl (by kernel_rfl) rfl (q_of fun D => wFA rfl rfl fo128x0 rfl ⟨rfl, rfl, rfl, rfl⟩) ?_
      refine aTk 3 rfl (by kernel_rfl) rfl (q_of fun D => w_load1 rfl rfl lk9 rfl (atL 0 rfl rfl rfl) ⟨rfl, rfl, rfl, rfl⟩) ?_
      refine aTP 4 rfl (by kernel_rfl) rfl (fun D B L => w_move rfl rfl rfl ⟨rfl, rfl, rfl, rfl⟩) ?_
      refine aTP 5 rfl (by kernel_rfl) rfl (fun D B L => w_move rfl rfl rfl ⟨rfl, rfl, rfl, rfl⟩) ?_
      refine aTk 6 rfl (by kernel_rfl) rfl (q_of fun D => w_nilCheck rfl rfl rfl ⟨rfl, rfl, rfl, rfl⟩) ?_
      refine aTk 7 rfl (by kernel_rfl) rfl (q_of fun D => wFA rfl rfl fo128x1 rfl ⟨rfl, rfl, rfl, rfl⟩) ?_
      refine aTk 8 rfl (by kernel_rfl) rfl (q_of fun D => w_load1 rfl rfl lk3 rfl (atL 0 rfl rfl rfl) ⟨rfl, rfl, rfl, rfl⟩) ?_
      refine aTk 9 rfl (by kernel_rfl) rfl (q_of fun D => w_sliceS rfl rfl Tryz.underlying9 rfl (a := i) (b := x.2) ⟨_, _, rfl, rfl⟩ ⟨_, _, rfl, rfl⟩ (by omega) (by omega) ⟨rfl, rfl, rfl, rfl⟩) ?_
      refine aTP 10 rfl (by kernel_rfl) rfl (fun D B L => w_move rfl rfl rfl ⟨rfl, rfl, rfl, rfl⟩) ?_
      refine aTk 11 rfl (by kernel_rfl) rfl (q_of fun D => w_nilCheck rfl rfl rfl ⟨rfl, rfl, rfl, rfl⟩) ?_
      refine aTk 12 rfl (by kernel_rfl) rfl (q_of fun D => wFA rfl rfl fo128x1 rfl ⟨rfl, rfl, rfl, rfl⟩) ?_
      refine aTk 13 rfl (by kernel_rfl) rfl (q_of fun D => w_load1 rfl rfl lk3 rfl (atL 0 rfl rfl rfl) ⟨rfl, rfl, rfl, rfl⟩) ?_
      refine aTP 14 rfl (by kernel_rfl) rfl (fun D B L => w_move rfl rfl rfl ⟨rfl, rfl, rfl, rfl⟩) ?_
      refine aTk 15 rfl (by kernel_rfl) rfl (q_of fun D => w_sub rfl rfl rfl rfl (by first | exact wrI64 (by omega) (by omega) | rfl) ⟨rfl, rfl, rfl, rfl⟩) ?_
      refine aTk 16 rfl (by kernel_rfl) rfl (q_of fun D => w_leq rfl rfl rfl rfl ⟨rfl, rfl, rfl, rfl⟩) ?_
      refine aTP 17 rfl (by kernel_rfl) rfl (fun D B L => w_assign rfl rfl rfl ⟨rfl, rfl, rfl, rfl⟩) ?_
      refine aTP 18 rfl (by kernel_rfl) rfl (fun D B L => w_assign rfl rfl rfl ⟨rfl, rfl, rfl, rfl⟩) ?_
      refine any_done (by kernel_rfl) (by kernel_rfl) ?_
      refine thn_n ?_
      refine wKp [(0, _), (2, _), (3, _), (4, _), (7, _), (26, _)] ⟨rfl, rfl, rfl, rfl, rfl, rfl, trivial⟩ ?_
      refine w_ret ?_
      exact end1 .ret (.inl rfl) [_, _] 0 rfl ⟨rfl, rfl, trivial⟩ ⟨two_eq (by simp [domText, hd]) (bool_eq (by rw [Bool.eq_iff_iff]; simp [domOk, hd]; omega)), rfl, by rw [hd]⟩

set_option maxRecDepth 4000 in
set_option maxHeartbeats 400000 in
theorem implName_c (l : List UInt8) (hl : l.length ≤ 2000000) (B : Kn) : RetB (pj J) 115 [str l] B (.bool (nameOk l)) := by
  refine cBB 16 Tryz.func115 rfl rfl rfl (Nat.le_of_ble_eq_true rfl) ?_
  refine wSR ?_
  refine xAs ?_
  refine wKp [(0, _), (2, _)] ⟨rfl, rfl, trivial⟩ ?_
  refine wSR ?_
  refine xMv ?_
  refine oX (w_build (parts := [(0, _)]) [_, _] [_, _] rfl rfl pl128 zo128 rfl rfl rfl ?_)
  refine oX (w_alloc (l := [_, _]) rfl rfl zo128 rfl (fun b0 => ?_))
  refine oX (w_store [_, _] 0 [_, _] rfl rfl sz128 rfl rfl rfl rfl rfl rfl rfl rfl ?_)
  refine wTd [(0, _), (2, _), (3, _)] [_] ⟨rfl, rfl, rfl, trivial⟩ rfl ?_
  refine wSR ?_
  refine oX (w_upd1 0 rfl rfl rfl en151 rfl (name_c _ _ 0 (by omega) hl _) ?_)
  refine xMv ?_
  refine oX (w_extract rfl rfl rfl rfl ?_)
  refine oX (w_extract rfl rfl rfl rfl ?_)
  refine xAs ?_
  refine xAs ?_
  refine wTd [(0, _), (2, _), (3, _), (5, _)] [_] ⟨rfl, rfl, rfl, rfl, trivial⟩ rfl ?_
  refine wSR ?_
  refine xMv ?_
  refine xMv ?_
  refine r_split (d := 13) rfl (fun g1 => ?_) (fun g1 => ?_)
  · try simp only [sQ1, sQ2, sQ3, sQ4, sQ5, sQ6, sQ7, sQ8, ne_eq] at g1
    refine oX (w_ret1 0 rfl rfl rfl en103 rfl (done_c _ _ (0 + (word l 0).length) (word_le (Nat.zero_le _)) (by omega) _) ?_)
    refine oX (w_pickT rfl rfl rfl rfl ?_)
    refine xAs ?_
    refine wKp [(0, _), (2, _), (3, _), (5, _)] ⟨rfl, rfl, rfl, rfl, trivial⟩ ?_
    refine w_ret ?_
    exact end0 .ret (.inl rfl) [_] ⟨rfl, trivial⟩ ⟨bool_eq (by rw [nameOk_word]; simp [g1]; try omega), rfl, rfl⟩
  · try simp only [sQ1, sQ2, sQ3, sQ4, sQ5, sQ6, sQ7, sQ8, ne_eq] at g1
    refine oX (w_pass rfl rfl ?_)
    refine oX (w_pickF rfl rfl rfl rfl ?_)
    refine xAs ?_
    refine wKp [(0, _), (2, _), (3, _), (5, _)] ⟨rfl, rfl, rfl, rfl, trivial⟩ ?_
    refine w_ret ?_
    exact end0 .ret (.inl rfl) [_] ⟨rfl, trivial⟩ ⟨bool_eq (by rw [nameOk_word]; simp [g1]; try omega), rfl, rfl⟩

abbrev VecS (s : Cells) (q : Option Addr) (m cp : Nat) (ls : List (List UInt8)) : Prop := VecL s q m cp 9 1 (ls.map str)
theorem vecS_snoc {s : Cells} {q : Option Addr} {m cp : Nat} {ls : List (List UInt8)} {a : List UInt8} (h : VecL s q m cp 9 1 (ls.map str ++ [str a])) : VecS s q m cp (ls ++ [a]) := by
  unfold VecS
  rw [List.map_append]
  exact h
set_option maxRecDepth 4000 in
set_option maxHeartbeats 400000 in
theorem l1Cut_c (l : List UInt8) (hl : l.length ≤ 2000000) (x0 : UInt8) (B : Kn) : New1 (pj J) 123 [str l, .int .u8 x0.toNat] B (fun v s => ∃ q cp, v = .slice q (cut x0 l).length cp ∧ VecS s q (cut x0 l).length cp (cut x0 l)) := by
  refine cBB 35 Tryz.func123 rfl rfl rfl (Nat.le_of_ble_eq_true rfl) ?_
  refine wSR ?_
  refine xAs ?_
  refine wKp [(0, _), (1, _), (4, _)] ⟨rfl, rfl, rfl, trivial⟩ ?_
  refine wSR ?_
  refine oX (wBS (parts := []) [] rfl rfl Tryz.underlying98 sz9 zo9 rfl rfl rfl rfl rfl (fun b0 => ?_))
  refine xAs ?_
  refine wTd [(0, _), (1, _), (4, _), (5, _)] [_] ⟨rfl, rfl, rfl, rfl, trivial⟩ rfl ?_
  refine wSR ?_
  refine xAs ?_
  refine wKp [(0, _), (1, _), (4, _), (5, _), (6, _)] ⟨rfl, rfl, rfl, rfl, rfl, trivial⟩ ?_
  refine w_seq ?_
  refine wSR ?_
  refine xAs ?_
  refine wKp [(0, _), (1, _), (4, _), (5, _), (6, _), (7, _)] ⟨rfl, rfl, rfl, rfl, rfl, rfl, trivial⟩ ?_
  refine w_block ?_
  refine w_loop (α := CutSt) (fun x => [(0, str l), (1, .int .u8 x0.toNat), (5, .slice x.q x.m x.cp), (6, .int .i64 x.f), (7, .int .i64 x.i)]) (fun x => [x.s]) (fun x Bx => Bx = B ∧ x.f ≤ x.i ∧ x.i ≤ l.length ∧ x.m ≤ x.i ∧ x.m = x.ps.length ∧ VecS x.s x.q x.m x.cp x.ps ∧ cut x0 l = x.ps ++ glue ((l.take x.i).drop x.f) (cut x0 (l.drop x.i))) (fun x => l.length - x.i) ⟨0, 0, 0, [], some ⟨b0, 0, none⟩, 0, box1 b0 [] 9⟩ ⟨rfl, rfl, rfl, rfl, rfl, trivial⟩ rfl (⟨rfl, Nat.le_refl _, Nat.zero_le _, Nat.le_refl _, rfl, VecL.lit rfl, by simp [glue_nil (cut_ne x0 l)]⟩) (fun x B1 hle1 hI => ?_)
  obtain ⟨rfl, hf, hi, hn, hm, hv, hc⟩ := hI
  refine w_seq ?_
  refine wSR ?_
  refine xMv ?_
  refine xMv ?_
  refine oX (w_lenS rfl rfl Tryz.underlying9 rfl ?_)
  refine oX (w_lss rfl rfl rfl rfl ?_)
  refine wKp [(0, _), (1, _), (5, _), (6, _), (7, _), (12, _)] ⟨rfl, rfl, rfl, rfl, rfl, rfl, trivial⟩ ?_
  refine wCd rfl (fun g1 => ?_) (fun g1 => ?_)
  · try simp only [sQ1, sQ2, sQ3, sQ4, sQ5, sQ6, sQ7, sQ8, ne_eq] at g1
    obtain ⟨c, hx⟩ : ∃ c, l[x.i]? = some c := ⟨_, List.getElem?_eq_getElem (by omega)⟩
    refine w_skip ?_
    refine thn_n ?_
    refine w_seq ?_
    refine w_block ?_
    refine wSR ?_
    refine xMv ?_
    refine xMv ?_
    refine oX (w_index rfl rfl Tryz.underlying9 rfl rfl (by omega) hx ?_)
    refine xMv ?_
    refine oX (w_eqlI rfl rfl rfl rfl ?_)
    refine wKp [(0, _), (1, _), (5, _), (6, _), (7, _), (12, _), (19, _)] ⟨rfl, rfl, rfl, rfl, rfl, rfl, rfl, trivial⟩ ?_
    refine wCd rfl (fun g2 => ?_) (fun g2 => ?_)
    · try simp only [sQ1, sQ2, sQ3, sQ4, sQ5, sQ6, sQ7, sQ8, ne_eq] at g2
      refine wSR ?_
      refine xMv ?_
      refine xMv ?_
      refine xMv ?_
      refine xMv ?_
      refine oX (w_sliceS rfl rfl Tryz.underlying9 rfl (a := x.f) (b := x.i) ⟨_, _, rfl, rfl⟩ ⟨_, _, rfl, rfl⟩ (by omega) (by omega) ?_)
      refine oX (wBS (parts := [(0, _)]) [_] rfl rfl Tryz.underlying98 sz9 zo9 rfl rfl rfl rfl rfl (fun b1 => ?_))
      refine oX (w_append 0 rfl (hv) rfl rfl eo98 su98 rfl rfl (SrcAt.box 1 rfl) rfl rfl (by omega) (fun l1 p1 c1 hv1 => ?_))
      refine xAs ?_
      refine wTd [(0, _), (1, _), (5, _), (6, _), (7, _), (12, _), (19, _)] [_, _] ⟨rfl, rfl, rfl, rfl, rfl, rfl, rfl, trivial⟩ rfl ?_
      refine w_sel [0] rfl ?_
      refine w_region ?_
      refine xMv ?_
      refine oX (w_add rfl rfl rfl rfl (by first | exact wrI64 (by omega) (by omega) | rfl) ?_)
      refine xAs ?_
      refine inB_n (thn_n ?_)
      refine w_region ?_
      refine xMv ?_
      refine oX (w_add rfl rfl rfl rfl (by first | exact wrI64 (by omega) (by omega) | rfl) ?_)
      refine xAs ?_
      exact rnd_n ⟨x.i + 1, x.i + 1, x.m + 1, x.ps ++ [(l.take x.i).drop x.f], p1, c1, l1⟩ (by simp only []; omega) ⟨rfl, Nat.le_refl _, by simp only []; omega, by simp only []; omega, by simp [hm], vecS_snoc hv1, by rw [hc, cut_hit hx (u8_eq g2), List.append_assoc]; simp [glue_hit, glue_nil (cut_ne x0 _)]⟩ ⟨rfl, rfl, rfl, rfl, rfl, trivial⟩ rfl
    · try simp only [sQ1, sQ2, sQ3, sQ4, sQ5, sQ6, sQ7, sQ8, ne_eq] at g2
      refine w_skip ?_
      refine inB_n (thn_n ?_)
      refine w_region ?_
      refine xMv ?_
      refine oX (w_add rfl rfl rfl rfl (by first | exact wrI64 (by omega) (by omega) | rfl) ?_)
      refine xAs ?_
      exact rnd_n ⟨x.i + 1, x.f, x.m, x.ps, x.q, x.cp, x.s⟩ (by simp only []; omega) ⟨rfl, by simp only []; omega, by simp only []; omega, by simp only []; omega, hm, hv, by rw [hc, cut_miss hx (u8_ne g2), glue_glue, take_more hx hf]⟩ ⟨rfl, rfl, rfl, rfl, rfl, trivial⟩ rfl
  · try simp only [sQ1, sQ2, sQ3, sQ4, sQ5, sQ6, sQ7, sQ8, ne_eq] at g1
    obtain hie : x.i = l.length := by omega
    rw [hie, List.take_length, List.drop_length] at hc
    refine w_exit (thn_x (rnd_x (inB_hit (thn_n ?_))))
    refine wSR ?_
    refine xMv ?_
    refine xMv ?_
    refine xMv ?_
    refine oX (w_sliceS rfl rfl Tryz.underlying9 rfl (a := x.f) (b := l.length) ⟨_, _, rfl, rfl⟩ rfl (by omega) (by omega) ?_)
    refine oX (wBS (parts := [(0, _)]) [_] rfl rfl Tryz.underlying98 sz9 zo9 rfl rfl rfl rfl rfl (fun b1 => ?_))
    refine oX (w_append 0 rfl (hv) rfl rfl eo98 su98 rfl rfl (SrcAt.box 1 rfl) rfl rfl (by omega) (fun l2 p2 c2 hv2 => ?_))
    refine xAs ?_
    refine wTd [(0, _), (1, _), (4, _), (5, _), (6, _), (7, _), (12, _)] [_, _] ⟨rfl, rfl, rfl, rfl, rfl, rfl, rfl, trivial⟩ rfl ?_
    refine w_ret ?_
    have he : cut x0 l = x.ps ++ [l.drop x.f] := by rw [hc]; simp [cut, glue]
    have hlen : (cut x0 l).length = x.m + 1 := by rw [he]; simp [hm]
    exact endN .ret (.inl rfl) [_] [0] rfl ⟨rfl, trivial⟩ ⟨rfl, _, rfl, p2, c2, by rw [hlen]; rfl, by rw [hlen, he]; rw [List.take_length] at hv2; exact vecS_snoc hv2⟩

set_option maxRecDepth 4000 in
set_option maxHeartbeats 400000 in
theorem specDomain_c (l : List UInt8) (hl : l.length ≤ 2000000) (B : Kn) : RetB (pj J) 64 [str l] B (.bool (specDom l)) := by
  refine cBB 27 Tryz.func64 rfl rfl rfl (Nat.le_of_ble_eq_true rfl) ?_
  refine wSR ?_
  refine xAs ?_
  refine wKp [(0, _), (2, _)] ⟨rfl, rfl, trivial⟩ ?_
  refine wSR ?_
  refine xMv ?_
  refine oX (w_new1 rfl rfl en123 rfl (l1Cut_c _ hl 46 _) ?_)
  rintro _ s ⟨q, cp, rfl, hv⟩
  refine xAs ?_
  refine wTd [(0, _), (2, _), (3, _)] [_] ⟨rfl, rfl, rfl, trivial⟩ rfl ?_
  refine w_seq ?_
  refine wSR ?_
  refine xAs ?_
  refine wKp [(0, _), (2, _), (3, _), (4, _)] ⟨rfl, rfl, rfl, rfl, trivial⟩ ?_
  refine w_block ?_
  refine w_loop (α := Nat) (fun k => [(0, str l), (3, .slice q (cut 46 l).length cp), (4, .int .i64 k)]) (fun k => [s]) (fun k Bx => Bx = B ∧ k ≤ (cut 46 l).length ∧ ((cut 46 l).take k).all nameOk = true) (fun k => (cut 46 l).length - k) 0 ⟨rfl, rfl, rfl, trivial⟩ rfl (⟨rfl, Nat.zero_le _, by simp⟩) (fun k B1 hle1 hI => ?_)
  obtain ⟨rfl, hk, ha⟩ := hI
  have hcc := cut_count 46 l
  refine w_seq ?_
  refine wSR ?_
  refine xMv ?_
  refine xMv ?_
  refine oX (w_lenV rfl rfl Tryz.underlying98 rfl ?_)
  refine oX (w_lss rfl rfl rfl rfl ?_)
  refine wKp [(0, _), (3, _), (4, _), (10, _)] ⟨rfl, rfl, rfl, rfl, trivial⟩ ?_
  refine wCd rfl (fun g1 => ?_) (fun g1 => ?_)
  · try simp only [sQ1, sQ2, sQ3, sQ4, sQ5, sQ6, sQ7, sQ8, ne_eq] at g1
    obtain ⟨y, hy⟩ : ∃ y, (cut 46 l)[k]? = some y := ⟨_, List.getElem?_eq_getElem (by omega)⟩
    have hyl := cut_len 46 l y (List.mem_of_getElem? hy)
    obtain ⟨a, rfl, hsp, hat⟩ := hv.at (B := B1) (L := [s]) (i := k) (v := str y) 0 rfl (by rw [List.getElem?_map, hy]; rfl)
    refine w_skip ?_
    refine thn_n ?_
    refine w_seq ?_
    refine w_block ?_
    refine wSR ?_
    refine xMv ?_
    refine xMv ?_
    refine oX (w_indexAddr rfl rfl Tryz.underlying98 sz9 rfl rfl (by omega) (by omega) ?_)
    refine oX (w_load1 rfl rfl lk9 rfl (atMul1 hat) ?_)
    refine oX (w_retB rfl rfl en124 rfl (specName_c _ (by omega) _) ?_)
    refine oX (w_not rfl rfl rfl ?_)
    refine wKp [(0, _), (3, _), (4, _), (10, _), (18, _)] ⟨rfl, rfl, rfl, rfl, rfl, trivial⟩ ?_
    refine wCd rfl (fun g2 => ?_) (fun g2 => ?_)
    · try simp only [sQ1, sQ2, sQ3, sQ4, sQ5, sQ6, sQ7, sQ8, ne_eq] at g2
      refine wSR ?_
      refine xAs ?_
      refine wKp [(0, _), (2, _), (3, _), (4, _), (10, _), (18, _)] ⟨rfl, rfl, rfl, rfl, rfl, rfl, trivial⟩ ?_
      refine w_ret (inB_r (thn_r (rnd_r (inB_r (thn_r ?_)))))
      exact end0 .ret (.inl rfl) [_] ⟨rfl, trivial⟩ ⟨bool_eq (by simp [specDom, all_stop2 hy g2]), rfl, rfl⟩
    · try simp only [sQ1, sQ2, sQ3, sQ4, sQ5, sQ6, sQ7, sQ8, ne_eq] at g2
      refine w_skip ?_
      refine inB_n (thn_n ?_)
      refine w_region ?_
      refine xMv ?_
      refine oX (w_add rfl rfl rfl rfl (by first | exact wrI64 (by omega) (by omega) | rfl) ?_)
      refine xAs ?_
      exact rnd_n (k + 1) (by omega) ⟨rfl, by omega, all_step2 hy g2 ha⟩ ⟨rfl, rfl, rfl, trivial⟩ rfl
  · try simp only [sQ1, sQ2, sQ3, sQ4, sQ5, sQ6, sQ7, sQ8, ne_eq] at g1
    obtain hke : k = (cut 46 l).length := by omega
    rw [hke, List.take_length] at ha
    refine w_exit (thn_x (rnd_x (inB_hit (thn_n ?_))))
    refine wSR ?_
    refine xMv ?_
    refine oX (w_lenV rfl rfl Tryz.underlying98 rfl ?_)
    refine oX (w_leq rfl rfl rfl rfl ?_)
    refine xMv ?_
    refine r_split (d := 22) rfl (fun g3 => ?_) (fun g3 => ?_)
    · try simp only [sQ1, sQ2, sQ3, sQ4, sQ5, sQ6, sQ7, sQ8, ne_eq] at g3
      refine xMv ?_
      refine oX (w_lenS rfl rfl Tryz.underlying9 rfl ?_)
      refine oX (w_leq rfl rfl rfl rfl ?_)
      refine oX (w_pickT rfl rfl rfl rfl ?_)
      refine xAs ?_
      refine wKp [(0, _), (2, _), (3, _), (4, _), (10, _)] ⟨rfl, rfl, rfl, rfl, rfl, trivial⟩ ?_
      refine w_ret ?_
      exact end0 .ret (.inl rfl) [_] ⟨rfl, trivial⟩ ⟨bool_eq (by rw [Bool.eq_iff_iff]; simp [specDom, ha]; omega), rfl, rfl⟩
    · try simp only [sQ1, sQ2, sQ3, sQ4, sQ5, sQ6, sQ7, sQ8, ne_eq] at g3
      refine oX (w_pass rfl rfl ?_)
      refine oX (w_pass rfl rfl ?_)
      refine oX (w_pass rfl rfl ?_)
      refine oX (w_pickF rfl rfl rfl rfl ?_)
      refine xAs ?_
      refine wKp [(0, _), (2, _), (3, _), (4, _), (10, _)] ⟨rfl, rfl, rfl, rfl, rfl, trivial⟩ ?_
      refine w_ret ?_
      exact end0 .ret (.inl rfl) [_] ⟨rfl, trivial⟩ ⟨bool_eq (by rw [Bool.eq_iff_iff]; simp [specDom, ha]; omega), rfl, rfl⟩

set_option maxRecDepth 4000 in
set_option maxHeartbeats 400000 in
theorem l14Find_c (q : Option Addr) (cp : Nat) (us : List DUser) (u : Str) (B : Kn) (hu : SlK B q cp 3 UserR us) : RetB (pj J) 70 [.slice q us.length cp, str u] B (.int .i64 (idxU us u)) := by
  refine cBB 20 Tryz.func70 rfl rfl rfl (Nat.le_of_ble_eq_true rfl) ?_
  have hun := hu.len
  refine wSR ?_
  refine xAs ?_
  refine wKp [(0, _), (1, _), (4, _)] ⟨rfl, rfl, rfl, trivial⟩ ?_
  refine w_seq ?_
  refine wSR ?_
  refine xAs ?_
  refine wKp [(0, _), (1, _), (4, _), (5, _)] ⟨rfl, rfl, rfl, rfl, trivial⟩ ?_
  refine w_block ?_
  refine w_loopE (α := Nat) [0, 1] (fun k => [(5, .int .i64 k)]) [] (fun k => []) (fun k Bx => Bx = B ∧ k ≤ us.length ∧ ∀ x, x ∈ us.take k → x.name ≠ u) (fun k => us.length - k) 0 ⟨rfl, trivial⟩ rfl (⟨rfl, Nat.zero_le _, by simp⟩) (fun k B1 hle1 hI => ?_)
  obtain ⟨rfl, hk, ha⟩ := hI
  refine wTd [(0, _), (1, _), (5, _)] [] ⟨rfl, rfl, rfl, trivial⟩ rfl ?_
  refine w_seq ?_
  refine wSR ?_
  refine xMv ?_
  refine xMv ?_
  refine oX (w_lenV rfl rfl Tryz.underlying23 rfl ?_)
  refine oX (w_lss rfl rfl rfl rfl ?_)
  refine wKp [(0, _), (1, _), (5, _), (9, _)] ⟨rfl, rfl, rfl, rfl, trivial⟩ ?_
  refine wCd rfl (fun g1 => ?_) (fun g1 => ?_)
  · try simp only [sQ1, sQ2, sQ3, sQ4, sQ5, sQ6, sQ7, sQ8, ne_eq] at g1
    refine w_skip ?_
    refine thn_n ?_
    refine w_seq ?_
    refine w_block ?_
    refine wSR ?_
    refine xMv ?_
    refine xMv ?_
    obtain ⟨x, hx⟩ := getLt (xs := us) (i := k) (by first | omega | (simp; done) | (simp; omega))
    obtain ⟨bb3, oo3, rfl⟩ := hu.base hx
    obtain ⟨_, ⟨rfl, hb4, hb4b⟩, hc4⟩ := hu.elem hx
    refine oX (w_ixB rfl rfl Tryz.underlying23 sz44 rfl rfl (by first | omega | (simp; done) | (simp; omega)) (by first | omega | (simp; done) | (simp; omega)) ?_)
    refine oX (wFA rfl rfl fo44x0 rfl ?_)
    refine oX (w_load1 rfl rfl lk9 rfl (hc4 _ 0 _ rfl) ?_)
    refine xMv ?_
    refine oX (w_eqlS rfl rfl rfl rfl ?_)
    refine wKp [(0, _), (1, _), (5, _), (9, _), (18, _)] ⟨rfl, rfl, rfl, rfl, rfl, trivial⟩ ?_
    refine wCd rfl (fun g2 => ?_) (fun g2 => ?_)
    · try simp only [sQ1, sQ2, sQ3, sQ4, sQ5, sQ6, sQ7, sQ8, ne_eq] at g2
      refine wSR ?_
      refine xMv ?_
      refine xAs ?_
      refine wKp [(0, _), (1, _), (4, _), (5, _), (9, _), (18, _)] ⟨rfl, rfl, rfl, rfl, rfl, rfl, trivial⟩ ?_
      refine w_ret (inB_r (thn_r (rndE_r (inB_r (thn_r ?_)))))
      exact end0 .ret (.inl rfl) [_] ⟨rfl, trivial⟩ ⟨int_eq (idxU_hit hx g2 ha).symm, rfl, rfl⟩
    · try simp only [sQ1, sQ2, sQ3, sQ4, sQ5, sQ6, sQ7, sQ8, ne_eq] at g2
      refine w_skip ?_
      refine inB_n (thn_n ?_)
      refine w_region ?_
      refine xMv ?_
      refine oX (w_add rfl rfl rfl rfl (by first | exact wrI64 (by first | omega | (simp; done) | (simp; omega)) (by first | omega | (simp; done) | (simp; omega)) | rfl) ?_)
      refine xAs ?_
      exact rndE_n (k + 1) [] (by first | omega | (simp only []; omega)) ⟨rfl, by omega, all_next hx ha g2⟩ ⟨rfl, rfl, rfl, trivial⟩ rfl
  · try simp only [sQ1, sQ2, sQ3, sQ4, sQ5, sQ6, sQ7, sQ8, ne_eq] at g1
    refine w_exit (thn_x (rndE_x (inB_hit (thn_n ?_))))
    refine wSR ?_
    refine xAs ?_
    refine wKp [(0, _), (1, _), (4, _), (5, _), (9, _)] ⟨rfl, rfl, rfl, rfl, rfl, trivial⟩ ?_
    refine w_ret ?_
    exact end0 .ret (.inl rfl) [_] ⟨rfl, trivial⟩ ⟨int_eq (idxU_none (take_end (by omega) ha)).symm, rfl, rfl⟩

set_option maxRecDepth 4000 in
set_option maxHeartbeats 400000 in
theorem eqStringS_c (q q' : Option Addr) (cp cp' : Nat) (xs ys : List Str) (B : Kn) (ha : SlK B q cp 1 StrR xs) (hb : SlK B q' cp' 1 StrR ys) : RetB (pj J) 218 [.slice q xs.length cp, .slice q' ys.length cp'] B (.bool (decide (xs = ys))) := by
  refine cBB 26 Tryz.func218 rfl rfl rfl (Nat.le_of_ble_eq_true rfl) ?_
  have han := ha.len
  have hbn := hb.len
  refine wSR ?_
  refine xAs ?_
  refine wKp [(0, _), (1, _), (4, _)] ⟨rfl, rfl, rfl, trivial⟩ ?_
  refine w_seq ?_
  refine wSR ?_
  refine xMv ?_
  refine oX (w_lenV rfl rfl Tryz.underlying98 rfl ?_)
  refine xMv ?_
  refine oX (w_lenV rfl rfl Tryz.underlying98 rfl ?_)
  refine oX (w_neqI rfl rfl rfl rfl ?_)
  refine wKp [(0, _), (1, _), (4, _), (10, _)] ⟨rfl, rfl, rfl, rfl, trivial⟩ ?_
  refine wCd rfl (fun g1 => ?_) (fun g1 => ?_)
  · try simp only [sQ1, sQ2, sQ3, sQ4, sQ5, sQ6, sQ7, sQ8, ne_eq] at g1
    refine wSR ?_
    refine xAs ?_
    refine wKp [(0, _), (1, _), (4, _), (10, _)] ⟨rfl, rfl, rfl, rfl, trivial⟩ ?_
    refine w_ret (thn_r ?_)
    exact end0 .ret (.inl rfl) [_] ⟨rfl, trivial⟩ ⟨bool_eq (eqF_len g1), rfl, rfl⟩
  · try simp only [sQ1, sQ2, sQ3, sQ4, sQ5, sQ6, sQ7, sQ8, ne_eq] at g1
    refine w_skip ?_
    refine thn_n ?_
    refine w_seq ?_
    refine wSR ?_
    refine xAs ?_
    refine wKp [(0, _), (1, _), (4, _), (5, _), (10, _)] ⟨rfl, rfl, rfl, rfl, rfl, trivial⟩ ?_
    refine w_block ?_
    refine w_loopE (α := Nat) [0, 1, 10] (fun k => [(5, .int .i64 k)]) [] (fun k => []) (fun k Bx => Bx = B ∧ k ≤ xs.length ∧ xs.take k = ys.take k) (fun k => xs.length - k) 0 ⟨rfl, trivial⟩ rfl (⟨rfl, Nat.zero_le _, by simp⟩) (fun k B1 hle1 hI => ?_)
    obtain ⟨rfl, hk, he⟩ := hI
    refine wTd [(0, _), (1, _), (5, _), (10, _)] [] ⟨rfl, rfl, rfl, rfl, trivial⟩ rfl ?_
    refine w_seq ?_
    refine wSR ?_
    refine xMv ?_
    refine xMv ?_
    refine oX (w_lenV rfl rfl Tryz.underlying98 rfl ?_)
    refine oX (w_lss rfl rfl rfl rfl ?_)
    refine wKp [(0, _), (1, _), (5, _), (10, _), (14, _)] ⟨rfl, rfl, rfl, rfl, rfl, trivial⟩ ?_
    refine wCd rfl (fun g2 => ?_) (fun g2 => ?_)
    · try simp only [sQ1, sQ2, sQ3, sQ4, sQ5, sQ6, sQ7, sQ8, ne_eq] at g2
      refine w_skip ?_
      refine thn_n ?_
      refine w_seq ?_
      refine w_block ?_
      refine w_seq ?_
      refine w_draw (same _ _) mo (by kernel_rfl) ⟨rfl, rfl⟩ (fun _ _ => ?_)
      refine aTP 0 rfl (by kernel_rfl) rfl (fun D B L => w_move rfl rfl rfl ⟨rfl, rfl, rfl, rfl⟩) ?_
      refine aTP 1 rfl (by kernel_rfl) rfl (fun D B L => w_move rfl rfl rfl ⟨rfl, rfl, rfl, rfl⟩) ?_
      obtain ⟨x, hx⟩ := getLt (xs := xs) (i := k) (by first | omega | (simp; done) | (simp; omega))
      obtain ⟨bb3, oo3, rfl⟩ := ha.base hx
      obtain ⟨_, ⟨rfl, hb4⟩, hc4⟩ := ha.elem hx
      refine aTk 2 rfl (by kernel_rfl) rfl (q_of fun D => w_ixB rfl rfl Tryz.underlying98 sz9 rfl rfl (by first | omega | (simp; done) | (simp; omega)) (by first | omega | (simp; done) | (simp; omega)) ⟨rfl, rfl, rfl, rfl⟩) ?_
      refine aTk 3 rfl (by kernel_rfl) rfl (q_of fun D => w_load1 rfl rfl lk9 rfl (hc4 _ 0 _ rfl) ⟨rfl, rfl, rfl, rfl⟩) ?_
      refine aTP 4 rfl (by kernel_rfl) rfl (fun D B L => w_move rfl rfl rfl ⟨rfl, rfl, rfl, rfl⟩) ?_
      refine aTP 5 rfl (by kernel_rfl) rfl (fun D B L => w_move rfl rfl rfl ⟨rfl, rfl, rfl, rfl⟩) ?_
      obtain ⟨y, hy⟩ := getLt (xs := ys) (i := k) (by first | omega | (simp; done) | (simp; omega))
      obtain ⟨bb6, oo6, rfl⟩ := hb.base hy
      obtain ⟨_, ⟨rfl, hb7⟩, hc7⟩ := hb.elem hy
      refine aTk 6 rfl (by kernel_rfl) rfl (q_of fun D => w_ixB rfl rfl Tryz.underlying98 sz9 rfl rfl (by first | omega | (simp; done) | (simp; omega)) (by first | omega | (simp; done) | (simp; omega)) ⟨rfl, rfl, rfl, rfl⟩) ?_
      refine aTk 7 rfl (by kernel_rfl) rfl (q_of fun D => w_load1 rfl rfl lk9 rfl (hc7 _ 0 _ rfl) ⟨rfl, rfl, rfl, rfl⟩) ?_
      refine aTk 8 rfl (by kernel_rfl) rfl (q_of fun D => w_neqS rfl rfl rfl rfl ⟨rfl, rfl, rfl, rfl⟩) ?_
      refine any_done (by kernel_rfl) (by kernel_rfl) ?_
      refine thn_n ?_
      refine wKp [(0, _), (1, _), (5, _), (10, _), (14, _), (25, _)] ⟨rfl, rfl, rfl, rfl, rfl, rfl, trivial⟩ ?_
      refine wCd rfl (fun g3 => ?_) (fun g3 => ?_)
      · try simp only [sQ1, sQ2, sQ3, sQ4, sQ5, sQ6, sQ7, sQ8, ne_eq] at g3
        refine wSR ?_
        refine xAs ?_
        refine wKp [(0, _), (1, _), (4, _), (5, _), (10, _), (14, _), (25, _)] ⟨rfl, rfl, rfl, rfl, rfl, rfl, rfl, trivial⟩ ?_
        refine w_ret (inB_r (thn_r (rndE_r (inB_r (thn_r ?_)))))
        exact end0 .ret (.inl rfl) [_] ⟨rfl, trivial⟩ ⟨bool_eq (eqF_elem hx hy g3), rfl, rfl⟩
      · try simp only [sQ1, sQ2, sQ3, sQ4, sQ5, sQ6, sQ7, sQ8, ne_eq] at g3
        refine w_skip ?_
        refine inB_n (thn_n ?_)
        refine w_region ?_
        refine xMv ?_
        refine oX (w_add rfl rfl rfl rfl (by first | exact wrI64 (by first | omega | (simp; done) | (simp; omega)) (by first | omega | (simp; done) | (simp; omega)) | rfl) ?_)
        refine xAs ?_
        exact rndE_n (k + 1) [] (by first | omega | (simp only []; omega)) ⟨rfl, by omega, take_eq_next hx hy g3 he⟩ ⟨rfl, rfl, rfl, rfl, trivial⟩ rfl
    · try simp only [sQ1, sQ2, sQ3, sQ4, sQ5, sQ6, sQ7, sQ8, ne_eq] at g2
      refine w_exit (thn_x (rndE_x (inB_hit (thn_n ?_))))
      refine wSR ?_
      refine xAs ?_
      refine wKp [(0, _), (1, _), (4, _), (5, _), (10, _), (14, _)] ⟨rfl, rfl, rfl, rfl, rfl, rfl, trivial⟩ ?_
      refine w_ret ?_
      exact end0 .ret (.inl rfl) [_] ⟨rfl, trivial⟩ ⟨bool_eq (eqT (by omega) (by omega) he), rfl, rfl⟩

set_option maxRecDepth 4000 in
set_option maxHeartbeats 400000 in
theorem l21Has_c (q : Option Addr) (cp : Nat) (xs : List Str) (u : Str) (B : Kn) (ha : SlK B q cp 1 StrR xs) : RetB (pj J) 213 [.slice q xs.length cp, str u] B (.bool (decide (u ∈ xs))) := by
  refine cBB 18 Tryz.func213 rfl rfl rfl (Nat.le_of_ble_eq_true rfl) ?_
  have han := ha.len
  refine wSR ?_
  refine xAs ?_
  refine wKp [(0, _), (1, _), (4, _)] ⟨rfl, rfl, rfl, trivial⟩ ?_
  refine w_seq ?_
  refine wSR ?_
  refine xAs ?_
  refine wKp [(0, _), (1, _), (4, _), (5, _)] ⟨rfl, rfl, rfl, rfl, trivial⟩ ?_
  refine w_block ?_
  refine w_loopE (α := Nat) [0, 1] (fun k => [(5, .int .i64 k)]) [] (fun k => []) (fun k Bx => Bx = B ∧ k ≤ xs.length ∧ ∀ x, x ∈ xs.take k → x ≠ u) (fun k => xs.length - k) 0 ⟨rfl, trivial⟩ rfl (⟨rfl, Nat.zero_le _, by simp⟩) (fun k B1 hle1 hI => ?_)
  obtain ⟨rfl, hk, hn⟩ := hI
  refine wTd [(0, _), (1, _), (5, _)] [] ⟨rfl, rfl, rfl, trivial⟩ rfl ?_
  refine w_seq ?_
  refine wSR ?_
  refine xMv ?_
  refine xMv ?_
  refine oX (w_lenV rfl rfl Tryz.underlying98 rfl ?_)
  refine oX (w_lss rfl rfl rfl rfl ?_)
  refine wKp [(0, _), (1, _), (5, _), (9, _)] ⟨rfl, rfl, rfl, rfl, trivial⟩ ?_
  refine wCd rfl (fun g1 => ?_) (fun g1 => ?_)
  · try simp only [sQ1, sQ2, sQ3, sQ4, sQ5, sQ6, sQ7, sQ8, ne_eq] at g1
    refine w_skip ?_
    refine thn_n ?_
    refine w_seq ?_
    refine w_block ?_
    refine wSR ?_
    refine xMv ?_
    refine xMv ?_
    obtain ⟨x, hx⟩ := getLt (xs := xs) (i := k) (by first | omega | (simp; done) | (simp; omega))
    obtain ⟨bb3, oo3, rfl⟩ := ha.base hx
    obtain ⟨_, ⟨rfl, hb4⟩, hc4⟩ := ha.elem hx
    refine oX (w_ixB rfl rfl Tryz.underlying98 sz9 rfl rfl (by first | omega | (simp; done) | (simp; omega)) (by first | omega | (simp; done) | (simp; omega)) ?_)
    refine oX (w_load1 rfl rfl lk9 rfl (hc4 _ 0 _ rfl) ?_)
    refine xMv ?_
    refine oX (w_eqlS rfl rfl rfl rfl ?_)
    refine wKp [(0, _), (1, _), (5, _), (9, _), (17, _)] ⟨rfl, rfl, rfl, rfl, rfl, trivial⟩ ?_
    refine wCd rfl (fun g2 => ?_) (fun g2 => ?_)
    · try simp only [sQ1, sQ2, sQ3, sQ4, sQ5, sQ6, sQ7, sQ8, ne_eq] at g2
      refine wSR ?_
      refine xAs ?_
      refine wKp [(0, _), (1, _), (4, _), (5, _), (9, _), (17, _)] ⟨rfl, rfl, rfl, rfl, rfl, rfl, trivial⟩ ?_
      refine w_ret (inB_r (thn_r (rndE_r (inB_r (thn_r ?_)))))
      exact end0 .ret (.inl rfl) [_] ⟨rfl, trivial⟩ ⟨bool_eq (memT hx g2), rfl, rfl⟩
    · try simp only [sQ1, sQ2, sQ3, sQ4, sQ5, sQ6, sQ7, sQ8, ne_eq] at g2
      refine w_skip ?_
      refine inB_n (thn_n ?_)
      refine w_region ?_
      refine xMv ?_
      refine oX (w_add rfl rfl rfl rfl (by first | exact wrI64 (by first | omega | (simp; done) | (simp; omega)) (by first | omega | (simp; done) | (simp; omega)) | rfl) ?_)
      refine xAs ?_
      exact rndE_n (k + 1) [] (by first | omega | (simp only []; omega)) ⟨rfl, by omega, all_next hx hn g2⟩ ⟨rfl, rfl, rfl, trivial⟩ rfl
  · try simp only [sQ1, sQ2, sQ3, sQ4, sQ5, sQ6, sQ7, sQ8, ne_eq] at g1
    refine w_exit (thn_x (rndE_x (inB_hit (thn_n ?_))))
    refine wSR ?_
    refine xAs ?_
    refine wKp [(0, _), (1, _), (4, _), (5, _), (9, _)] ⟨rfl, rfl, rfl, rfl, rfl, trivial⟩ ?_
    refine w_ret ?_
    exact end0 .ret (.inl rfl) [_] ⟨rfl, trivial⟩ ⟨bool_eq (memF (take_end (by omega) hn)), rfl, rfl⟩

set_option maxRecDepth 4000 in
set_option maxHeartbeats 400000 in
theorem l21Names_c (q : Option Addr) (cp : Nat) (xs : List Str) (B : Kn) (ha : SlK B q cp 1 StrR xs) : RetB (pj J) 180 [.slice q xs.length cp] B (.bool (namesOk xs)) := by
  refine cBB 29 Tryz.func180 rfl rfl rfl (Nat.le_of_ble_eq_true rfl) ?_
  have han := ha.len
  refine wSR ?_
  refine xAs ?_
  refine wKp [(0, _), (2, _)] ⟨rfl, rfl, trivial⟩ ?_
  refine w_seq ?_
  refine wSR ?_
  refine xAs ?_
  refine wKp [(0, _), (2, _), (3, _)] ⟨rfl, rfl, rfl, trivial⟩ ?_
  refine w_block ?_
  refine w_loopE (α := Nat) [0] (fun k => [(3, .int .i64 k)]) [] (fun k => []) (fun k Bx => Bx = B ∧ k ≤ xs.length ∧ (xs.take k).all nameOk = true ∧ (xs.take k).Nodup) (fun k => xs.length - k) 0 ⟨rfl, trivial⟩ rfl (⟨rfl, Nat.zero_le _, by simp, by simp⟩) (fun k B1 hle1 hI => ?_)
  obtain ⟨rfl, hk, hv, hn⟩ := hI
  refine wTd [(0, _), (3, _)] [] ⟨rfl, rfl, trivial⟩ rfl ?_
  refine w_seq ?_
  refine wSR ?_
  refine xMv ?_
  refine xMv ?_
  refine oX (w_lenV rfl rfl Tryz.underlying98 rfl ?_)
  refine oX (w_lss rfl rfl rfl rfl ?_)
  refine wKp [(0, _), (3, _), (7, _)] ⟨rfl, rfl, rfl, trivial⟩ ?_
  refine wCd rfl (fun g1 => ?_) (fun g1 => ?_)
  · try simp only [sQ1, sQ2, sQ3, sQ4, sQ5, sQ6, sQ7, sQ8, ne_eq] at g1
    refine w_skip ?_
    refine thn_n ?_
    refine w_seq ?_
    refine w_block ?_
    refine w_seq ?_
    refine w_draw (same _ _) mo (by kernel_rfl) ⟨rfl, rfl⟩ (fun _ _ => ?_)
    refine aTP 0 rfl (by kernel_rfl) rfl (fun D B L => w_move rfl rfl rfl ⟨rfl, rfl, rfl, rfl⟩) ?_
    refine aTP 1 rfl (by kernel_rfl) rfl (fun D B L => w_move rfl rfl rfl ⟨rfl, rfl, rfl, rfl⟩) ?_
    obtain ⟨x, hx⟩ := getLt (xs := xs) (i := k) (by first | omega | (simp; done) | (simp; omega))
    obtain ⟨bb3, oo3, rfl⟩ := ha.base hx
    obtain ⟨_, ⟨rfl, hb4⟩, hc4⟩ := ha.elem hx
    refine aTk 2 rfl (by kernel_rfl) rfl (q_of fun D => w_ixB rfl rfl Tryz.underlying98 sz9 rfl rfl (by first | omega | (simp; done) | (simp; omega)) (by first | omega | (simp; done) | (simp; omega)) ⟨rfl, rfl, rfl, rfl⟩) ?_
    refine aTk 3 rfl (by kernel_rfl) rfl (q_of fun D => w_load1 rfl rfl lk9 rfl (hc4 _ 0 _ rfl) ⟨rfl, rfl, rfl, rfl⟩) ?_
    refine aTk 4 rfl (by kernel_rfl) rfl (q_of fun D => w_retB rfl rfl en124 rfl (specName_c _ (by first | assumption | omega | (simp; done) | (simp; omega)) _) ⟨rfl, rfl, rfl, rfl⟩) ?_
    refine aTk 5 rfl (by kernel_rfl) rfl (q_of fun D => w_not rfl rfl rfl ⟨rfl, rfl, rfl, rfl⟩) ?_
    refine aTP 6 rfl (by kernel_rfl) rfl (fun D B L => w_move rfl rfl rfl ⟨rfl, rfl, rfl, rfl⟩) ?_
    refine a_split (d := 16) rfl (fun g2 => ?_) (fun g2 => ?_)
    · try simp only [sQ1, sQ2, sQ3, sQ4, sQ5, sQ6, sQ7, sQ8, ne_eq] at g2
      refine aTP 7 rfl (by kernel_rfl) rfl (fun D B L => w_pass rfl rfl ⟨rfl, rfl, rfl, rfl⟩) ?_
      refine aTP 8 rfl (by kernel_rfl) rfl (fun D B L => w_pass rfl rfl ⟨rfl, rfl, rfl, rfl⟩) ?_
      refine aTk 9 rfl (by kernel_rfl) rfl (q_of fun D => w_pass rfl rfl ⟨rfl, rfl, rfl, rfl⟩) ?_
      refine aTP 10 rfl (by kernel_rfl) rfl (fun D B L => w_pass rfl rfl ⟨rfl, rfl, rfl, rfl⟩) ?_
      refine aTP 11 rfl (by kernel_rfl) rfl (fun D B L => w_pass rfl rfl ⟨rfl, rfl, rfl, rfl⟩) ?_
      refine aTk 12 rfl (by kernel_rfl) rfl (q_of fun D => w_pass rfl rfl ⟨rfl, rfl, rfl, rfl⟩) ?_
      refine aTk 13 rfl (by kernel_rfl) rfl (q_of fun D => w_pass rfl rfl ⟨rfl, rfl, rfl, rfl⟩) ?_
      refine aTk 14 rfl (by kernel_rfl) rfl (q_of fun D => w_pass rfl rfl ⟨rfl, rfl, rfl, rfl⟩) ?_
      refine aTk 15 rfl (by kernel_rfl) rfl (q_of fun D => w_pickT rfl rfl rfl rfl ⟨rfl, rfl, rfl, rfl⟩) ?_
      refine any_done (by kernel_rfl) (by kernel_rfl) ?_
      refine thn_n ?_
      refine wKp [(0, _), (3, _), (7, _), (25, _)] ⟨rfl, rfl, rfl, rfl, trivial⟩ ?_
      refine wCd (t := true) rfl (fun _ => ?_) (fun h => Bool.noConfusion h)
      refine wSR ?_
      refine xAs ?_
      refine wKp [(0, _), (2, _), (3, _), (7, _), (25, _)] ⟨rfl, rfl, rfl, rfl, rfl, trivial⟩ ?_
      refine w_ret (inB_r (thn_r (rndE_r (inB_r (thn_r ?_)))))
      exact end0 .ret (.inl rfl) [_] ⟨rfl, trivial⟩ ⟨bool_eq (namesOk_bad1 hx g2), rfl, rfl⟩
    · try simp only [sQ1, sQ2, sQ3, sQ4, sQ5, sQ6, sQ7, sQ8, ne_eq] at g2
      refine aTP 7 rfl (by kernel_rfl) rfl (fun D B L => w_move rfl rfl rfl ⟨rfl, rfl, rfl, rfl⟩) ?_
      refine aTP 8 rfl (by kernel_rfl) rfl (fun D B L => w_move rfl rfl rfl ⟨rfl, rfl, rfl, rfl⟩) ?_
      obtain ⟨hq6, q6, cp6, hv6, hr6⟩ := ha.cutE 0 k (by first | omega | (simp; done) | (simp; omega)) (by first | omega | (simp; done) | (simp; omega))
      have hr6n := hr6.len
      refine aTk 9 rfl (by kernel_rfl) rfl (q_of fun D => w_cutV (a := 0) (b := k) hv6 (by first | omega | (simp; done) | (simp; omega)) hq6 rfl rfl Tryz.underlying98 sz9 rfl rfl ⟨_, _, rfl, by first | omega | (simp; done) | (simp; omega)⟩ ⟨rfl, rfl, rfl, rfl⟩) ?_
      refine aTP 10 rfl (by kernel_rfl) rfl (fun D B L => w_move rfl rfl rfl ⟨rfl, rfl, rfl, rfl⟩) ?_
      refine aTP 11 rfl (by kernel_rfl) rfl (fun D B L => w_move rfl rfl rfl ⟨rfl, rfl, rfl, rfl⟩) ?_
      refine aTk 12 rfl (by kernel_rfl) rfl (q_of fun D => w_ixB rfl rfl Tryz.underlying98 sz9 rfl rfl (by first | omega | (simp; done) | (simp; omega)) (by first | omega | (simp; done) | (simp; omega)) ⟨rfl, rfl, rfl, rfl⟩) ?_
      refine aTk 13 rfl (by kernel_rfl) rfl (q_of fun D => w_load1 rfl rfl lk9 rfl (hc4 _ 0 _ rfl) ⟨rfl, rfl, rfl, rfl⟩) ?_
      refine aTk 14 rfl (by kernel_rfl) rfl (q_of fun D => w_retB rfl rfl en213 rfl (l21Has_c _ _ _ _ _ hr6) ⟨rfl, rfl, rfl, rfl⟩) ?_
      refine aTk 15 rfl (by kernel_rfl) rfl (q_of fun D => w_pickF rfl rfl rfl rfl ⟨rfl, rfl, rfl, rfl⟩) ?_
      refine any_done (by kernel_rfl) (by kernel_rfl) ?_
      refine thn_n ?_
      refine wKp [(0, _), (3, _), (7, _), (25, _)] ⟨rfl, rfl, rfl, rfl, trivial⟩ ?_
      refine wCd rfl (fun g3 => ?_) (fun g3 => ?_)
      · try simp only [sQ1, sQ2, sQ3, sQ4, sQ5, sQ6, sQ7, sQ8, ne_eq] at g3
        refine wSR ?_
        refine xAs ?_
        refine wKp [(0, _), (2, _), (3, _), (7, _), (25, _)] ⟨rfl, rfl, rfl, rfl, rfl, trivial⟩ ?_
        refine w_ret (inB_r (thn_r (rndE_r (inB_r (thn_r ?_)))))
        exact end0 .ret (.inl rfl) [_] ⟨rfl, trivial⟩ ⟨bool_eq (namesOk_bad2 hx (by simpa using g3)), rfl, rfl⟩
      · try simp only [sQ1, sQ2, sQ3, sQ4, sQ5, sQ6, sQ7, sQ8, ne_eq] at g3
        refine w_skip ?_
        refine inB_n (thn_n ?_)
        refine w_region ?_
        refine xMv ?_
        refine oX (w_add rfl rfl rfl rfl (by first | exact wrI64 (by first | omega | (simp; done) | (simp; omega)) (by first | omega | (simp; done) | (simp; omega)) | rfl) ?_)
        refine xAs ?_
        exact rndE_n (k + 1) [] (by first | omega | (simp only []; omega)) ⟨rfl, by omega, all_step2 hx g2 hv, nd_next hx hn (by simpa using g3)⟩ ⟨rfl, rfl, trivial⟩ rfl
  · try simp only [sQ1, sQ2, sQ3, sQ4, sQ5, sQ6, sQ7, sQ8, ne_eq] at g1
    refine w_exit (thn_x (rndE_x (inB_hit (thn_n ?_))))
    refine wSR ?_
    refine xMv ?_
    refine oX (w_lenV rfl rfl Tryz.underlying98 rfl ?_)
    refine oX (w_leq rfl rfl rfl rfl ?_)
    refine xAs ?_
    refine wKp [(0, _), (2, _), (3, _), (7, _)] ⟨rfl, rfl, rfl, rfl, trivial⟩ ?_
    refine w_ret ?_
    exact end0 .ret (.inl rfl) [_] ⟨rfl, trivial⟩ ⟨bool_eq (namesOk_end (by omega) hv hn), rfl, rfl⟩

set_option maxRecDepth 4000 in
set_option maxHeartbeats 400000 in
theorem specLetter_c (q : Option Addr) (cp : Nat) (x : DLetter) (B : Kn) (ha : SlK B q cp 1 StrR x.to_) (h1 : x.fr.length ≤ 2000000) (h2 : x.text.length ≤ 2000000) : RetB (pj J) 126 [.agg #[str x.fr, .slice q x.to_.length cp, str x.text]] B (.bool (letterOk x)) := by
  refine cBB 23 Tryz.func126 rfl rfl rfl (Nat.le_of_ble_eq_true rfl) ?_
  refine wSR ?_
  refine oX (w_box (l := [_, _, _]) rfl rfl rfl rfl (fun b1 => ?_))
  refine xAs ?_
  refine wTd [(0, _), (1, _), (2, _)] [_] ⟨rfl, rfl, rfl, trivial⟩ rfl ?_
  refine wSR ?_
  refine oX (wFA rfl rfl fo138x0 rfl ?_)
  refine oX (w_load1 rfl rfl lk9 rfl (atL 0 rfl rfl rfl) ?_)
  refine oX (w_retB rfl rfl en124 rfl (specName_c _ (by first | assumption | omega | (simp; done) | (simp; omega)) _) ?_)
  refine xMv ?_
  refine r_split (d := 6) rfl (fun g1 => ?_) (fun g1 => ?_)
  · try simp only [sQ1, sQ2, sQ3, sQ4, sQ5, sQ6, sQ7, sQ8, ne_eq] at g1
    refine oX (wFA rfl rfl fo138x1 rfl ?_)
    refine oX (w_load1 rfl rfl lk98 rfl (atL 0 rfl rfl rfl) ?_)
    refine oX (w_retB rfl rfl en180 rfl (l21Names_c _ _ _ _ ha) ?_)
    refine oX (w_pickT rfl rfl rfl rfl ?_)
    refine xMv ?_
    refine r_split (d := 11) rfl (fun g2 => ?_) (fun g2 => ?_)
    · try simp only [sQ1, sQ2, sQ3, sQ4, sQ5, sQ6, sQ7, sQ8, ne_eq] at g2
      refine oX (wFA rfl rfl fo138x1 rfl ?_)
      refine oX (w_load1 rfl rfl lk98 rfl (atL 0 rfl rfl rfl) ?_)
      refine oX (w_lenV rfl rfl Tryz.underlying98 rfl ?_)
      refine oX (w_gtr rfl rfl rfl rfl ?_)
      refine oX (w_pickT rfl rfl rfl rfl ?_)
      refine xMv ?_
      refine r_split (d := 17) rfl (fun g3 => ?_) (fun g3 => ?_)
      · try simp only [sQ1, sQ2, sQ3, sQ4, sQ5, sQ6, sQ7, sQ8, ne_eq] at g3
        refine oX (wFA rfl rfl fo138x2 rfl ?_)
        refine oX (w_load1 rfl rfl lk9 rfl (atL 0 rfl rfl rfl) ?_)
        refine oX (w_lenS rfl rfl Tryz.underlying9 rfl ?_)
        refine oX (w_leq rfl rfl rfl rfl ?_)
        refine oX (w_pickT rfl rfl rfl rfl ?_)
        refine xAs ?_
        refine wKp [(0, _), (1, _), (2, _)] ⟨rfl, rfl, rfl, trivial⟩ ?_
        refine w_ret ?_
        exact end0 .ret (.inl rfl) [_] ⟨rfl, trivial⟩ ⟨bool_eq (by rw [Bool.eq_iff_iff]; simp [letterOk, g1, g2, g3]; try omega), rfl, rfl⟩
      · try simp only [sQ1, sQ2, sQ3, sQ4, sQ5, sQ6, sQ7, sQ8, ne_eq] at g3
        refine oX (w_pass rfl rfl ?_)
        refine oX (w_pass rfl rfl ?_)
        refine oX (w_pass rfl rfl ?_)
        refine oX (w_pass rfl rfl ?_)
        refine oX (w_pickF rfl rfl rfl rfl ?_)
        refine xAs ?_
        refine wKp [(0, _), (1, _), (2, _)] ⟨rfl, rfl, rfl, trivial⟩ ?_
        refine w_ret ?_
        exact end0 .ret (.inl rfl) [_] ⟨rfl, trivial⟩ ⟨bool_eq (by rw [Bool.eq_iff_iff]; simp [letterOk, g1, g2, g3]; try omega), rfl, rfl⟩
    · try simp only [sQ1, sQ2, sQ3, sQ4, sQ5, sQ6, sQ7, sQ8, ne_eq] at g2
      refine oX (w_pass rfl rfl ?_)
      refine oX (w_pass rfl rfl ?_)
      refine oX (w_pass rfl rfl ?_)
      refine oX (w_pass rfl rfl ?_)
      refine oX (w_pickF rfl rfl rfl rfl ?_)
      refine xMv ?_
      refine oX (w_pass rfl rfl ?_)
      refine oX (w_pass rfl rfl ?_)
      refine oX (w_pass rfl rfl ?_)
      refine oX (w_pass rfl rfl ?_)
      refine oX (w_pickF rfl rfl rfl rfl ?_)
      refine xAs ?_
      refine wKp [(0, _), (1, _), (2, _)] ⟨rfl, rfl, rfl, trivial⟩ ?_
      refine w_ret ?_
      exact end0 .ret (.inl rfl) [_] ⟨rfl, trivial⟩ ⟨bool_eq (by rw [Bool.eq_iff_iff]; simp [letterOk, g1, g2]; try omega), rfl, rfl⟩
  · try simp only [sQ1, sQ2, sQ3, sQ4, sQ5, sQ6, sQ7, sQ8, ne_eq] at g1
    refine oX (w_pass rfl rfl ?_)
    refine oX (w_pass rfl rfl ?_)
    refine oX (w_pass rfl rfl ?_)
    refine oX (w_pickF rfl rfl rfl rfl ?_)
    refine xMv ?_
    refine oX (w_pass rfl rfl ?_)
    refine oX (w_pass rfl rfl ?_)
    refine oX (w_pass rfl rfl ?_)
    refine oX (w_pass rfl rfl ?_)
    refine oX (w_pickF rfl rfl rfl rfl ?_)
    refine xMv ?_
    refine oX (w_pass rfl rfl ?_)
    refine oX (w_pass rfl rfl ?_)
    refine oX (w_pass rfl rfl ?_)
    refine oX (w_pass rfl rfl ?_)
    refine oX (w_pickF rfl rfl rfl rfl ?_)
    refine xAs ?_
    refine wKp [(0, _), (1, _), (2, _)] ⟨rfl, rfl, rfl, trivial⟩ ?_
    refine w_ret ?_
    exact end0 .ret (.inl rfl) [_] ⟨rfl, trivial⟩ ⟨bool_eq (by rw [Bool.eq_iff_iff]; simp [letterOk, g1]; try omega), rfl, rfl⟩

set_option maxRecDepth 4000 in
set_option maxHeartbeats 400000 in
theorem index_c (q : Option Addr) (cp : Nat) (xs : List Str) (v : Str) (B : Kn) (ha : SlK B q cp 1 StrR xs) : RetB (pj J) 226 [.slice q xs.length cp, str v] B (.int .i64 (idxS xs v)) := by
  refine cBB 19 Tryz.func226 rfl rfl rfl (Nat.le_of_ble_eq_true rfl) ?_
  have han := ha.len
  refine wSR ?_
  refine xAs ?_
  refine wKp [(0, _), (1, _), (4, _)] ⟨rfl, rfl, rfl, trivial⟩ ?_
  refine w_seq ?_
  refine wSR ?_
  refine xMv ?_
  refine oX (w_lenV rfl rfl Tryz.underlying98 rfl ?_)
  refine xMv ?_
  refine wKp [(0, _), (1, _), (4, _), (7, _), (8, _)] ⟨rfl, rfl, rfl, rfl, rfl, trivial⟩ ?_
  refine w_block ?_
  refine w_loopE (α := Nat) [0, 1, 7] (fun k => [(8, .int .i64 k)]) [] (fun k => []) (fun k Bx => Bx = B ∧ k ≤ xs.length ∧ ∀ x, x ∈ xs.take k → decide (x = v) = false) (fun k => xs.length - k) 0 ⟨rfl, trivial⟩ rfl (⟨rfl, Nat.zero_le _, by simp⟩) (fun k B1 hle1 hI => ?_)
  obtain ⟨rfl, hk, hn⟩ := hI
  refine wTd [(0, _), (1, _), (7, _), (8, _)] [] ⟨rfl, rfl, rfl, rfl, trivial⟩ rfl ?_
  refine wSR ?_
  refine oX (w_lss rfl rfl rfl rfl ?_)
  refine wKp [(0, _), (1, _), (7, _), (8, _), (9, _)] ⟨rfl, rfl, rfl, rfl, rfl, trivial⟩ ?_
  refine w_seq ?_
  refine wCd rfl (fun g1 => ?_) (fun g1 => ?_)
  · try simp only [sQ1, sQ2, sQ3, sQ4, sQ5, sQ6, sQ7, sQ8, ne_eq] at g1
    refine w_skip ?_
    refine thn_n ?_
    refine w_seq ?_
    refine w_block ?_
    refine wSR ?_
    refine xMv ?_
    refine xAs ?_
    refine wKp [(0, _), (1, _), (5, _), (7, _), (8, _), (9, _)] ⟨rfl, rfl, rfl, rfl, rfl, rfl, trivial⟩ ?_
    refine wSR ?_
    refine xMv ?_
    refine xMv ?_
    refine xMv ?_
    obtain ⟨x, hx⟩ := getLt (xs := xs) (i := k) (by first | omega | (simp; done) | (simp; omega))
    obtain ⟨bb3, oo3, rfl⟩ := ha.base hx
    obtain ⟨_, ⟨rfl, hb4⟩, hc4⟩ := ha.elem hx
    refine oX (w_ixB rfl rfl Tryz.underlying98 sz9 rfl rfl (by first | omega | (simp; done) | (simp; omega)) (by first | omega | (simp; done) | (simp; omega)) ?_)
    refine oX (w_load1 rfl rfl lk9 rfl (hc4 _ 0 _ rfl) ?_)
    refine oX (w_eqlS rfl rfl rfl rfl ?_)
    refine wKp [(0, _), (1, _), (5, _), (7, _), (8, _), (9, _), (16, _)] ⟨rfl, rfl, rfl, rfl, rfl, rfl, rfl, trivial⟩ ?_
    refine wCd rfl (fun g2 => ?_) (fun g2 => ?_)
    · try simp only [sQ1, sQ2, sQ3, sQ4, sQ5, sQ6, sQ7, sQ8, ne_eq] at g2
      refine wSR ?_
      refine xMv ?_
      refine xAs ?_
      refine wKp [(0, _), (1, _), (4, _), (5, _), (7, _), (8, _), (9, _), (16, _)] ⟨rfl, rfl, rfl, rfl, rfl, rfl, rfl, rfl, trivial⟩ ?_
      refine w_ret (inB_r (thn_r (rndE_r (inB_r (thn_r ?_)))))
      exact end0 .ret (.inl rfl) [_] ⟨rfl, trivial⟩ ⟨int_eq (idxP_hit hx (by simp [g2]) hn).symm, rfl, rfl⟩
    · try simp only [sQ1, sQ2, sQ3, sQ4, sQ5, sQ6, sQ7, sQ8, ne_eq] at g2
      refine w_skip ?_
      refine inB_n (thn_n ?_)
      refine w_region ?_
      refine oX (w_add rfl rfl rfl rfl (by first | exact wrI64 (by first | omega | (simp; done) | (simp; omega)) (by first | omega | (simp; done) | (simp; omega)) | rfl) ?_)
      refine xMv ?_
      exact rndE_n (k + 1) [] (by first | omega | (simp only []; omega)) ⟨rfl, by omega, all_next hx hn (by simp [Ne.symm g2])⟩ ⟨rfl, rfl, rfl, rfl, trivial⟩ rfl
  · try simp only [sQ1, sQ2, sQ3, sQ4, sQ5, sQ6, sQ7, sQ8, ne_eq] at g1
    refine w_exit (thn_x (rndE_x (inB_hit (thn_n ?_))))
    refine wSR ?_
    refine xAs ?_
    refine wKp [(0, _), (1, _), (4, _), (7, _), (8, _), (9, _)] ⟨rfl, rfl, rfl, rfl, rfl, rfl, trivial⟩ ?_
    refine w_ret ?_
    exact end0 .ret (.inl rfl) [_] ⟨rfl, trivial⟩ ⟨int_eq (idxP_none (take_end (by omega) hn)).symm, rfl, rfl⟩

set_option maxRecDepth 4000 in
set_option maxHeartbeats 400000 in
theorem contains_c (q : Option Addr) (cp : Nat) (xs : List Str) (v : Str) (B : Kn) (ha : SlK B q cp 1 StrR xs) : RetB (pj J) 200 [.slice q xs.length cp, str v] B (.bool (decide (v ∈ xs))) := by
  refine cBB 9 Tryz.func200 rfl rfl rfl (Nat.le_of_ble_eq_true rfl) ?_
  refine wSR ?_
  refine xAs ?_
  refine wKp [(0, _), (1, _), (4, _)] ⟨rfl, rfl, rfl, trivial⟩ ?_
  refine wSR ?_
  refine xMv ?_
  refine xMv ?_
  refine oX (w_retB rfl rfl en226 rfl (index_c _ _ _ _ _ ha) ?_)
  refine oX (w_geq rfl rfl rfl rfl ?_)
  refine xAs ?_
  refine wKp [(0, _), (1, _), (4, _)] ⟨rfl, rfl, rfl, trivial⟩ ?_
  refine w_ret ?_
  exact end0 .ret (.inl rfl) [_] ⟨rfl, trivial⟩ ⟨bool_eq (by rw [Bool.eq_iff_iff]; simp [idxS_mem]), rfl, rfl⟩

set_option maxRecDepth 4000 in
set_option maxHeartbeats 400000 in
theorem receivers_c (q : Option Addr) (cp : Nat) (xs : List Str) (B : Kn) (ha : SlK B q cp 1 StrR xs) : RetB (pj J) 153 [.slice q xs.length cp] B (.bool (decide (1 ≤ xs.length) && namesOk xs)) := by
  refine cBB 31 Tryz.func153 rfl rfl rfl (Nat.le_of_ble_eq_true rfl) ?_
  have han := ha.len
  refine wSR ?_
  refine xAs ?_
  refine wKp [(0, _), (2, _)] ⟨rfl, rfl, trivial⟩ ?_
  refine w_seq ?_
  refine wSR ?_
  refine xMv ?_
  refine oX (w_lenV rfl rfl Tryz.underlying98 rfl ?_)
  refine oX (w_lss rfl rfl rfl rfl ?_)
  refine xMv ?_
  refine r_split (d := 8) rfl (fun g1 => ?_) (fun g1 => ?_)
  · try simp only [sQ1, sQ2, sQ3, sQ4, sQ5, sQ6, sQ7, sQ8, ne_eq] at g1
    refine oX (w_pass rfl rfl ?_)
    refine oX (w_pass rfl rfl ?_)
    refine oX (w_pass rfl rfl ?_)
    refine oX (w_pickT rfl rfl rfl rfl ?_)
    refine wKp [(0, _), (2, _), (12, _)] ⟨rfl, rfl, rfl, trivial⟩ ?_
    refine wCd (t := true) rfl (fun _ => ?_) (fun h => Bool.noConfusion h)
    refine wSR ?_
    refine xAs ?_
    refine wKp [(0, _), (2, _), (12, _)] ⟨rfl, rfl, rfl, trivial⟩ ?_
    refine w_ret (thn_r ?_)
    exact end0 .ret (.inl rfl) [_] ⟨rfl, trivial⟩ ⟨bool_eq (by simp; omega), rfl, rfl⟩
  · try simp only [sQ1, sQ2, sQ3, sQ4, sQ5, sQ6, sQ7, sQ8, ne_eq] at g1
    refine xMv ?_
    refine oX (w_lenV rfl rfl Tryz.underlying98 rfl ?_)
    refine oX (w_gtr rfl rfl rfl rfl ?_)
    refine oX (w_pickF rfl rfl rfl rfl ?_)
    refine wKp [(0, _), (2, _), (12, _)] ⟨rfl, rfl, rfl, trivial⟩ ?_
    refine wCd rfl (fun g2 => ?_) (fun g2 => ?_)
    · try simp only [sQ1, sQ2, sQ3, sQ4, sQ5, sQ6, sQ7, sQ8, ne_eq] at g2
      refine wSR ?_
      refine xAs ?_
      refine wKp [(0, _), (2, _), (12, _)] ⟨rfl, rfl, rfl, trivial⟩ ?_
      refine w_ret (thn_r ?_)
      exact end0 .ret (.inl rfl) [_] ⟨rfl, trivial⟩ ⟨bool_eq (by simp [namesOk]; omega), rfl, rfl⟩
    · try simp only [sQ1, sQ2, sQ3, sQ4, sQ5, sQ6, sQ7, sQ8, ne_eq] at g2
      refine w_skip ?_
      refine thn_n ?_
      refine w_seq ?_
      refine wSR ?_
      refine xMv ?_
      refine oX (w_lenV rfl rfl Tryz.underlying98 rfl ?_)
      refine xMv ?_
      refine wKp [(0, _), (2, _), (12, _), (13, _), (14, _), (15, _)] ⟨rfl, rfl, rfl, rfl, rfl, rfl, trivial⟩ ?_
      refine w_block ?_
      refine w_loopE (α := Nat) [0, 12, 13, 14] (fun k => [(15, .int .i64 k)]) [] (fun k => []) (fun k Bx => Bx = B ∧ k ≤ xs.length ∧ (xs.take k).all nameOk = true ∧ (xs.take k).Nodup) (fun k => xs.length - k) 0 ⟨rfl, trivial⟩ rfl (⟨rfl, Nat.zero_le _, by simp, by simp⟩) (fun k B1 hle1 hI => ?_)
      obtain ⟨rfl, hk, hv, hn⟩ := hI
      refine wTd [(0, _), (12, _), (13, _), (14, _), (15, _)] [] ⟨rfl, rfl, rfl, rfl, rfl, trivial⟩ rfl ?_
      refine wSR ?_
      refine oX (w_lss rfl rfl rfl rfl ?_)
      refine wKp [(0, _), (12, _), (13, _), (14, _), (15, _), (16, _)] ⟨rfl, rfl, rfl, rfl, rfl, rfl, trivial⟩ ?_
      refine w_seq ?_
      refine wCd rfl (fun g3 => ?_) (fun g3 => ?_)
      · try simp only [sQ1, sQ2, sQ3, sQ4, sQ5, sQ6, sQ7, sQ8, ne_eq] at g3
        refine w_skip ?_
        refine thn_n ?_
        refine w_seq ?_
        refine w_block ?_
        refine wSR ?_
        refine xMv ?_
        obtain ⟨x, hx⟩ := getLt (xs := xs) (i := k) (by first | omega | (simp; done) | (simp; omega))
        obtain ⟨bb3, oo3, rfl⟩ := ha.base hx
        obtain ⟨_, ⟨rfl, hb4⟩, hc4⟩ := ha.elem hx
        refine oX (w_ixB rfl rfl Tryz.underlying98 sz9 rfl rfl (by first | omega | (simp; done) | (simp; omega)) (by first | omega | (simp; done) | (simp; omega)) ?_)
        refine oX (w_load1 rfl rfl lk9 rfl (hc4 _ 0 _ rfl) ?_)
        refine xAs ?_
        refine xAs ?_
        refine wKp [(0, _), (3, _), (4, _), (12, _), (13, _), (14, _), (15, _), (16, _)] ⟨rfl, rfl, rfl, rfl, rfl, rfl, rfl, rfl, trivial⟩ ?_
        refine wSR ?_
        refine xMv ?_
        refine oX (w_retB rfl rfl en115 rfl (implName_c _ (by first | assumption | omega | (simp; done) | (simp; omega)) _) ?_)
        refine oX (w_not rfl rfl rfl ?_)
        refine xMv ?_
        refine r_split (d := 23) rfl (fun g4 => ?_) (fun g4 => ?_)
        · try simp only [sQ1, sQ2, sQ3, sQ4, sQ5, sQ6, sQ7, sQ8, ne_eq] at g4
          refine oX (w_pass rfl rfl ?_)
          refine oX (w_pass rfl rfl ?_)
          refine oX (w_pass rfl rfl ?_)
          refine oX (w_pass rfl rfl ?_)
          refine oX (w_pass rfl rfl ?_)
          refine oX (w_pickT rfl rfl rfl rfl ?_)
          refine wKp [(0, _), (3, _), (4, _), (12, _), (13, _), (14, _), (15, _), (16, _), (29, _)] ⟨rfl, rfl, rfl, rfl, rfl, rfl, rfl, rfl, rfl, trivial⟩ ?_
          refine wCd (t := true) rfl (fun _ => ?_) (fun h => Bool.noConfusion h)
          refine wSR ?_
          refine xAs ?_
          refine wKp [(0, _), (2, _), (3, _), (4, _), (12, _), (13, _), (14, _), (15, _), (16, _), (29, _)] ⟨rfl, rfl, rfl, rfl, rfl, rfl, rfl, rfl, rfl, rfl, trivial⟩ ?_
          refine w_ret (inB_r (thn_r (rndE_r (inB_r (thn_r ?_)))))
          exact end0 .ret (.inl rfl) [_] ⟨rfl, trivial⟩ ⟨bool_eq (by rw [← namesOk_bad1 hx g4, Bool.and_false]), rfl, rfl⟩
        · try simp only [sQ1, sQ2, sQ3, sQ4, sQ5, sQ6, sQ7, sQ8, ne_eq] at g4
          refine xMv ?_
          refine xMv ?_
          obtain ⟨hq6, q6, cp6, hv6, hr6⟩ := ha.cutE 0 k (by first | omega | (simp; done) | (simp; omega)) (by first | omega | (simp; done) | (simp; omega))
          have hr6n := hr6.len
          refine oX (w_cutV (a := 0) (b := k) hv6 (by first | omega | (simp; done) | (simp; omega)) hq6 rfl rfl Tryz.underlying98 sz9 rfl rfl ⟨_, _, rfl, by first | omega | (simp; done) | (simp; omega)⟩ ?_)
          refine xMv ?_
          refine oX (w_retB rfl rfl en200 rfl (contains_c _ _ _ _ _ hr6) ?_)
          refine oX (w_pickF rfl rfl rfl rfl ?_)
          refine wKp [(0, _), (3, _), (4, _), (12, _), (13, _), (14, _), (15, _), (16, _), (29, _)] ⟨rfl, rfl, rfl, rfl, rfl, rfl, rfl, rfl, rfl, trivial⟩ ?_
          refine wCd rfl (fun g5 => ?_) (fun g5 => ?_)
          · try simp only [sQ1, sQ2, sQ3, sQ4, sQ5, sQ6, sQ7, sQ8, ne_eq] at g5
            refine wSR ?_
            refine xAs ?_
            refine wKp [(0, _), (2, _), (3, _), (4, _), (12, _), (13, _), (14, _), (15, _), (16, _), (29, _)] ⟨rfl, rfl, rfl, rfl, rfl, rfl, rfl, rfl, rfl, rfl, trivial⟩ ?_
            refine w_ret (inB_r (thn_r (rndE_r (inB_r (thn_r ?_)))))
            exact end0 .ret (.inl rfl) [_] ⟨rfl, trivial⟩ ⟨bool_eq (by rw [← namesOk_bad2 hx (by simpa using g5), Bool.and_false]), rfl, rfl⟩
          · try simp only [sQ1, sQ2, sQ3, sQ4, sQ5, sQ6, sQ7, sQ8, ne_eq] at g5
            refine w_skip ?_
            refine inB_n (thn_n ?_)
            refine w_region ?_
            refine oX (w_add rfl rfl rfl rfl (by first | exact wrI64 (by first | omega | (simp; done) | (simp; omega)) (by first | omega | (simp; done) | (simp; omega)) | rfl) ?_)
            refine xMv ?_
            exact rndE_n (k + 1) [] (by first | omega | (simp only []; omega)) ⟨rfl, by omega, all_step2 hx g4 hv, nd_next hx hn (by simpa using g5)⟩ ⟨rfl, rfl, rfl, rfl, rfl, trivial⟩ rfl
      · try simp only [sQ1, sQ2, sQ3, sQ4, sQ5, sQ6, sQ7, sQ8, ne_eq] at g3
        refine w_exit (thn_x (rndE_x (inB_hit (thn_n ?_))))
        refine wSR ?_
        refine xAs ?_
        refine wKp [(0, _), (2, _), (12, _), (13, _), (14, _), (15, _), (16, _)] ⟨rfl, rfl, rfl, rfl, rfl, rfl, rfl, trivial⟩ ?_
        refine w_ret ?_
        exact end0 .ret (.inl rfl) [_] ⟨rfl, trivial⟩ ⟨bool_eq (by rw [← namesOk_end (by omega) hv hn]; simp; omega), rfl, rfl⟩

set_option maxRecDepth 4000 in
set_option maxHeartbeats 400000 in
theorem implLetter_c (q : Option Addr) (cp : Nat) (x : DLetter) (B : Kn) (ha : SlK B q cp 1 StrR x.to_) (h1 : x.fr.length ≤ 2000000) (h2 : x.text.length ≤ 2000000) : RetB (pj J) 109 [.agg #[str x.fr, .slice q x.to_.length cp, str x.text]] B (.bool (letterOk x)) := by
  refine cBB 17 Tryz.func109 rfl rfl rfl (Nat.le_of_ble_eq_true rfl) ?_
  refine wSR ?_
  refine oX (w_box (l := [_, _, _]) rfl rfl rfl rfl (fun b1 => ?_))
  refine xAs ?_
  refine wTd [(0, _), (1, _), (2, _)] [_] ⟨rfl, rfl, rfl, trivial⟩ rfl ?_
  refine wSR ?_
  refine oX (wFA rfl rfl fo138x0 rfl ?_)
  refine oX (w_load1 rfl rfl lk9 rfl (atL 0 rfl rfl rfl) ?_)
  refine oX (w_retB rfl rfl en115 rfl (implName_c _ (by first | assumption | omega | (simp; done) | (simp; omega)) _) ?_)
  refine xMv ?_
  refine r_split (d := 6) rfl (fun g1 => ?_) (fun g1 => ?_)
  · try simp only [sQ1, sQ2, sQ3, sQ4, sQ5, sQ6, sQ7, sQ8, ne_eq] at g1
    refine oX (wFA rfl rfl fo138x1 rfl ?_)
    refine oX (w_load1 rfl rfl lk98 rfl (atL 0 rfl rfl rfl) ?_)
    refine oX (w_retB rfl rfl en153 rfl (receivers_c _ _ _ _ ha) ?_)
    refine oX (w_pickT rfl rfl rfl rfl ?_)
    refine xMv ?_
    refine r_split (d := 11) rfl (fun g2 => ?_) (fun g2 => ?_)
    · try simp only [sQ1, sQ2, sQ3, sQ4, sQ5, sQ6, sQ7, sQ8, ne_eq] at g2
      refine oX (wFA rfl rfl fo138x2 rfl ?_)
      refine oX (w_load1 rfl rfl lk9 rfl (atL 0 rfl rfl rfl) ?_)
      refine oX (w_lenS rfl rfl Tryz.underlying9 rfl ?_)
      refine oX (w_leq rfl rfl rfl rfl ?_)
      refine oX (w_pickT rfl rfl rfl rfl ?_)
      refine xAs ?_
      refine wKp [(0, _), (1, _), (2, _)] ⟨rfl, rfl, rfl, trivial⟩ ?_
      refine w_ret ?_
      exact end0 .ret (.inl rfl) [_] ⟨rfl, trivial⟩ ⟨bool_eq (by rw [letterOk_alt]; simp [g1, g2]), rfl, rfl⟩
    · try simp only [sQ1, sQ2, sQ3, sQ4, sQ5, sQ6, sQ7, sQ8, ne_eq] at g2
      refine oX (w_pass rfl rfl ?_)
      refine oX (w_pass rfl rfl ?_)
      refine oX (w_pass rfl rfl ?_)
      refine oX (w_pass rfl rfl ?_)
      refine oX (w_pickF rfl rfl rfl rfl ?_)
      refine xAs ?_
      refine wKp [(0, _), (1, _), (2, _)] ⟨rfl, rfl, rfl, trivial⟩ ?_
      refine w_ret ?_
      exact end0 .ret (.inl rfl) [_] ⟨rfl, trivial⟩ ⟨bool_eq (by rw [letterOk_alt]; simp [g1, g2]), rfl, rfl⟩
  · try simp only [sQ1, sQ2, sQ3, sQ4, sQ5, sQ6, sQ7, sQ8, ne_eq] at g1
    refine oX (w_pass rfl rfl ?_)
    refine oX (w_pass rfl rfl ?_)
    refine oX (w_pass rfl rfl ?_)
    refine oX (w_pickF rfl rfl rfl rfl ?_)
    refine xMv ?_
    refine oX (w_pass rfl rfl ?_)
    refine oX (w_pass rfl rfl ?_)
    refine oX (w_pass rfl rfl ?_)
    refine oX (w_pass rfl rfl ?_)
    refine oX (w_pickF rfl rfl rfl rfl ?_)
    refine xAs ?_
    refine wKp [(0, _), (1, _), (2, _)] ⟨rfl, rfl, rfl, trivial⟩ ?_
    refine w_ret ?_
    exact end0 .ret (.inl rfl) [_] ⟨rfl, trivial⟩ ⟨bool_eq (by rw [letterOk_alt]; simp [g1]), rfl, rfl⟩

set_option maxRecDepth 4000 in
set_option maxHeartbeats 400000 in
theorem specQueue_c (aq : Option Addr) (cq : Nat) (q : DQueue) (B : Kn) (hq : SlK B aq cq 4 ItemR q.items) : RetB (pj J) 66 [.agg #[.int .i64 q.next, .slice aq q.items.length cq]] B (.bool (queueOk q)) := by
  refine cBB 48 Tryz.func66 rfl rfl rfl (Nat.le_of_ble_eq_true rfl) ?_
  have hqn := hq.len
  refine wSR ?_
  refine oX (w_box (l := [_, _]) rfl rfl rfl rfl (fun b1 => ?_))
  refine xAs ?_
  refine wTd [(0, _), (1, _), (2, _)] [_] ⟨rfl, rfl, rfl, trivial⟩ rfl ?_
  refine wSR ?_
  refine xAs ?_
  refine wKp [(0, _), (1, _), (2, _), (3, _)] ⟨rfl, rfl, rfl, rfl, trivial⟩ ?_
  refine w_seq ?_
  refine wSR ?_
  refine xAs ?_
  refine wKp [(0, _), (1, _), (2, _), (3, _), (4, _)] ⟨rfl, rfl, rfl, rfl, rfl, trivial⟩ ?_
  refine w_block ?_
  refine w_loopE (α := Nat × Int) [0, 1] (fun p => [(3, .int .i64 p.2), (4, .int .i64 p.1)]) [] (fun p => []) (fun p Bx => Bx = B ∧ p.1 ≤ q.items.length ∧ scanQ 0 q.items = scanQ p.2 (q.items.drop p.1) ∧ 0 ≤ p.2 ∧ p.2 ≤ 99) (fun p => q.items.length - p.1) (0, 0) ⟨rfl, rfl, trivial⟩ rfl (⟨rfl, Nat.zero_le _, rfl, by decide, by decide⟩) (fun p B2 hle2 hI => ?_)
  obtain ⟨rfl, hk, hs, hl0, hl1⟩ := hI
  refine wTd [(0, _), (1, _), (3, _), (4, _)] [_] ⟨rfl, rfl, rfl, rfl, trivial⟩ rfl ?_
  refine w_seq ?_
  refine wSR ?_
  refine xMv ?_
  refine oX (wFA rfl rfl fo29x1 rfl ?_)
  refine oX (w_load1 rfl rfl lk27 rfl (atL 0 rfl rfl rfl) ?_)
  refine oX (w_lenV rfl rfl Tryz.underlying27 rfl ?_)
  refine oX (w_lss rfl rfl rfl rfl ?_)
  refine wKp [(0, _), (1, _), (3, _), (4, _), (10, _)] ⟨rfl, rfl, rfl, rfl, rfl, trivial⟩ ?_
  refine wCd rfl (fun g1 => ?_) (fun g1 => ?_)
  · try simp only [sQ1, sQ2, sQ3, sQ4, sQ5, sQ6, sQ7, sQ8, ne_eq] at g1
    refine w_skip ?_
    refine thn_n ?_
    refine w_seq ?_
    refine w_block ?_
    refine wSR ?_
    refine oX (wFA rfl rfl fo29x1 rfl ?_)
    refine oX (w_load1 rfl rfl lk27 rfl (atL 0 rfl rfl rfl) ?_)
    refine xMv ?_
    obtain ⟨x, hx⟩ := getLt (xs := q.items) (i := p.1) (by first | omega | (simp; done) | (simp; omega))
    obtain ⟨bb4, oo4, rfl⟩ := hq.base hx
    obtain ⟨_, ⟨qi5, ci5, rfl, hi5, hb5, hb5b⟩, hc5⟩ := hq.elem hx
    have hi5n := hi5.len
    refine oX (w_ixB rfl rfl Tryz.underlying27 sz100 rfl rfl (by first | omega | (simp; done) | (simp; omega)) (by first | omega | (simp; done) | (simp; omega)) ?_)
    replace hs := scan_step hs hx
    refine oX (w_loadN [_, _, _, _] rfl rfl lk100 rfl (rowK hc5 0 rfl rfl) ?_)
    refine oX (w_alloc (l := [_, _, _, _]) rfl rfl zo100 rfl (fun b6 => ?_))
    refine oX (w_store [_, _, _, _] 1 [_, _, _, _] rfl rfl sz100 rfl rfl rfl rfl rfl rfl rfl rfl ?_)
    refine wTd [(0, _), (1, _), (3, _), (4, _), (5, _), (10, _)] [_, _] ⟨rfl, rfl, rfl, rfl, rfl, rfl, trivial⟩ rfl ?_
    refine w_seq ?_
    refine wSR ?_
    refine oX (wFA rfl rfl fo100x0 rfl ?_)
    refine oX (w_load1 rfl rfl lk3 rfl (atL 1 rfl rfl rfl) ?_)
    refine xMv ?_
    refine oX (w_add rfl rfl rfl rfl (by first | exact wrI64 (by first | omega | (simp; done) | (simp; omega)) (by first | omega | (simp; done) | (simp; omega)) | rfl) ?_)
    refine oX (w_retB rfl rfl en125 rfl (l6In_c _ _ _ _) ?_)
    refine oX (w_not rfl rfl rfl ?_)
    refine xMv ?_
    refine r_split (d := 24) rfl (fun g2 => ?_) (fun g2 => ?_)
    · try simp only [sQ1, sQ2, sQ3, sQ4, sQ5, sQ6, sQ7, sQ8, ne_eq] at g2
      refine oX (w_pass rfl rfl ?_)
      refine oX (w_pass rfl rfl ?_)
      refine oX (w_pass rfl rfl ?_)
      refine oX (w_pass rfl rfl ?_)
      refine oX (w_pass rfl rfl ?_)
      refine oX (w_pass rfl rfl ?_)
      refine oX (w_pass rfl rfl ?_)
      refine oX (w_pass rfl rfl ?_)
      refine oX (w_pass rfl rfl ?_)
      refine oX (w_pickT rfl rfl rfl rfl ?_)
      refine wKp [(0, _), (1, _), (3, _), (4, _), (5, _), (10, _), (34, _)] ⟨rfl, rfl, rfl, rfl, rfl, rfl, rfl, trivial⟩ ?_
      refine wCd (t := true) rfl (fun _ => ?_) (fun h => Bool.noConfusion h)
      refine wSR ?_
      refine xAs ?_
      refine wKp [(0, _), (1, _), (2, _), (3, _), (4, _), (5, _), (10, _), (34, _)] ⟨rfl, rfl, rfl, rfl, rfl, rfl, rfl, rfl, trivial⟩ ?_
      refine w_ret (thn_r (inB_r (thn_r (rndE_r (inB_r (thn_r ?_))))))
      exact end0 .ret (.inl rfl) [_] ⟨rfl, trivial⟩ ⟨bool_eq (queueBad (by rw [hs, if_neg]; intro h; simp [h.1] at g2)), rfl, rfl⟩
    · try simp only [sQ1, sQ2, sQ3, sQ4, sQ5, sQ6, sQ7, sQ8, ne_eq] at g2
      simp only [Bool.and_eq_true, decide_eq_true_eq] at g2
      refine oX (wFA rfl rfl fo100x1 rfl ?_)
      refine oX (w_load1 rfl rfl lk9 rfl (atL 1 rfl rfl rfl) ?_)
      refine oX (wFA rfl rfl fo100x3 rfl ?_)
      refine oX (w_load1 rfl rfl lk98 rfl (atL 1 rfl rfl rfl) ?_)
      refine oX (wFA rfl rfl fo100x2 rfl ?_)
      refine oX (w_load1 rfl rfl lk9 rfl (atL 1 rfl rfl rfl) ?_)
      refine oX (w_build (parts := [(0, _), (1, _), (2, _)]) [_, _, _] [_, _, _] rfl rfl pl138 zo138 rfl rfl rfl ?_)
      refine oX (w_retB rfl rfl en126 rfl (specLetter_c _ _ ⟨x.fr, x.left, x.text⟩ _ hi5 (by first | assumption | omega) (by first | assumption | omega)) ?_)
      refine oX (w_not rfl rfl rfl ?_)
      refine oX (w_pickF rfl rfl rfl rfl ?_)
      refine wKp [(0, _), (1, _), (3, _), (4, _), (5, _), (10, _), (34, _)] ⟨rfl, rfl, rfl, rfl, rfl, rfl, rfl, trivial⟩ ?_
      refine wCd rfl (fun g3 => ?_) (fun g3 => ?_)
      · try simp only [sQ1, sQ2, sQ3, sQ4, sQ5, sQ6, sQ7, sQ8, ne_eq] at g3
        refine wSR ?_
        refine xAs ?_
        refine wKp [(0, _), (1, _), (2, _), (3, _), (4, _), (5, _), (10, _), (34, _)] ⟨rfl, rfl, rfl, rfl, rfl, rfl, rfl, rfl, trivial⟩ ?_
        refine w_ret (thn_r (inB_r (thn_r (rndE_r (inB_r (thn_r ?_))))))
        exact end0 .ret (.inl rfl) [_] ⟨rfl, trivial⟩ ⟨bool_eq (queueBad (by rw [hs, if_neg]; intro h; rw [itemOk, g3] at h; cases h.2)), rfl, rfl⟩
      · try simp only [sQ1, sQ2, sQ3, sQ4, sQ5, sQ6, sQ7, sQ8, ne_eq] at g3
        refine w_skip ?_
        refine thn_n ?_
        refine w_region ?_
        refine oX (wFA rfl rfl fo100x0 rfl ?_)
        refine oX (w_load1 rfl rfl lk3 rfl (atL 1 rfl rfl rfl) ?_)
        refine xAs ?_
        refine inB_n (thn_n ?_)
        refine w_region ?_
        refine xMv ?_
        refine oX (w_add rfl rfl rfl rfl (by first | exact wrI64 (by first | omega | (simp; done) | (simp; omega)) (by first | omega | (simp; done) | (simp; omega)) | rfl) ?_)
        refine xAs ?_
        exact rndE_n (p.1 + 1, x.id) [0] (by first | omega | (simp only []; omega)) ⟨rfl, by simp only []; omega, by rw [hs, if_pos ⟨g2, g3⟩], by simp only []; omega, by simp only []; omega⟩ ⟨rfl, rfl, rfl, rfl, trivial⟩ rfl
  · try simp only [sQ1, sQ2, sQ3, sQ4, sQ5, sQ6, sQ7, sQ8, ne_eq] at g1
    rw [dropEnd (by omega), scanQ] at hs
    refine w_exit (thn_x (rndE_x (inB_hit (thn_n ?_))))
    refine wSR ?_
    refine oX (wFA rfl rfl fo29x0 rfl ?_)
    refine oX (w_load1 rfl rfl lk3 rfl (atL 0 rfl rfl rfl) ?_)
    refine xMv ?_
    refine oX (w_add rfl rfl rfl rfl (by first | exact wrI64 (by first | omega | (simp; done) | (simp; omega)) (by first | omega | (simp; done) | (simp; omega)) | rfl) ?_)
    refine oX (w_retB rfl rfl en125 rfl (l6In_c _ _ _ _) ?_)
    refine xMv ?_
    refine r_split (d := 42) rfl (fun g1 => ?_) (fun g1 => ?_)
    · try simp only [sQ1, sQ2, sQ3, sQ4, sQ5, sQ6, sQ7, sQ8, ne_eq] at g1
      refine oX (wFA rfl rfl fo29x1 rfl ?_)
      refine oX (w_load1 rfl rfl lk27 rfl (atL 0 rfl rfl rfl) ?_)
      refine oX (w_lenV rfl rfl Tryz.underlying27 rfl ?_)
      refine oX (w_leq rfl rfl rfl rfl ?_)
      refine oX (w_pickT rfl rfl rfl rfl ?_)
      refine xAs ?_
      refine wKp [(0, _), (1, _), (2, _), (3, _), (4, _), (10, _)] ⟨rfl, rfl, rfl, rfl, rfl, rfl, trivial⟩ ?_
      refine w_ret ?_
      exact end0 .ret (.inl rfl) [_] ⟨rfl, trivial⟩ ⟨bool_eq (by rw [← queueEnd hs, Bool.eq_iff_iff]; simp [g1, g1]; try omega), rfl, rfl⟩
    · try simp only [sQ1, sQ2, sQ3, sQ4, sQ5, sQ6, sQ7, sQ8, ne_eq] at g1
      refine oX (w_pass rfl rfl ?_)
      refine oX (w_pass rfl rfl ?_)
      refine oX (w_pass rfl rfl ?_)
      refine oX (w_pass rfl rfl ?_)
      refine oX (w_pickF rfl rfl rfl rfl ?_)
      refine xAs ?_
      refine wKp [(0, _), (1, _), (2, _), (3, _), (4, _), (10, _)] ⟨rfl, rfl, rfl, rfl, rfl, rfl, trivial⟩ ?_
      refine w_ret ?_
      exact end0 .ret (.inl rfl) [_] ⟨rfl, trivial⟩ ⟨bool_eq (by rw [← queueEnd hs, Bool.eq_iff_iff]; simp [g1, g1]; try omega), rfl, rfl⟩

set_option maxRecDepth 4000 in
set_option maxHeartbeats 400000 in
theorem idLen_c (q : Option Addr) (m cp : Nat) (B : Kn) : RetB (pj J) 268 [.slice q m cp] B (.int .i64 m) := by
  refine cBB 5 Tryz.func268 rfl rfl rfl (Nat.le_of_ble_eq_true rfl) ?_
  refine wSR ?_
  refine xAs ?_
  refine wKp [(0, _), (2, _)] ⟨rfl, rfl, trivial⟩ ?_
  refine wSR ?_
  refine xMv ?_
  refine oX (w_lenV rfl rfl Tryz.underlying188 rfl ?_)
  refine xAs ?_
  refine wKp [(0, _), (2, _)] ⟨rfl, rfl, trivial⟩ ?_
  refine w_ret ?_
  exact end0 .ret (.inl rfl) [_] ⟨rfl, trivial⟩ ⟨rfl, rfl, rfl⟩

set_option maxRecDepth 4000 in
set_option maxHeartbeats 400000 in
theorem idLess_c (q : Option Addr) (cp : Nat) (xs : List Int) (i j : Nat) (a b : Int) (hi : xs[i]? = some a) (hj : xs[j]? = some b) (B : Kn) (hx : SlK B q cp 1 IntR xs) : RetB (pj J) 269 [.slice q xs.length cp, .int .i64 i, .int .i64 j] B (.bool (decide (a < b))) := by
  refine cBB 16 Tryz.func269 rfl rfl rfl (Nat.le_of_ble_eq_true rfl) ?_
  have hil := lt_of_get hi
  have hjl := lt_of_get hj
  refine wSR ?_
  refine xAs ?_
  refine wKp [(0, _), (1, _), (2, _), (6, _)] ⟨rfl, rfl, rfl, rfl, trivial⟩ ?_
  refine w_seq ?_
  refine w_draw (same _ _) mo (by kernel_rfl) ⟨rfl, rfl⟩ (fun _ _ => ?_)
  refine aTP 0 rfl (by kernel_rfl) rfl (fun D B L => w_move rfl rfl rfl ⟨rfl, rfl, rfl, rfl⟩) ?_
  refine aTP 1 rfl (by kernel_rfl) rfl (fun D B L => w_move rfl rfl rfl ⟨rfl, rfl, rfl, rfl⟩) ?_
  obtain ⟨z, hz⟩ := getLt (xs := xs) (i := i) (by first | omega | (simp; done) | (simp; omega))
  obtain ⟨bb2, oo2, rfl⟩ := hx.base hz
  obtain ⟨_, rfl, hc3⟩ := hx.elem hz
  refine aTk 2 rfl (by kernel_rfl) rfl (q_of fun D => w_ixB rfl rfl Tryz.underlying126 sz3 rfl rfl (by first | omega | (simp; done) | (simp; omega)) (by first | omega | (simp; done) | (simp; omega)) ⟨rfl, rfl, rfl, rfl⟩) ?_
  refine aTk 3 rfl (by kernel_rfl) rfl (q_of fun D => w_load1 rfl rfl lk3 rfl (hc3 _ 0 _ rfl) ⟨rfl, rfl, rfl, rfl⟩) ?_
  refine aTP 4 rfl (by kernel_rfl) rfl (fun D B L => w_move rfl rfl rfl ⟨rfl, rfl, rfl, rfl⟩) ?_
  refine aTP 5 rfl (by kernel_rfl) rfl (fun D B L => w_move rfl rfl rfl ⟨rfl, rfl, rfl, rfl⟩) ?_
  obtain ⟨w, hw⟩ := getLt (xs := xs) (i := j) (by first | omega | (simp; done) | (simp; omega))
  obtain ⟨_, rfl, hc5⟩ := hx.elem hw
  refine aTk 6 rfl (by kernel_rfl) rfl (q_of fun D => w_ixB rfl rfl Tryz.underlying126 sz3 rfl rfl (by first | omega | (simp; done) | (simp; omega)) (by first | omega | (simp; done) | (simp; omega)) ⟨rfl, rfl, rfl, rfl⟩) ?_
  rw [hi] at hz
  cases hz
  rw [hj] at hw
  cases hw
  refine aTk 7 rfl (by kernel_rfl) rfl (q_of fun D => w_load1 rfl rfl lk3 rfl (hc5 _ 0 _ rfl) ⟨rfl, rfl, rfl, rfl⟩) ?_
  refine aTk 8 rfl (by kernel_rfl) rfl (q_of fun D => w_lss rfl rfl rfl rfl ⟨rfl, rfl, rfl, rfl⟩) ?_
  refine aTP 9 rfl (by kernel_rfl) rfl (fun D B L => w_assign rfl rfl rfl ⟨rfl, rfl, rfl, rfl⟩) ?_
  refine any_done (by kernel_rfl) (by kernel_rfl) ?_
  refine thn_n ?_
  refine wKp [(0, _), (1, _), (2, _), (6, _)] ⟨rfl, rfl, rfl, rfl, trivial⟩ ?_
  refine w_ret ?_
  exact end0 .ret (.inl rfl) [_] ⟨rfl, trivial⟩ ⟨rfl, rfl, rfl⟩

set_option maxRecDepth 4000 in
set_option maxHeartbeats 400000 in
theorem idPush_c (b : Nat) (q : Option Addr) (cp : Nat) (xs : List Int) (l : Cells) (z : Int) (hn : xs.length ≤ 2000000) (B : Kn) (hv : VecR B l q cp 3 1 IntR xs) : CallsB (pj J) 271 [ptr ⟨b, 0, none⟩, .iface 3 (.int .i64 z)] B [box1 b [.slice q xs.length cp] 188, l] (fun v B' Ls => B' = B ∧ ∃ q' c' l', Ls = [box1 b [.slice q' (xs ++ [z]).length c'] 188, l'] ∧ VecR B l' q' c' 3 1 IntR (xs ++ [z])) := by
  refine cBB 13 Tryz.func271 rfl rfl rfl (Nat.le_of_ble_eq_true rfl) ?_
  refine w_draw (keeps _ [0] _) mo (by kernel_rfl) ⟨Kn.le.refl _, keepsL.refl _ _⟩ (fun _ _ => ?_)
  refine aTP 0 rfl (by kernel_rfl) rfl (fun D B L => w_move rfl rfl rfl ⟨rfl, rfl, rfl, rfl⟩) ?_
  refine aTP 1 rfl (by kernel_rfl) rfl (fun D B L => w_move rfl rfl rfl ⟨rfl, rfl, rfl, rfl⟩) ?_
  refine aTk 2 rfl (by kernel_rfl) rfl (q_ofI fun D B L hI => w_nilCheck rfl rfl rfl ⟨rfl, rfl, rfl, rfl⟩) ?_
  refine aTk 3 rfl (by kernel_rfl) rfl (q_ofI fun D B L hI => w_load1 rfl rfl lk188 rfl (atL 0 (hI.2.1.trans rfl) rfl rfl) ⟨rfl, rfl, rfl, rfl⟩) ?_
  refine aTP 4 rfl (by kernel_rfl) rfl (fun D B L => w_move rfl rfl rfl ⟨rfl, rfl, rfl, rfl⟩) ?_
  refine aTk 5 rfl (by kernel_rfl) rfl (q_ofI fun D B L hI => w_assertT rfl rfl Tryz.underlying3 rfl rfl ⟨rfl, rfl, rfl, rfl⟩) ?_
  refine aOne 6 (by kernel_rfl) rfl (by kernel_rfl) (wBS (parts := [(0, _)]) [_] rfl rfl Tryz.underlying126 sz3 zo3 rfl rfl rfl rfl rfl (fun b1 => ?_))
  refine ⟨⟨Kn.le.refl _, ⟨rfl, trivial⟩⟩, ?_⟩
  refine aOne 7 (by kernel_rfl) rfl (by kernel_rfl) (w_app1 (z := z) (R := IntR) 1 rfl hv rfl rfl rfl eo188 su188 rfl rfl (SrcAt.box 2 rfl) rfl rfl (rfl) (by first | omega | (simp; done) | (simp; omega)) (fun l2 p2 c2 hv2 => ?_))
  refine ⟨⟨Kn.le.refl _, ⟨rfl, trivial⟩⟩, ?_⟩
  refine aTk 8 rfl (by kernel_rfl) rfl (q_ofI fun D B L hI => w_nilCheck rfl rfl rfl ⟨rfl, rfl, rfl, rfl⟩) ?_
  refine any_fin 9 (by kernel_rfl) rfl (by kernel_rfl) (by kernel_rfl) (by kernel_rfl) (w_store [_] 0 [_] rfl rfl sz188 rfl rfl rfl rfl rfl rfl rfl rfl ?_)
  exact endN .normal (.inr rfl) [] [0, 1] rfl trivial ⟨rfl, _, _, _, rfl, hv2⟩

set_option maxRecDepth 4000 in
set_option maxHeartbeats 400000 in
theorem idPop_c (b : Nat) (q : Option Addr) (cp : Nat) (xs : List Int) (l : Cells) (z : Int) (hz : xs[xs.length - 1]? = some z) (hn : xs.length ≤ 2000000) (B : Kn) (hv : VecR B l q cp 3 1 IntR xs) : CallsB (pj J) 270 [ptr ⟨b, 0, none⟩] B [box1 b [.slice q xs.length cp] 188, l] (fun v B' Ls => B' = B ∧ v = .iface 3 (.int .i64 z) ∧ Ls = [box1 b [.slice q (xs.length - 1) cp] 188, l] ∧ VecR B l q cp 3 1 IntR (xs.take (xs.length - 1))) := by
  refine cBB 25 Tryz.func270 rfl rfl rfl (Nat.le_of_ble_eq_true rfl) ?_
  have hl1 := lt_of_get hz
  have hcp := hv.cap
  have hv9 := hv.take (k := xs.length - 1) (by omega)
  have hs0 := hv.slice0 (sz := 1)
  refine wSR ?_
  refine xAs ?_
  refine wKp [(0, _), (2, _)] ⟨rfl, rfl, trivial⟩ ?_
  refine wSR ?_
  refine xMv ?_
  refine oX (w_nilCheck rfl rfl rfl ?_)
  refine oX (w_load1 rfl rfl lk188 rfl (atL 0 rfl rfl rfl) ?_)
  refine oX (w_lenV rfl rfl Tryz.underlying188 rfl ?_)
  refine oX (w_sub (r := ((xs.length - 1 : Nat) : Int)) rfl rfl rfl rfl (by rw [show ((xs.length : Int) - 1) = ((xs.length - 1 : Nat) : Int) from by omega]; exact wrI64 (by omega) (by omega)) ?_)
  refine xAs ?_
  refine wKp [(0, _), (2, _), (3, _)] ⟨rfl, rfl, rfl, trivial⟩ ?_
  refine wSR ?_
  refine xMv ?_
  refine oX (w_nilCheck rfl rfl rfl ?_)
  refine oX (w_load1 rfl rfl lk188 rfl (atL 0 rfl rfl rfl) ?_)
  refine xMv ?_
  obtain ⟨w, hw⟩ := getLt (xs := xs) (i := (xs.length - 1)) (by first | omega | (simp; done) | (simp; omega))
  obtain ⟨bb2, _, hp2, rfl, hw2, hc2⟩ := hv.row hw
  refine oX (w_ixP hp2 rfl rfl Tryz.underlying126 sz3 rfl rfl (by first | omega | (simp; done) | (simp; omega)) (by first | omega | (simp; done) | (simp; omega)) ?_)
  rw [hz] at hw
  cases hw
  refine oX (w_load1 rfl rfl lk3 rfl (hc2 _ 1 rfl 0 _ rfl) ?_)
  refine xAs ?_
  refine wKp [(0, _), (2, _), (3, _), (4, _)] ⟨rfl, rfl, rfl, rfl, trivial⟩ ?_
  refine wSR ?_
  refine xMv ?_
  refine xMv ?_
  refine oX (w_nilCheck rfl rfl rfl ?_)
  refine oX (w_load1 rfl rfl lk188 rfl (atL 0 rfl rfl rfl) ?_)
  refine xMv ?_
  refine oX (w_sliceV rfl rfl Tryz.underlying126 sz3 rfl (a := 0) (b := xs.length - 1) rfl ⟨_, _, rfl, rfl⟩ (by omega) (by omega) ?_)
  rw [hs0]
  refine oX (w_nilCheck rfl rfl rfl ?_)
  refine oX (w_store [_] 0 [_] rfl rfl sz188 rfl rfl rfl rfl rfl rfl rfl rfl ?_)
  refine wTd [(0, _), (2, _), (3, _), (4, _)] [_, _] ⟨rfl, rfl, rfl, rfl, trivial⟩ rfl ?_
  refine wSR ?_
  refine xMv ?_
  refine oX (w_makeIface rfl rfl Tryz.underlying3 rfl rfl ?_)
  refine xAs ?_
  refine wKp [(0, _), (2, _), (3, _), (4, _)] ⟨rfl, rfl, rfl, rfl, trivial⟩ ?_
  refine w_ret ?_
  exact endN .ret (.inl rfl) [_] [0, 1] rfl ⟨rfl, trivial⟩ ⟨rfl, rfl, rfl, hv9⟩

set_option maxRecDepth 4000 in
set_option maxHeartbeats 400000 in
theorem idSwap_c (q : Option Addr) (cp : Nat) (xs : List Int) (l : Cells) (i j : Nat) (a b : Int) (hi : xs[i]? = some a) (hj : xs[j]? = some b) (hn : xs.length ≤ 2000000) (B : Kn) (hv : VecR B l q cp 3 1 IntR xs) : CallsB (pj J) 272 [.slice q xs.length cp, .int .i64 i, .int .i64 j] B [l] (fun v B' Ls => B' = B ∧ ∃ l', Ls = [l'] ∧ VecR B l' q cp 3 1 IntR ((xs.set i b).set j a)) := by
  refine cBB 20 Tryz.func272 rfl rfl rfl (Nat.le_of_ble_eq_true rfl) ?_
  have hil := lt_of_get hi
  have hjl := lt_of_get hj
  refine w_draw (keeps _ [0] _) mo (by kernel_rfl) ⟨Kn.le.refl _, keepsL.refl _ _⟩ (fun _ _ => ?_)
  refine aTP 0 rfl (by kernel_rfl) rfl (fun D B L => w_move rfl rfl rfl ⟨rfl, rfl, rfl, rfl⟩) ?_
  refine aTP 1 rfl (by kernel_rfl) rfl (fun D B L => w_move rfl rfl rfl ⟨rfl, rfl, rfl, rfl⟩) ?_
  refine aTP 2 rfl (by kernel_rfl) rfl (fun D B L => w_move rfl rfl rfl ⟨rfl, rfl, rfl, rfl⟩) ?_
  refine aTP 3 rfl (by kernel_rfl) rfl (fun D B L => w_move rfl rfl rfl ⟨rfl, rfl, rfl, rfl⟩) ?_
  refine aTP 4 rfl (by kernel_rfl) rfl (fun D B L => w_move rfl rfl rfl ⟨rfl, rfl, rfl, rfl⟩) ?_
  refine aTP 5 rfl (by kernel_rfl) rfl (fun D B L => w_move rfl rfl rfl ⟨rfl, rfl, rfl, rfl⟩) ?_
  obtain ⟨y, hy⟩ := getLt (xs := xs) (i := j) (by first | omega | (simp; done) | (simp; omega))
  obtain ⟨bb2, _, hp2, rfl, hw2, hc2⟩ := hv.row hy
  refine aTk 6 rfl (by kernel_rfl) rfl (q_ofI fun D B L hI => w_ixP hp2 rfl rfl Tryz.underlying126 sz3 rfl rfl (by first | omega | (simp; done) | (simp; omega)) (by first | omega | (simp; done) | (simp; omega)) ⟨rfl, rfl, rfl, rfl⟩) ?_
  refine aTk 7 rfl (by kernel_rfl) rfl (q_ofI fun D B L hI => w_load1 rfl rfl lk3 rfl (hc2 _ 0 (hI.2.1.trans rfl) 0 _ rfl) ⟨rfl, rfl, rfl, rfl⟩) ?_
  refine aTP 8 rfl (by kernel_rfl) rfl (fun D B L => w_move rfl rfl rfl ⟨rfl, rfl, rfl, rfl⟩) ?_
  refine aTP 9 rfl (by kernel_rfl) rfl (fun D B L => w_move rfl rfl rfl ⟨rfl, rfl, rfl, rfl⟩) ?_
  obtain ⟨x, hx⟩ := getLt (xs := xs) (i := i) (by first | omega | (simp; done) | (simp; omega))
  obtain ⟨bb4, _, hp4, rfl, hw4, hc4⟩ := hv.row hx
  refine aTk 10 rfl (by kernel_rfl) rfl (q_ofI fun D B L hI => w_ixP hp4 rfl rfl Tryz.underlying126 sz3 rfl rfl (by first | omega | (simp; done) | (simp; omega)) (by first | omega | (simp; done) | (simp; omega)) ⟨rfl, rfl, rfl, rfl⟩) ?_
  refine aTk 11 rfl (by kernel_rfl) rfl (q_ofI fun D B L hI => w_load1 rfl rfl lk3 rfl (hc4 _ 0 (hI.2.1.trans rfl) 0 _ rfl) ⟨rfl, rfl, rfl, rfl⟩) ?_
  obtain ⟨bb5, _, hp5, rfl, hw5, hc5⟩ := hv.row hx
  refine aTk 12 rfl (by kernel_rfl) rfl (q_ofI fun D B L hI => w_ixP hp5 rfl rfl Tryz.underlying126 sz3 rfl rfl (by first | omega | (simp; done) | (simp; omega)) (by first | omega | (simp; done) | (simp; omega)) ⟨rfl, rfl, rfl, rfl⟩) ?_
  refine any_sto 13 (by kernel_rfl) rfl (by kernel_rfl) (by kernel_rfl) (w_stO (k := i) (off := 0) (y) [_] 0 hv hp5 hx rfl rfl sz3 rfl rfl rfl rfl rfl rfl ((fun row h => by cases h; rfl)) (fun l6 hv6 => ?_))
  obtain ⟨w, hw⟩ := getLt (xs := (xs.set i (y))) (i := j) (by first | omega | (simp; done) | (simp; omega))
  obtain ⟨bb8, _, hp8, rfl, hw8, hc8⟩ := hv6.row hw
  refine aTk 14 rfl (by kernel_rfl) rfl (q_ofI fun D B L hI => w_ixP hp8 rfl rfl Tryz.underlying126 sz3 rfl rfl (by first | omega | (simp; done) | (simp; omega)) (by first | omega | (simp; done) | (simp; omega)) ⟨rfl, rfl, rfl, rfl⟩) ?_
  refine any_fin 15 (by kernel_rfl) rfl (by kernel_rfl) (by kernel_rfl) (by kernel_rfl) (w_stO (k := j) (off := 0) (x) [_] 0 hv6 hp8 hw rfl rfl sz3 rfl rfl rfl rfl rfl rfl ((fun row h => by cases h; rfl)) (fun l9 hv9 => ?_))
  rw [hi] at hx
  cases hx
  rw [hj] at hy
  cases hy
  exact endN .normal (.inr rfl) [] [0] rfl trivial ⟨rfl, _, rfl, hv9⟩

set_option maxRecDepth 4000 in
set_option maxHeartbeats 400000 in
theorem heapUp_c (b : Nat) (q : Option Addr) (cp : Nat) (xs : List Int) (l : Cells) (j : Nat) (hj : j < xs.length) (hn : xs.length ≤ 2000000) (hh : HeapBut xs j) (B : Kn) (hv : VecR B l q cp 3 1 IntR xs) : CallsB (pj J) 201 [.iface 187 (ptr ⟨b, 0, none⟩), .int .i64 j] B [box1 b [.slice q xs.length cp] 188, l] (fun v B' Ls => B' = B ∧ ∃ ys l', Ls = [box1 b [.slice q ys.length cp] 188, l'] ∧ VecR B l' q cp 3 1 IntR ys ∧ ys.Perm xs ∧ IsHeap ys) := by
  refine cBB 23 Tryz.func201 rfl rfl rfl (Nat.le_of_ble_eq_true rfl) ?_
  refine w_block ?_
  refine w_loopE (α := Nat × List Int × Cells) [0] (fun g => [(1, .int .i64 g.1)]) [0, 1] (fun g => [box1 b [.slice q g.2.1.length cp] 188, g.2.2]) (fun g Bx => Bx = B ∧ g.1 < g.2.1.length ∧ g.2.1.Perm xs ∧ HeapBut g.2.1 g.1 ∧ VecR B g.2.2 q cp 3 1 IntR g.2.1) (fun g => g.1) (j, xs, l) ⟨rfl, trivial⟩ rfl (⟨rfl, hj, .refl _, hh, hv⟩) (fun g B1 hle1 hI => ?_)
  obtain ⟨rfl, hk, hp, hb, hv⟩ := hI
  have hpl := hp.length_eq
  refine wTd [(0, _), (1, _)] [_, _] ⟨rfl, rfl, trivial⟩ rfl ?_
  refine w_block ?_
  refine wSR ?_
  refine xMv ?_
  refine oX (w_sub rfl rfl rfl rfl (wrI64 (by omega) (by omega)) ?_)
  refine oX (w_quo (r := (((g.1 - 1) / 2 : Nat) : Int)) rfl rfl rfl rfl (by omega) (by rw [show Int.tdiv ((g.1 : Int) - 1) 2 = (((g.1 - 1) / 2 : Nat) : Int) from tdivP g.1]; exact wrI64 (by omega) (by omega)) ?_)
  refine xAs ?_
  refine wKp [(0, _), (1, _), (4, _)] ⟨rfl, rfl, rfl, trivial⟩ ?_
  refine w_seq ?_
  refine wSR ?_
  refine xMv ?_
  refine xMv ?_
  refine oX (w_eqlI rfl rfl rfl rfl ?_)
  refine xMv ?_
  refine r_split (d := 11) rfl (fun g1 => ?_) (fun g1 => ?_)
  · try simp only [sQ1, sQ2, sQ3, sQ4, sQ5, sQ6, sQ7, sQ8, ne_eq] at g1
    refine oX (w_pass rfl rfl ?_)
    refine oX (w_pass rfl rfl ?_)
    refine oX (w_pass rfl rfl ?_)
    refine oX (w_pass rfl rfl ?_)
    refine oX (w_pass rfl rfl ?_)
    refine oX (w_pickT rfl rfl rfl rfl ?_)
    refine wKp [(0, _), (1, _), (4, _), (17, _)] ⟨rfl, rfl, rfl, rfl, trivial⟩ ?_
    refine wCd (t := true) rfl (fun _ => ?_) (fun h => Bool.noConfusion h)
    refine w_exit (thn_x (inB_miss rfl (rndE_x (inB_hit ?_))))
    exact endN .normal (.inr rfl) [] [0, 1] rfl trivial ⟨rfl, _, _, rfl, hv, hp, up_zero (by rw [show g.1 = 0 from by omega] at hb; exact hb)⟩
  · try simp only [sQ1, sQ2, sQ3, sQ4, sQ5, sQ6, sQ7, sQ8, ne_eq] at g1
    refine xMv ?_
    refine xMv ?_
    refine xMv ?_
    refine oX (w_invR1 1 rfl rfl rfl en269 rfl rfl (found_val mth187Less Tryz.underlying187 lk188 (atL 0 rfl rfl rfl)) (RetB.borrow fun hm2 => idLess_c _ _ _ _ _ _ _ (get_hat (by omega)) (get_hat (by omega)) _ (hv.lend IntR.mono hm2 (by first | omega | (simp; done) | (simp; omega)))) ?_)
    refine oX (w_not rfl rfl rfl ?_)
    refine oX (w_pickF rfl rfl rfl rfl ?_)
    refine wKp [(0, _), (1, _), (4, _), (17, _)] ⟨rfl, rfl, rfl, rfl, trivial⟩ ?_
    refine wCd rfl (fun g2 => ?_) (fun g2 => ?_)
    · try simp only [sQ1, sQ2, sQ3, sQ4, sQ5, sQ6, sQ7, sQ8, ne_eq] at g2
      refine w_exit (thn_x (inB_miss rfl (rndE_x (inB_hit ?_))))
      exact endN .normal (.inr rfl) [] [0, 1] rfl trivial ⟨rfl, _, _, rfl, hv, hp, up_done hb (by simpa using g2)⟩
    · try simp only [sQ1, sQ2, sQ3, sQ4, sQ5, sQ6, sQ7, sQ8, ne_eq] at g2
      refine w_skip ?_
      refine thn_n ?_
      refine wSR ?_
      refine xMv ?_
      refine xMv ?_
      refine xMv ?_
      refine oX (w_invN [1] rfl rfl rfl rfl en272 rfl rfl (found_val mth187Swap Tryz.underlying187 lk188 (atL 0 rfl rfl rfl)) (idSwap_c _ _ _ _ _ _ _ _ (get_hat (by omega)) (get_hat (by omega)) (by omega) _ hv) ?_)
      rintro _ _ _ hle3 ⟨rfl, l3, rfl, hv3⟩
      refine wTd [(0, _), (1, _), (4, _), (17, _)] [_, _] ⟨rfl, rfl, rfl, rfl, trivial⟩ rfl ?_
      refine w_region ?_
      refine xMv ?_
      refine xAs ?_
      refine inB_n ?_
      rw [← swp_len g.2.1 ((g.1 - 1) / 2) g.1]
      exact rndE_n ((g.1 - 1) / 2, (swp g.2.1 ((g.1 - 1) / 2) g.1), l3) [0, 1] (by simp only []; omega) ⟨rfl, by have := swp_len g.2.1 ((g.1 - 1) / 2) g.1; simp only []; omega, (swp_perm (by omega) (by omega)).trans hp, up_step (by omega) (by omega) hb (by simpa using g2), hv3⟩ ⟨rfl, rfl, trivial⟩ rfl

set_option maxRecDepth 4000 in
set_option maxHeartbeats 400000 in
theorem heapPush_c (b : Nat) (q : Option Addr) (cp : Nat) (xs : List Int) (l : Cells) (z : Int) (hn : xs.length < 2000000) (hh : IsHeap xs) (B : Kn) (hv : VecR B l q cp 3 1 IntR xs) : CallsB (pj J) 154 [.iface 187 (ptr ⟨b, 0, none⟩), .iface 3 (.int .i64 z)] B [box1 b [.slice q xs.length cp] 188, l] (fun v B' Ls => B' = B ∧ ∃ q' c' ys l', Ls = [box1 b [.slice q' ys.length c'] 188, l'] ∧ VecR B l' q' c' 3 1 IntR ys ∧ ys.Perm (xs ++ [z]) ∧ IsHeap ys) := by
  refine cBB 12 Tryz.func154 rfl rfl rfl (Nat.le_of_ble_eq_true rfl) ?_
  refine wSR ?_
  refine xMv ?_
  refine xMv ?_
  refine oX (w_invN [0, 1] rfl rfl rfl rfl en271 rfl rfl (found_ptr mth187Push Tryz.underlying187) (idPush_c _ _ _ _ _ _ (by omega) _ hv) ?_)
  rintro _ _ _ hle1 ⟨rfl, q1, c1, l1, rfl, hv1⟩
  refine wTd [(0, _), (1, _)] [_, _] ⟨rfl, rfl, trivial⟩ rfl ?_
  refine w_region ?_
  refine xMv ?_
  refine xMv ?_
  refine oX (w_invR1 1 rfl rfl rfl en268 rfl rfl (found_val mth187Len Tryz.underlying187 lk188 (atL 0 rfl rfl rfl)) (RetB.borrow fun hm2 => idLen_c _ _ _ _) ?_)
  refine oX (w_sub (r := ((xs.length : Nat) : Int)) rfl rfl rfl rfl ((congrArg _ (show _ = ((xs.length : Nat) : Int) from by rw [List.length_append, List.length_singleton]; omega)).trans (wrI64 (by omega) (by omega))) ?_)
  refine oX (w_callN [0, 1] rfl rfl rfl rfl en201 rfl (heapUp_c _ _ _ _ _ _ (by simp) (by simp; omega) (push_but hh) _ hv1) ?_)
  rintro _ _ _ hleu ⟨rfl, ysu, lu, rfl, hvu, hpu, hhu⟩
  exact endN .normal (.inr rfl) [] [0, 1] rfl trivial ⟨rfl, _, _, _, _, rfl, hvu, hpu, hhu⟩

set_option maxRecDepth 4000 in
set_option maxHeartbeats 400000 in
theorem heapDown_c (b : Nat) (q : Option Addr) (cp : Nat) (xs : List Int) (l : Cells) (m : Nat) (hm : m ≤ xs.length) (hm0 : 0 < xs.length) (hn : xs.length ≤ 2000000) (hh : DownBut xs m 0) (B : Kn) (hv : VecR B l q cp 3 1 IntR xs) : CallsB (pj J) 202 [.iface 187 (ptr ⟨b, 0, none⟩), .int .i64 0, .int .i64 m] B [box1 b [.slice q xs.length cp] 188, l] (fun v B' Ls => B' = B ∧ ∃ ys l', Ls = [box1 b [.slice q ys.length cp] 188, l'] ∧ VecR B l' q cp 3 1 IntR ys ∧ ys.Perm xs ∧ HeapN ys m ∧ (∀ k, m ≤ k → hat ys k = hat xs k)) := by
  refine cBB 48 Tryz.func202 rfl rfl rfl (Nat.le_of_ble_eq_true rfl) ?_
  refine wSR ?_
  refine xAs ?_
  refine wKp [(0, _), (1, _), (2, _), (6, _)] ⟨rfl, rfl, rfl, rfl, trivial⟩ ?_
  refine wSR ?_
  refine xMv ?_
  refine xAs ?_
  refine wKp [(0, _), (1, _), (2, _), (6, _), (7, _)] ⟨rfl, rfl, rfl, rfl, rfl, trivial⟩ ?_
  refine w_seq ?_
  refine w_block ?_
  refine w_loopE (α := Nat × List Int × Cells) [0, 1, 2, 6] (fun g => [(7, .int .i64 g.1)]) [0, 1] (fun g => [box1 b [.slice q g.2.1.length cp] 188, g.2.2]) (fun g Bx => Bx = B ∧ g.1 < g.2.1.length ∧ g.2.1.Perm xs ∧ DownBut g.2.1 m g.1 ∧ (∀ k, m ≤ k → hat g.2.1 k = hat xs k) ∧ VecR B g.2.2 q cp 3 1 IntR g.2.1) (fun g => xs.length - g.1) (0, xs, l) ⟨rfl, trivial⟩ rfl (⟨rfl, hm0, .refl _, hh, fun _ _ => rfl, hv⟩) (fun g B1 hle1 hI => ?_)
  obtain ⟨rfl, hk, hp, hb, hs, hv⟩ := hI
  have hpl := hp.length_eq
  refine wTd [(0, _), (1, _), (2, _), (6, _), (7, _)] [_, _] ⟨rfl, rfl, rfl, rfl, rfl, trivial⟩ rfl ?_
  refine w_block ?_
  refine wSR ?_
  refine xMv ?_
  refine oX (w_mul (r := ((2 * g.1 : Nat) : Int)) rfl rfl rfl rfl ((congrArg _ (show _ = ((2 * g.1 : Nat) : Int) from by omega)).trans (wrI64 (by omega) (by omega))) ?_)
  refine oX (w_add (r := ((2 * g.1 + 1 : Nat) : Int)) rfl rfl rfl rfl ((congrArg _ (show _ = ((2 * g.1 + 1 : Nat) : Int) from by omega)).trans (wrI64 (by omega) (by omega))) ?_)
  refine xAs ?_
  refine wKp [(0, _), (1, _), (2, _), (6, _), (7, _), (8, _)] ⟨rfl, rfl, rfl, rfl, rfl, rfl, trivial⟩ ?_
  refine w_seq ?_
  refine wSR ?_
  refine xMv ?_
  refine xMv ?_
  refine oX (w_geq rfl rfl rfl rfl ?_)
  refine xMv ?_
  refine r_split (d := 18) rfl (fun g1 => ?_) (fun g1 => ?_)
  · try simp only [sQ1, sQ2, sQ3, sQ4, sQ5, sQ6, sQ7, sQ8, ne_eq] at g1
    refine oX (w_pass rfl rfl ?_)
    refine oX (w_pass rfl rfl ?_)
    refine oX (w_pickT rfl rfl rfl rfl ?_)
    refine wKp [(0, _), (1, _), (2, _), (6, _), (7, _), (8, _), (21, _)] ⟨rfl, rfl, rfl, rfl, rfl, rfl, rfl, trivial⟩ ?_
    refine wCd (t := true) rfl (fun _ => ?_) (fun h => Bool.noConfusion h)
    refine w_exit (thn_x (inB_miss rfl (rndE_x (inB_hit (thn_n ?_)))))
    refine wSR ?_
    refine xMv ?_
    refine xMv ?_
    refine oX (w_gtr rfl rfl rfl rfl ?_)
    refine xAs ?_
    refine wKp [(0, _), (1, _), (2, _), (6, _), (7, _), (8, _), (21, _)] ⟨rfl, rfl, rfl, rfl, rfl, rfl, rfl, trivial⟩ ?_
    refine w_ret ?_
    exact endN .ret (.inl rfl) [_] [0, 1] rfl ⟨rfl, trivial⟩ ⟨rfl, _, _, rfl, hv, hp, down_leaf hb (by omega), hs⟩
  · try simp only [sQ1, sQ2, sQ3, sQ4, sQ5, sQ6, sQ7, sQ8, ne_eq] at g1
    refine xMv ?_
    refine oX (w_lss rfl rfl rfl rfl ?_)
    refine oX (w_pickF rfl rfl rfl rfl ?_)
    refine wKp [(0, _), (1, _), (2, _), (6, _), (7, _), (8, _), (21, _)] ⟨rfl, rfl, rfl, rfl, rfl, rfl, rfl, trivial⟩ ?_
    refine wCd rfl (fun g2 => by have := of_decide_eq_true g2; omega) (fun g2 => ?_)
    try simp only [sQ1, sQ2, sQ3, sQ4, sQ5, sQ6, sQ7, sQ8, ne_eq] at g2
    refine w_skip ?_
    refine thn_n ?_
    refine wSR ?_
    refine xMv ?_
    refine xAs ?_
    refine wKp [(0, _), (1, _), (2, _), (6, _), (7, _), (8, _), (9, _), (21, _)] ⟨rfl, rfl, rfl, rfl, rfl, rfl, rfl, rfl, trivial⟩ ?_
    refine w_seq ?_
    refine wSR ?_
    refine xMv ?_
    refine oX (w_add (r := ((2 * g.1 + 1 + 1 : Nat) : Int)) rfl rfl rfl rfl ((congrArg _ (show _ = ((2 * g.1 + 1 + 1 : Nat) : Int) from by omega)).trans (wrI64 (by omega) (by omega))) ?_)
    refine xAs ?_
    refine wKp [(0, _), (1, _), (2, _), (6, _), (7, _), (8, _), (9, _), (10, _), (21, _)] ⟨rfl, rfl, rfl, rfl, rfl, rfl, rfl, rfl, rfl, trivial⟩ ?_
    refine wSR ?_
    refine xMv ?_
    refine xMv ?_
    refine oX (w_lss rfl rfl rfl rfl ?_)
    refine xMv ?_
    refine r_split (d := 28) rfl (fun g3 => ?_) (fun g3 => ?_)
    · try simp only [sQ1, sQ2, sQ3, sQ4, sQ5, sQ6, sQ7, sQ8, ne_eq] at g3
      refine xMv ?_
      refine xMv ?_
      refine xMv ?_
      refine oX (w_invR1 1 rfl rfl rfl en269 rfl rfl (found_val mth187Less Tryz.underlying187 lk188 (atL 0 rfl rfl rfl)) (RetB.borrow fun hm2 => idLess_c _ _ _ _ _ _ _ (get_hat (by omega)) (get_hat (by omega)) _ (hv.lend IntR.mono hm2 (by first | omega | (simp; done) | (simp; omega)))) ?_)
      refine oX (w_pickT rfl rfl rfl rfl ?_)
      refine wKp [(0, _), (1, _), (2, _), (6, _), (7, _), (8, _), (9, _), (10, _), (21, _), (33, _)] ⟨rfl, rfl, rfl, rfl, rfl, rfl, rfl, rfl, rfl, rfl, trivial⟩ ?_
      refine wCd rfl (fun g4 => ?_) (fun g4 => ?_)
      · try simp only [sQ1, sQ2, sQ3, sQ4, sQ5, sQ6, sQ7, sQ8, ne_eq] at g4
        refine w_region ?_
        refine xMv ?_
        refine xAs ?_
        refine thn_n ?_
        refine w_seq ?_
        refine wSR ?_
        refine xMv ?_
        refine xMv ?_
        refine xMv ?_
        refine oX (w_invR1 1 rfl rfl rfl en269 rfl rfl (found_val mth187Less Tryz.underlying187 lk188 (atL 0 rfl rfl rfl)) (RetB.borrow fun hm3 => idLess_c _ _ _ _ _ _ _ (get_hat (by omega)) (get_hat (by omega)) _ (hv.lend IntR.mono hm3 (by first | omega | (simp; done) | (simp; omega)))) ?_)
        refine oX (w_not rfl rfl rfl ?_)
        refine wKp [(0, _), (1, _), (2, _), (6, _), (7, _), (8, _), (9, _), (10, _), (21, _), (33, _), (39, _)] ⟨rfl, rfl, rfl, rfl, rfl, rfl, rfl, rfl, rfl, rfl, rfl, trivial⟩ ?_
        refine wCd rfl (fun g5 => ?_) (fun g5 => ?_)
        · try simp only [sQ1, sQ2, sQ3, sQ4, sQ5, sQ6, sQ7, sQ8, ne_eq] at g5
          refine w_exit (thn_x (inB_miss rfl (rndE_x (inB_hit (thn_n ?_)))))
          refine wSR ?_
          refine xMv ?_
          refine xMv ?_
          refine oX (w_gtr rfl rfl rfl rfl ?_)
          refine xAs ?_
          refine wKp [(0, _), (1, _), (2, _), (6, _), (7, _), (8, _), (9, _), (10, _), (21, _), (33, _), (39, _)] ⟨rfl, rfl, rfl, rfl, rfl, rfl, rfl, rfl, rfl, rfl, rfl, trivial⟩ ?_
          refine w_ret ?_
          exact endN .ret (.inl rfl) [_] [0, 1] rfl ⟨rfl, trivial⟩ ⟨rfl, _, _, rfl, hv, hp, down_done hb (by intro k h0 hk he; (try simp only [decide_eq_true_eq, decide_eq_false_iff_not, Bool.not_eq_true', Bool.not_eq_false', Int.not_lt] at *); rcases (show k = 2 * g.1 + 1 ∨ k = 2 * g.1 + 1 + 1 from by omega) with rfl | rfl <;> omega), hs⟩
        · try simp only [sQ1, sQ2, sQ3, sQ4, sQ5, sQ6, sQ7, sQ8, ne_eq] at g5
          refine w_skip ?_
          refine thn_n ?_
          refine wSR ?_
          refine xMv ?_
          refine xMv ?_
          refine xMv ?_
          refine oX (w_invN [1] rfl rfl rfl rfl en272 rfl rfl (found_val mth187Swap Tryz.underlying187 lk188 (atL 0 rfl rfl rfl)) (idSwap_c _ _ _ _ _ _ _ _ (get_hat (by omega)) (get_hat (by omega)) (by omega) _ hv) ?_)
          rintro _ _ _ hle4 ⟨rfl, l4, rfl, hv4⟩
          refine wTd [(0, _), (1, _), (2, _), (6, _), (7, _), (8, _), (9, _), (10, _), (21, _), (33, _), (39, _)] [_, _] ⟨rfl, rfl, rfl, rfl, rfl, rfl, rfl, rfl, rfl, rfl, rfl, trivial⟩ rfl ?_
          refine w_region ?_
          refine xMv ?_
          refine xAs ?_
          refine inB_n ?_
          rw [← swp_len g.2.1 g.1 (2 * g.1 + 1 + 1)]
          have h5 : hat g.2.1 (2 * g.1 + 1 + 1) < hat g.2.1 g.1 := by simpa using g5
          exact rndE_n (2 * g.1 + 1 + 1, (swp g.2.1 g.1 (2 * g.1 + 1 + 1)), l4) [0, 1] (by simp only []; omega) ⟨rfl, by have := swp_len g.2.1 g.1 (2 * g.1 + 1 + 1); simp only []; omega, (swp_perm (by omega) (by omega)).trans hp, down_step (by omega) (by omega) (by omega) (by omega) hb (by intro k h0 hk he; (try simp only [decide_eq_true_eq, decide_eq_false_iff_not, Bool.not_eq_true', Bool.not_eq_false', Int.not_lt] at *); rcases (show k = 2 * g.1 + 1 ∨ k = 2 * g.1 + 1 + 1 from by omega) with rfl | rfl <;> omega) h5, (fun k hk => by rw [hat_swp (by omega) (by omega), if_neg (by omega), if_neg (by omega)]; exact hs k hk), hv4⟩ ⟨rfl, rfl, rfl, rfl, rfl, trivial⟩ rfl
      · try simp only [sQ1, sQ2, sQ3, sQ4, sQ5, sQ6, sQ7, sQ8, ne_eq] at g4
        refine w_skip ?_
        refine thn_n ?_
        refine w_seq ?_
        refine wSR ?_
        refine xMv ?_
        refine xMv ?_
        refine xMv ?_
        refine oX (w_invR1 1 rfl rfl rfl en269 rfl rfl (found_val mth187Less Tryz.underlying187 lk188 (atL 0 rfl rfl rfl)) (RetB.borrow fun hm5 => idLess_c _ _ _ _ _ _ _ (get_hat (by omega)) (get_hat (by omega)) _ (hv.lend IntR.mono hm5 (by first | omega | (simp; done) | (simp; omega)))) ?_)
        refine oX (w_not rfl rfl rfl ?_)
        refine wKp [(0, _), (1, _), (2, _), (6, _), (7, _), (8, _), (9, _), (10, _), (21, _), (33, _), (39, _)] ⟨rfl, rfl, rfl, rfl, rfl, rfl, rfl, rfl, rfl, rfl, rfl, trivial⟩ ?_
        refine wCd rfl (fun g5 => ?_) (fun g5 => ?_)
        · try simp only [sQ1, sQ2, sQ3, sQ4, sQ5, sQ6, sQ7, sQ8, ne_eq] at g5
          refine w_exit (thn_x (inB_miss rfl (rndE_x (inB_hit (thn_n ?_)))))
          refine wSR ?_
          refine xMv ?_
          refine xMv ?_
          refine oX (w_gtr rfl rfl rfl rfl ?_)
          refine xAs ?_
          refine wKp [(0, _), (1, _), (2, _), (6, _), (7, _), (8, _), (9, _), (10, _), (21, _), (33, _), (39, _)] ⟨rfl, rfl, rfl, rfl, rfl, rfl, rfl, rfl, rfl, rfl, rfl, trivial⟩ ?_
          refine w_ret ?_
          exact endN .ret (.inl rfl) [_] [0, 1] rfl ⟨rfl, trivial⟩ ⟨rfl, _, _, rfl, hv, hp, down_done hb (by intro k h0 hk he; (try simp only [decide_eq_true_eq, decide_eq_false_iff_not, Bool.not_eq_true', Bool.not_eq_false', Int.not_lt] at *); rcases (show k = 2 * g.1 + 1 ∨ k = 2 * g.1 + 1 + 1 from by omega) with rfl | rfl <;> omega), hs⟩
        · try simp only [sQ1, sQ2, sQ3, sQ4, sQ5, sQ6, sQ7, sQ8, ne_eq] at g5
          refine w_skip ?_
          refine thn_n ?_
          refine wSR ?_
          refine xMv ?_
          refine xMv ?_
          refine xMv ?_
          refine oX (w_invN [1] rfl rfl rfl rfl en272 rfl rfl (found_val mth187Swap Tryz.underlying187 lk188 (atL 0 rfl rfl rfl)) (idSwap_c _ _ _ _ _ _ _ _ (get_hat (by omega)) (get_hat (by omega)) (by omega) _ hv) ?_)
          rintro _ _ _ hle6 ⟨rfl, l6, rfl, hv6⟩
          refine wTd [(0, _), (1, _), (2, _), (6, _), (7, _), (8, _), (9, _), (10, _), (21, _), (33, _), (39, _)] [_, _] ⟨rfl, rfl, rfl, rfl, rfl, rfl, rfl, rfl, rfl, rfl, rfl, trivial⟩ rfl ?_
          refine w_region ?_
          refine xMv ?_
          refine xAs ?_
          refine inB_n ?_
          rw [← swp_len g.2.1 g.1 (2 * g.1 + 1)]
          have h5 : hat g.2.1 (2 * g.1 + 1) < hat g.2.1 g.1 := by simpa using g5
          exact rndE_n (2 * g.1 + 1, (swp g.2.1 g.1 (2 * g.1 + 1)), l6) [0, 1] (by simp only []; omega) ⟨rfl, by have := swp_len g.2.1 g.1 (2 * g.1 + 1); simp only []; omega, (swp_perm (by omega) (by omega)).trans hp, down_step (by omega) (by omega) (by omega) (by omega) hb (by intro k h0 hk he; (try simp only [decide_eq_true_eq, decide_eq_false_iff_not, Bool.not_eq_true', Bool.not_eq_false', Int.not_lt] at *); rcases (show k = 2 * g.1 + 1 ∨ k = 2 * g.1 + 1 + 1 from by omega) with rfl | rfl <;> omega) h5, (fun k hk => by rw [hat_swp (by omega) (by omega), if_neg (by omega), if_neg (by omega)]; exact hs k hk), hv6⟩ ⟨rfl, rfl, rfl, rfl, rfl, trivial⟩ rfl
    · try simp only [sQ1, sQ2, sQ3, sQ4, sQ5, sQ6, sQ7, sQ8, ne_eq] at g3
      refine oX (w_pass rfl rfl ?_)
      refine oX (w_pass rfl rfl ?_)
      refine oX (w_pass rfl rfl ?_)
      refine oX (w_pass rfl rfl ?_)
      refine oX (w_pickF rfl rfl rfl rfl ?_)
      refine wKp [(0, _), (1, _), (2, _), (6, _), (7, _), (8, _), (9, _), (10, _), (21, _), (33, _)] ⟨rfl, rfl, rfl, rfl, rfl, rfl, rfl, rfl, rfl, rfl, trivial⟩ ?_
      refine wCd (t := false) rfl (fun h => Bool.noConfusion h) (fun _ => ?_)
      refine w_skip ?_
      refine thn_n ?_
      refine w_seq ?_
      refine wSR ?_
      refine xMv ?_
      refine xMv ?_
      refine xMv ?_
      refine oX (w_invR1 1 rfl rfl rfl en269 rfl rfl (found_val mth187Less Tryz.underlying187 lk188 (atL 0 rfl rfl rfl)) (RetB.borrow fun hm7 => idLess_c _ _ _ _ _ _ _ (get_hat (by omega)) (get_hat (by omega)) _ (hv.lend IntR.mono hm7 (by first | omega | (simp; done) | (simp; omega)))) ?_)
      refine oX (w_not rfl rfl rfl ?_)
      refine wKp [(0, _), (1, _), (2, _), (6, _), (7, _), (8, _), (9, _), (10, _), (21, _), (33, _), (39, _)] ⟨rfl, rfl, rfl, rfl, rfl, rfl, rfl, rfl, rfl, rfl, rfl, trivial⟩ ?_
      refine wCd rfl (fun g5 => ?_) (fun g5 => ?_)
      · try simp only [sQ1, sQ2, sQ3, sQ4, sQ5, sQ6, sQ7, sQ8, ne_eq] at g5
        refine w_exit (thn_x (inB_miss rfl (rndE_x (inB_hit (thn_n ?_)))))
        refine wSR ?_
        refine xMv ?_
        refine xMv ?_
        refine oX (w_gtr rfl rfl rfl rfl ?_)
        refine xAs ?_
        refine wKp [(0, _), (1, _), (2, _), (6, _), (7, _), (8, _), (9, _), (10, _), (21, _), (33, _), (39, _)] ⟨rfl, rfl, rfl, rfl, rfl, rfl, rfl, rfl, rfl, rfl, rfl, trivial⟩ ?_
        refine w_ret ?_
        exact endN .ret (.inl rfl) [_] [0, 1] rfl ⟨rfl, trivial⟩ ⟨rfl, _, _, rfl, hv, hp, down_done hb (by intro k h0 hk he; (try simp only [decide_eq_true_eq, decide_eq_false_iff_not, Bool.not_eq_true', Bool.not_eq_false', Int.not_lt] at *); rcases (show k = 2 * g.1 + 1 ∨ k = 2 * g.1 + 1 + 1 from by omega) with rfl | rfl <;> omega), hs⟩
      · try simp only [sQ1, sQ2, sQ3, sQ4, sQ5, sQ6, sQ7, sQ8, ne_eq] at g5
        refine w_skip ?_
        refine thn_n ?_
        refine wSR ?_
        refine xMv ?_
        refine xMv ?_
        refine xMv ?_
        refine oX (w_invN [1] rfl rfl rfl rfl en272 rfl rfl (found_val mth187Swap Tryz.underlying187 lk188 (atL 0 rfl rfl rfl)) (idSwap_c _ _ _ _ _ _ _ _ (get_hat (by omega)) (get_hat (by omega)) (by omega) _ hv) ?_)
        rintro _ _ _ hle8 ⟨rfl, l8, rfl, hv8⟩
        refine wTd [(0, _), (1, _), (2, _), (6, _), (7, _), (8, _), (9, _), (10, _), (21, _), (33, _), (39, _)] [_, _] ⟨rfl, rfl, rfl, rfl, rfl, rfl, rfl, rfl, rfl, rfl, rfl, trivial⟩ rfl ?_
        refine w_region ?_
        refine xMv ?_
        refine xAs ?_
        refine inB_n ?_
        rw [← swp_len g.2.1 g.1 (2 * g.1 + 1)]
        have h5 : hat g.2.1 (2 * g.1 + 1) < hat g.2.1 g.1 := by simpa using g5
        exact rndE_n (2 * g.1 + 1, (swp g.2.1 g.1 (2 * g.1 + 1)), l8) [0, 1] (by simp only []; omega) ⟨rfl, by have := swp_len g.2.1 g.1 (2 * g.1 + 1); simp only []; omega, (swp_perm (by omega) (by omega)).trans hp, down_step (by omega) (by omega) (by omega) (by omega) hb (by intro k h0 hk he; (try simp only [decide_eq_true_eq, decide_eq_false_iff_not, Bool.not_eq_true', Bool.not_eq_false', Int.not_lt] at *); rcases (show k = 2 * g.1 + 1 ∨ k = 2 * g.1 + 1 + 1 from by omega) with rfl | rfl <;> omega) h5, (fun k hk => by rw [hat_swp (by omega) (by omega), if_neg (by omega), if_neg (by omega)]; exact hs k hk), hv8⟩ ⟨rfl, rfl, rfl, rfl, rfl, trivial⟩ rfl

set_option maxRecDepth 4000 in
set_option maxHeartbeats 400000 in
theorem heapPop_c (b : Nat) (q : Option Addr) (cp : Nat) (xs : List Int) (l : Cells) (hm0 : 0 < xs.length) (hn : xs.length ≤ 2000000) (hh : IsHeap xs) (B : Kn) (hv : VecR B l q cp 3 1 IntR xs) : CallsB (pj J) 155 [.iface 187 (ptr ⟨b, 0, none⟩)] B [box1 b [.slice q xs.length cp] 188, l] (fun v B' Ls => B' = B ∧ v = .iface 3 (.int .i64 (hat xs 0)) ∧ ∃ ys l', Ls = [box1 b [.slice q ys.length cp] 188, l'] ∧ VecR B l' q cp 3 1 IntR ys ∧ (hat xs 0 :: ys).Perm xs ∧ IsHeap ys) := by
  refine cBB 15 Tryz.func155 rfl rfl rfl (Nat.le_of_ble_eq_true rfl) ?_
  refine wSR ?_
  refine xAs ?_
  refine wKp [(0, _), (2, _)] ⟨rfl, rfl, trivial⟩ ?_
  refine wSR ?_
  refine xMv ?_
  refine oX (w_invR1 1 rfl rfl rfl en268 rfl rfl (found_val mth187Len Tryz.underlying187 lk188 (atL 0 rfl rfl rfl)) (RetB.borrow fun hm1 => idLen_c _ _ _ _) ?_)
  refine oX (w_sub (r := ((xs.length - 1 : Nat) : Int)) rfl rfl rfl rfl ((congrArg _ (show _ = ((xs.length - 1 : Nat) : Int) from by omega)).trans (wrI64 (by omega) (by omega))) ?_)
  refine xAs ?_
  refine wKp [(0, _), (2, _), (3, _)] ⟨rfl, rfl, rfl, trivial⟩ ?_
  refine wSR ?_
  refine xMv ?_
  refine xMv ?_
  refine oX (w_invN [1] rfl rfl rfl rfl en272 rfl rfl (found_val mth187Swap Tryz.underlying187 lk188 (atL 0 rfl rfl rfl)) (idSwap_c _ _ _ _ _ _ _ _ (get_hat (by omega)) (get_hat (by omega)) (by omega) _ hv) ?_)
  rintro _ _ _ hles ⟨rfl, ls, rfl, hvs⟩
  refine wTd [(0, _), (2, _), (3, _)] [_, _] ⟨rfl, rfl, rfl, trivial⟩ rfl ?_
  obtain ⟨zs, hzs, hzl⟩ : ∃ zs, zs = swp xs 0 (xs.length - 1) ∧ zs.length = xs.length := ⟨_, rfl, swp_len _ _ _⟩
  have hzz := hvs
  change VecR _ _ _ _ _ _ _ (swp xs 0 (xs.length - 1)) at hzz
  rw [← hzs] at hzz
  have hdb : DownBut zs (zs.length - 1) 0 := by rw [hzl, hzs]; exact pop_but hh hm0
  have hlz : hat zs (zs.length - 1) = hat xs 0 := by rw [hzl, hzs]; exact swp_last hm0
  have hpz : zs.Perm xs := hzs ▸ swp_perm hm0 (by omega)
  rw [← hzl]
  refine wSR ?_
  refine xMv ?_
  refine xMv ?_
  refine oX (w_callN [0, 1] rfl rfl rfl rfl en202 rfl (heapDown_c _ _ _ _ _ _ (by omega) (by omega) (by omega) hdb _ hzz) ?_)
  rintro _ _ _ hled ⟨rfl, ysd, ld, rfl, hvd, hpd, hhd, hsd⟩
  refine wTd [(0, _), (2, _), (3, _)] [_, _] ⟨rfl, rfl, rfl, trivial⟩ rfl ?_
  have hdl := hpd.length_eq
  refine wSR ?_
  refine xMv ?_
  refine oX (w_invN [0, 1] rfl rfl rfl rfl en270 rfl rfl (found_ptr mth187Pop Tryz.underlying187) (idPop_c _ _ _ _ _ _ (get_hat (by omega)) (by omega) _ hvd) ?_)
  rintro _ _ _ hleo ⟨rfl, rfl, rfl, hvo⟩
  refine xAs ?_
  refine wTd [(0, _), (2, _), (3, _)] [_, _] ⟨rfl, rfl, rfl, trivial⟩ rfl ?_
  refine w_ret ?_
  have hz9 : hat ysd (ysd.length - 1) = hat xs 0 := by rw [hsd _ (by omega), hdl]; exact hlz
  exact endN .ret (.inl rfl) [_] [0, 1] rfl ⟨rfl, trivial⟩ ⟨rfl, by rw [hz9]; rfl, _, _, by rw [show (ysd.take (ysd.length - 1)).length = ysd.length - 1 from by simp], hvo, pop_perm (by omega) (hpd.trans hpz) hz9, heapN_take (by rw [hdl]; exact hhd) (by omega)⟩

set_option maxRecDepth 4000 in
set_option maxHeartbeats 400000 in
theorem idsAscend_c (q : Option Addr) (cp : Nat) (xs : List DItem) (last : Int) (B : Kn) (ha : SlK B q cp 4 ItemR xs) : RetB (pj J) 110 [.slice q xs.length cp, .int .i64 last] B (.bool (asc 0 last (xs.map (·.id)))) := by
  refine cBB 53 Tryz.func110 rfl rfl rfl (Nat.le_of_ble_eq_true rfl) ?_
  have hxn := ha.len
  refine wSR ?_
  refine xAs ?_
  refine wKp [(0, _), (1, _), (4, _)] ⟨rfl, rfl, rfl, trivial⟩ ?_
  refine wSR ?_
  refine oX (wBS (parts := []) [] rfl rfl Tryz.underlying126 sz3 zo3 rfl rfl rfl rfl rfl (fun b1 => ?_))
  refine oX (w_box (l := [_]) rfl rfl rfl rfl (fun b2 => ?_))
  refine xAs ?_
  refine wTd [(0, _), (1, _), (4, _), (5, _)] [_, _] ⟨rfl, rfl, rfl, rfl, trivial⟩ rfl ?_
  refine w_seq ?_
  refine wSR ?_
  refine xMv ?_
  refine oX (w_lenV rfl rfl Tryz.underlying27 rfl ?_)
  refine xMv ?_
  refine wKp [(0, _), (1, _), (4, _), (5, _), (14, _), (15, _), (16, _)] ⟨rfl, rfl, rfl, rfl, rfl, rfl, rfl, trivial⟩ ?_
  refine w_block ?_
  refine w_loopE (α := Gh Int) [0, 1, 4, 5, 14, 15] (fun g => [(16, .int .i64 g.k)]) [0, 1] (fun g => [g.l, box1 b2 [.slice g.a g.xs.length g.c] 188]) (fun g Bx => Bx = B ∧ g.k ≤ xs.length ∧ g.xs.Perm ((xs.take g.k).map (·.id)) ∧ IsHeap g.xs ∧ VecR Bx g.l g.a g.c 3 1 IntR g.xs) (fun g => xs.length - g.k) ⟨0, 0, _, _, _, []⟩ ⟨rfl, trivial⟩ rfl (⟨rfl, Nat.zero_le _, .refl _, heap_nil, .lit0⟩) (fun g B3 hle3 hI => ?_)
  obtain ⟨rfl, hk, hp, hh, hv⟩ := hI
  have hpl := hp.length_eq
  rw [List.length_map, List.length_take] at hpl
  refine wTd [(0, _), (1, _), (4, _), (5, _), (14, _), (15, _), (16, _)] [_, _] ⟨rfl, rfl, rfl, rfl, rfl, rfl, rfl, trivial⟩ rfl ?_
  refine wSR ?_
  refine oX (w_lss rfl rfl rfl rfl ?_)
  refine wKp [(0, _), (1, _), (4, _), (5, _), (14, _), (15, _), (16, _), (17, _)] ⟨rfl, rfl, rfl, rfl, rfl, rfl, rfl, rfl, trivial⟩ ?_
  refine w_seq ?_
  refine wCd rfl (fun g1 => ?_) (fun g1 => ?_)
  · try simp only [sQ1, sQ2, sQ3, sQ4, sQ5, sQ6, sQ7, sQ8, ne_eq] at g1
    refine w_skip ?_
    refine thn_n ?_
    refine w_seq ?_
    refine w_block ?_
    refine wSR ?_
    obtain ⟨x, hx⟩ := getLt (xs := xs) (i := g.k) (by first | omega | (simp; done) | (simp; omega))
    obtain ⟨bb5, oo5, rfl⟩ := ha.base hx
    obtain ⟨_, ⟨qi6, ci6, rfl, hi6, hb6, hb6b⟩, hc6⟩ := ha.elem hx
    have hi6n := hi6.len
    refine oX (w_ixB rfl rfl Tryz.underlying27 sz100 rfl rfl (by first | omega | (simp; done) | (simp; omega)) (by first | omega | (simp; done) | (simp; omega)) ?_)
    refine oX (w_loadN [_, _, _, _] rfl rfl lk100 rfl (rowK hc6 0 rfl rfl) ?_)
    refine oX (w_alloc (l := [_, _, _, _]) rfl rfl zo100 rfl (fun b7 => ?_))
    refine oX (w_store [_, _, _, _] 2 [_, _, _, _] rfl rfl sz100 rfl rfl rfl rfl rfl rfl rfl rfl ?_)
    refine wTd [(0, _), (1, _), (4, _), (5, _), (7, _), (14, _), (15, _), (16, _), (17, _)] [_, _, _] ⟨rfl, rfl, rfl, rfl, rfl, rfl, rfl, rfl, rfl, trivial⟩ rfl ?_
    refine w_region ?_
    refine xMv ?_
    refine oX (w_makeIface rfl rfl Tryz.underlying187 rfl rfl ?_)
    refine oX (wFA rfl rfl fo100x0 rfl ?_)
    refine oX (w_load1 rfl rfl lk3 rfl (atL 2 rfl rfl rfl) ?_)
    refine oX (w_makeIface rfl rfl Tryz.underlying3 rfl rfl ?_)
    refine oX (w_callN [1, 0] rfl rfl rfl rfl en154 rfl (heapPush_c _ _ _ _ _ _ (by omega) hh _ hv) ?_)
    rintro _ _ _ hlep ⟨rfl, qp, cp, ysp, lp, rfl, hvp, hpp, hhp⟩
    refine inB_n (thn_n ?_)
    refine w_region ?_
    refine oX (w_add rfl rfl rfl rfl (by first | exact wrI64 (by first | omega | (simp; done) | (simp; omega)) (by first | omega | (simp; done) | (simp; omega)) | rfl) ?_)
    refine xMv ?_
    exact rndE_n ⟨g.k + 1, 0, lp, _, _, ysp⟩ [0, 1] (by first | omega | (simp only []; omega)) ⟨rfl, by simp only []; omega, by simp only []; rw [take_snoc hx, List.map_append]; exact hpp.trans (hp.append_right _), hhp, hvp⟩ ⟨rfl, rfl, rfl, rfl, rfl, rfl, rfl, trivial⟩ rfl
  · try simp only [sQ1, sQ2, sQ3, sQ4, sQ5, sQ6, sQ7, sQ8, ne_eq] at g1
    have hxe : xs.take g.k = xs := List.take_of_length_le (by omega)
    rw [hxe] at hp
    refine w_exit (thn_x (rndE_x (inB_hit (thn_n ?_))))
    refine wSR ?_
    refine xAs ?_
    refine wKp [(0, _), (1, _), (4, _), (5, _), (8, _), (14, _), (15, _), (16, _), (17, _)] ⟨rfl, rfl, rfl, rfl, rfl, rfl, rfl, rfl, rfl, trivial⟩ ?_
    refine w_seq ?_
    refine wSR ?_
    refine xMv ?_
    refine oX (w_lenV rfl rfl Tryz.underlying27 rfl ?_)
    refine xMv ?_
    refine wKp [(0, _), (1, _), (4, _), (5, _), (8, _), (14, _), (15, _), (16, _), (17, _), (27, _), (28, _), (29, _)] ⟨rfl, rfl, rfl, rfl, rfl, rfl, rfl, rfl, rfl, rfl, rfl, rfl, trivial⟩ ?_
    refine w_block ?_
    refine w_loopE (α := Gh2 Int Int) [0, 1, 5, 14, 15, 16, 17, 27, 28] (fun h => [(8, .int .i64 h.e), (29, .int .i64 h.k)]) [0, 1] (fun h => [h.l, box1 b2 [.slice h.a h.xs.length h.c] 188]) (fun h Bx => Bx = B3 ∧ h.k ≤ xs.length ∧ h.xs.Perm ((xs.drop h.k).map (·.id)) ∧ IsHeap h.xs ∧ asc 0 last (xs.map (·.id)) = asc h.e last ((xs.drop h.k).map (·.id)) ∧ VecR Bx h.l h.a h.c 3 1 IntR h.xs) (fun h => xs.length - h.k) ⟨0, 0, g.l, g.a, g.c, g.xs, 0⟩ ⟨rfl, rfl, trivial⟩ rfl (⟨rfl, Nat.zero_le _, hp, hh, rfl, hv⟩) (fun h B9 hle9 hI => ?_)
    clear hv hp hpl hh
    obtain ⟨rfl, hk, hp, hh, hs, hv⟩ := hI
    have hpl := hp.length_eq
    rw [List.length_map, List.length_drop] at hpl
    refine wTd [(0, _), (1, _), (5, _), (8, _), (14, _), (15, _), (16, _), (17, _), (27, _), (28, _), (29, _)] [_, _] ⟨rfl, rfl, rfl, rfl, rfl, rfl, rfl, rfl, rfl, rfl, rfl, trivial⟩ rfl ?_
    refine wSR ?_
    refine oX (w_lss rfl rfl rfl rfl ?_)
    refine wKp [(0, _), (1, _), (5, _), (8, _), (14, _), (15, _), (16, _), (17, _), (27, _), (28, _), (29, _), (30, _)] ⟨rfl, rfl, rfl, rfl, rfl, rfl, rfl, rfl, rfl, rfl, rfl, rfl, trivial⟩ ?_
    refine w_seq ?_
    refine wCd rfl (fun g2 => ?_) (fun g2 => ?_)
    · try simp only [sQ1, sQ2, sQ3, sQ4, sQ5, sQ6, sQ7, sQ8, ne_eq] at g2
      refine w_skip ?_
      refine thn_n ?_
      refine w_seq ?_
      refine w_block ?_
      refine wSR ?_
      obtain ⟨x, hx⟩ := getLt (xs := xs) (i := h.k) (by first | omega | (simp; done) | (simp; omega))
      obtain ⟨bb11, oo11, rfl⟩ := ha.base hx
      obtain ⟨_, ⟨qi12, ci12, rfl, hi12, hb12, hb12b⟩, hc12⟩ := ha.elem hx
      have hi12n := hi12.len
      refine oX (w_ixB rfl rfl Tryz.underlying27 sz100 rfl rfl (by first | omega | (simp; done) | (simp; omega)) (by first | omega | (simp; done) | (simp; omega)) ?_)
      rw [dropCons hx, List.map_cons] at hp hs
      refine oX (w_loadN [_, _, _, _] rfl rfl lk100 rfl (rowK hc12 0 rfl rfl) ?_)
      refine oX (w_alloc (l := [_, _, _, _]) rfl rfl zo100 rfl (fun b13 => ?_))
      refine oX (w_store [_, _, _, _] 2 [_, _, _, _] rfl rfl sz100 rfl rfl rfl rfl rfl rfl rfl rfl ?_)
      refine wTd [(0, _), (1, _), (5, _), (8, _), (10, _), (14, _), (15, _), (16, _), (17, _), (27, _), (28, _), (29, _), (30, _)] [_, _, _] ⟨rfl, rfl, rfl, rfl, rfl, rfl, rfl, rfl, rfl, rfl, rfl, rfl, rfl, trivial⟩ rfl ?_
      refine wSR ?_
      refine xMv ?_
      refine oX (w_makeIface rfl rfl Tryz.underlying187 rfl rfl ?_)
      refine oX (w_callN [1, 0] rfl rfl rfl rfl en155 rfl (heapPop_c _ _ _ _ _ (by omega) (by omega) hh _ hv) ?_)
      rintro _ _ _ hleo ⟨rfl, rfl, yso, lo, rfl, hvo, hpo, hho⟩
      refine oX (w_assertT rfl rfl Tryz.underlying3 rfl rfl ?_)
      refine xAs ?_
      refine wTd [(0, _), (1, _), (5, _), (8, _), (10, _), (11, _), (14, _), (15, _), (16, _), (17, _), (27, _), (28, _), (29, _), (30, _)] [_, _, _] ⟨rfl, rfl, rfl, rfl, rfl, rfl, rfl, rfl, rfl, rfl, rfl, rfl, rfl, rfl, trivial⟩ rfl ?_
      refine w_seq ?_
      refine wSR ?_
      refine xMv ?_
      refine oX (wFA rfl rfl fo100x0 rfl ?_)
      refine oX (w_load1 rfl rfl lk3 rfl (atL 2 rfl rfl rfl) ?_)
      refine oX (w_neqI rfl rfl rfl rfl ?_)
      refine xMv ?_
      refine r_split (d := 41) rfl (fun g3 => ?_) (fun g3 => ?_)
      · try simp only [sQ1, sQ2, sQ3, sQ4, sQ5, sQ6, sQ7, sQ8, ne_eq] at g3
        refine oX (w_pass rfl rfl ?_)
        refine oX (w_pass rfl rfl ?_)
        refine oX (w_pass rfl rfl ?_)
        refine oX (w_pickT rfl rfl rfl rfl ?_)
        refine xMv ?_
        refine oX (w_pass rfl rfl ?_)
        refine oX (w_pass rfl rfl ?_)
        refine oX (w_pass rfl rfl ?_)
        refine oX (w_pickT rfl rfl rfl rfl ?_)
        refine wKp [(0, _), (1, _), (5, _), (8, _), (10, _), (11, _), (14, _), (15, _), (16, _), (17, _), (27, _), (28, _), (29, _), (30, _), (50, _)] ⟨rfl, rfl, rfl, rfl, rfl, rfl, rfl, rfl, rfl, rfl, rfl, rfl, rfl, rfl, rfl, trivial⟩ ?_
        refine wCd (t := true) rfl (fun _ => ?_) (fun h => Bool.noConfusion h)
        refine wSR ?_
        refine xAs ?_
        refine wKp [(0, _), (1, _), (4, _), (5, _), (8, _), (10, _), (11, _), (14, _), (15, _), (16, _), (17, _), (27, _), (28, _), (29, _), (30, _), (50, _)] ⟨rfl, rfl, rfl, rfl, rfl, rfl, rfl, rfl, rfl, rfl, rfl, rfl, rfl, rfl, rfl, rfl, trivial⟩ ?_
        refine w_ret (thn_r (inB_r (thn_r (rndE_r (inB_r (thn_r ?_))))))
        exact end0 .ret (.inl rfl) [_] ⟨rfl, trivial⟩ ⟨bool_eq (by rw [hs]; exact asc_bad1 hp hh (by simpa using g3)), rfl, rfl⟩
      · try simp only [sQ1, sQ2, sQ3, sQ4, sQ5, sQ6, sQ7, sQ8, ne_eq] at g3
        refine xMv ?_
        refine xMv ?_
        refine oX (w_leq rfl rfl rfl rfl ?_)
        refine oX (w_pickF rfl rfl rfl rfl ?_)
        refine xMv ?_
        refine r_split (d := 46) rfl (fun g4 => ?_) (fun g4 => ?_)
        · try simp only [sQ1, sQ2, sQ3, sQ4, sQ5, sQ6, sQ7, sQ8, ne_eq] at g4
          refine oX (w_pass rfl rfl ?_)
          refine oX (w_pass rfl rfl ?_)
          refine oX (w_pass rfl rfl ?_)
          refine oX (w_pickT rfl rfl rfl rfl ?_)
          refine wKp [(0, _), (1, _), (5, _), (8, _), (10, _), (11, _), (14, _), (15, _), (16, _), (17, _), (27, _), (28, _), (29, _), (30, _), (50, _)] ⟨rfl, rfl, rfl, rfl, rfl, rfl, rfl, rfl, rfl, rfl, rfl, rfl, rfl, rfl, rfl, trivial⟩ ?_
          refine wCd (t := true) rfl (fun _ => ?_) (fun h => Bool.noConfusion h)
          refine wSR ?_
          refine xAs ?_
          refine wKp [(0, _), (1, _), (4, _), (5, _), (8, _), (10, _), (11, _), (14, _), (15, _), (16, _), (17, _), (27, _), (28, _), (29, _), (30, _), (50, _)] ⟨rfl, rfl, rfl, rfl, rfl, rfl, rfl, rfl, rfl, rfl, rfl, rfl, rfl, rfl, rfl, rfl, trivial⟩ ?_
          refine w_ret (thn_r (inB_r (thn_r (rndE_r (inB_r (thn_r ?_))))))
          exact end0 .ret (.inl rfl) [_] ⟨rfl, trivial⟩ ⟨bool_eq (by rw [hs]; exact asc_bad2 (by rw [← g3]; simpa using g4)), rfl, rfl⟩
        · try simp only [sQ1, sQ2, sQ3, sQ4, sQ5, sQ6, sQ7, sQ8, ne_eq] at g4
          refine xMv ?_
          refine xMv ?_
          refine oX (w_gtr rfl rfl rfl rfl ?_)
          refine oX (w_pickF rfl rfl rfl rfl ?_)
          refine wKp [(0, _), (1, _), (5, _), (8, _), (10, _), (11, _), (14, _), (15, _), (16, _), (17, _), (27, _), (28, _), (29, _), (30, _), (50, _)] ⟨rfl, rfl, rfl, rfl, rfl, rfl, rfl, rfl, rfl, rfl, rfl, rfl, rfl, rfl, rfl, trivial⟩ ?_
          refine wCd rfl (fun g5 => ?_) (fun g5 => ?_)
          · try simp only [sQ1, sQ2, sQ3, sQ4, sQ5, sQ6, sQ7, sQ8, ne_eq] at g5
            refine wSR ?_
            refine xAs ?_
            refine wKp [(0, _), (1, _), (4, _), (5, _), (8, _), (10, _), (11, _), (14, _), (15, _), (16, _), (17, _), (27, _), (28, _), (29, _), (30, _), (50, _)] ⟨rfl, rfl, rfl, rfl, rfl, rfl, rfl, rfl, rfl, rfl, rfl, rfl, rfl, rfl, rfl, rfl, trivial⟩ ?_
            refine w_ret (thn_r (inB_r (thn_r (rndE_r (inB_r (thn_r ?_))))))
            exact end0 .ret (.inl rfl) [_] ⟨rfl, trivial⟩ ⟨bool_eq (by rw [hs]; exact asc_bad3 (by rw [← g3]; simpa using g5)), rfl, rfl⟩
          · try simp only [sQ1, sQ2, sQ3, sQ4, sQ5, sQ6, sQ7, sQ8, ne_eq] at g5
            refine w_skip ?_
            refine thn_n ?_
            refine w_region ?_
            refine xMv ?_
            refine xAs ?_
            refine inB_n (thn_n ?_)
            refine w_region ?_
            refine oX (w_add rfl rfl rfl rfl (by first | exact wrI64 (by first | omega | (simp; done) | (simp; omega)) (by first | omega | (simp; done) | (simp; omega)) | rfl) ?_)
            refine xMv ?_
            exact rndE_n ⟨h.k + 1, 0, lo, _, _, yso, hat h.xs 0⟩ [0, 1] (by first | omega | (simp only []; omega)) ⟨rfl, by simp only []; omega, List.Perm.cons_inv ((show (x.id :: yso).Perm (hat h.xs 0 :: yso) from by rw [g3]).trans (hpo.trans hp)), hho, by simp only []; rw [hs, g3]; exact asc_go (by rw [← g3]; simpa using g4) (by rw [← g3]; simpa using g5), hvo⟩ ⟨rfl, rfl, rfl, rfl, rfl, rfl, rfl, rfl, rfl, rfl, rfl, trivial⟩ rfl
    · try simp only [sQ1, sQ2, sQ3, sQ4, sQ5, sQ6, sQ7, sQ8, ne_eq] at g2
      rw [dropEnd (by omega), List.map_nil, asc] at hs
      refine w_exit (thn_x (rndE_x (inB_hit (thn_n ?_))))
      refine wSR ?_
      refine xAs ?_
      refine wKp [(0, _), (1, _), (4, _), (5, _), (8, _), (14, _), (15, _), (16, _), (17, _), (27, _), (28, _), (29, _), (30, _)] ⟨rfl, rfl, rfl, rfl, rfl, rfl, rfl, rfl, rfl, rfl, rfl, rfl, rfl, trivial⟩ ?_
      refine w_ret ?_
      exact end0 .ret (.inl rfl) [_] ⟨rfl, trivial⟩ ⟨bool_eq hs.symm, rfl, rfl⟩

set_option maxRecDepth 4000 in
set_option maxHeartbeats 400000 in
theorem implQueue_c (aq : Option Addr) (cq : Nat) (q : DQueue) (B : Kn) (hq : SlK B aq cq 4 ItemR q.items) : RetB (pj J) 56 [.agg #[.int .i64 q.next, .slice aq q.items.length cq]] B (.bool (queueOk q)) := by
  refine cBB 42 Tryz.func56 rfl rfl rfl (Nat.le_of_ble_eq_true rfl) ?_
  have hqn := hq.len
  refine wSR ?_
  refine oX (w_box (l := [_, _]) rfl rfl rfl rfl (fun b1 => ?_))
  refine xAs ?_
  refine wTd [(0, _), (1, _), (2, _)] [_] ⟨rfl, rfl, rfl, trivial⟩ rfl ?_
  refine w_seq ?_
  refine wSR ?_
  refine oX (wFA rfl rfl fo29x1 rfl ?_)
  refine oX (w_load1 rfl rfl lk27 rfl (atL 0 rfl rfl rfl) ?_)
  refine oX (w_lenV rfl rfl Tryz.underlying27 rfl ?_)
  refine oX (w_gtr rfl rfl rfl rfl ?_)
  refine xMv ?_
  refine r_split (d := 9) rfl (fun g1 => ?_) (fun g1 => ?_)
  · try simp only [sQ1, sQ2, sQ3, sQ4, sQ5, sQ6, sQ7, sQ8, ne_eq] at g1
    refine oX (w_pass rfl rfl ?_)
    refine oX (w_pass rfl rfl ?_)
    refine oX (w_pass rfl rfl ?_)
    refine oX (w_pickT rfl rfl rfl rfl ?_)
    refine xMv ?_
    refine oX (w_pass rfl rfl ?_)
    refine oX (w_pass rfl rfl ?_)
    refine oX (w_pass rfl rfl ?_)
    refine oX (w_pickT rfl rfl rfl rfl ?_)
    refine wKp [(0, _), (1, _), (2, _), (18, _)] ⟨rfl, rfl, rfl, rfl, trivial⟩ ?_
    refine wCd (t := true) rfl (fun _ => ?_) (fun h => Bool.noConfusion h)
    refine wSR ?_
    refine xAs ?_
    refine wKp [(0, _), (1, _), (2, _), (18, _)] ⟨rfl, rfl, rfl, rfl, trivial⟩ ?_
    refine w_ret (thn_r ?_)
    exact end0 .ret (.inl rfl) [_] ⟨rfl, trivial⟩ ⟨bool_eq (queueOk_no (by omega)), rfl, rfl⟩
  · try simp only [sQ1, sQ2, sQ3, sQ4, sQ5, sQ6, sQ7, sQ8, ne_eq] at g1
    refine oX (wFA rfl rfl fo29x0 rfl ?_)
    refine oX (w_load1 rfl rfl lk3 rfl (atL 0 rfl rfl rfl) ?_)
    refine oX (w_lss rfl rfl rfl rfl ?_)
    refine oX (w_pickF rfl rfl rfl rfl ?_)
    refine xMv ?_
    refine r_split (d := 14) rfl (fun g2 => ?_) (fun g2 => ?_)
    · try simp only [sQ1, sQ2, sQ3, sQ4, sQ5, sQ6, sQ7, sQ8, ne_eq] at g2
      refine oX (w_pass rfl rfl ?_)
      refine oX (w_pass rfl rfl ?_)
      refine oX (w_pass rfl rfl ?_)
      refine oX (w_pickT rfl rfl rfl rfl ?_)
      refine wKp [(0, _), (1, _), (2, _), (18, _)] ⟨rfl, rfl, rfl, rfl, trivial⟩ ?_
      refine wCd (t := true) rfl (fun _ => ?_) (fun h => Bool.noConfusion h)
      refine wSR ?_
      refine xAs ?_
      refine wKp [(0, _), (1, _), (2, _), (18, _)] ⟨rfl, rfl, rfl, rfl, trivial⟩ ?_
      refine w_ret (thn_r ?_)
      exact end0 .ret (.inl rfl) [_] ⟨rfl, trivial⟩ ⟨bool_eq (queueOk_no (by omega)), rfl, rfl⟩
    · try simp only [sQ1, sQ2, sQ3, sQ4, sQ5, sQ6, sQ7, sQ8, ne_eq] at g2
      refine oX (wFA rfl rfl fo29x0 rfl ?_)
      refine oX (w_load1 rfl rfl lk3 rfl (atL 0 rfl rfl rfl) ?_)
      refine oX (w_gtr rfl rfl rfl rfl ?_)
      refine oX (w_pickF rfl rfl rfl rfl ?_)
      refine wKp [(0, _), (1, _), (2, _), (18, _)] ⟨rfl, rfl, rfl, rfl, trivial⟩ ?_
      refine wCd rfl (fun g3 => ?_) (fun g3 => ?_)
      · try simp only [sQ1, sQ2, sQ3, sQ4, sQ5, sQ6, sQ7, sQ8, ne_eq] at g3
        refine wSR ?_
        refine xAs ?_
        refine wKp [(0, _), (1, _), (2, _), (18, _)] ⟨rfl, rfl, rfl, rfl, trivial⟩ ?_
        refine w_ret (thn_r ?_)
        exact end0 .ret (.inl rfl) [_] ⟨rfl, trivial⟩ ⟨bool_eq (queueOk_no (by omega)), rfl, rfl⟩
      · try simp only [sQ1, sQ2, sQ3, sQ4, sQ5, sQ6, sQ7, sQ8, ne_eq] at g3
        refine w_skip ?_
        refine thn_n ?_
        refine w_seq ?_
        refine wSR ?_
        refine oX (wFA rfl rfl fo29x1 rfl ?_)
        refine oX (w_load1 rfl rfl lk27 rfl (atL 0 rfl rfl rfl) ?_)
        refine oX (w_lenV rfl rfl Tryz.underlying27 rfl ?_)
        refine xMv ?_
        refine wKp [(0, _), (1, _), (2, _), (18, _), (20, _), (21, _), (22, _)] ⟨rfl, rfl, rfl, rfl, rfl, rfl, rfl, trivial⟩ ?_
        refine w_block ?_
        refine w_loopE (α := Nat) [0, 1, 18, 20, 21] (fun k => [(22, .int .i64 k)]) [] (fun k => []) (fun k Bx => Bx = B ∧ k ≤ q.items.length ∧ (q.items.take k).all itemOk = true) (fun k => q.items.length - k) 0 ⟨rfl, trivial⟩ rfl (⟨rfl, Nat.zero_le _, by simp⟩) (fun k B2 hle2 hI => ?_)
        obtain ⟨rfl, hk, ha⟩ := hI
        refine wTd [(0, _), (1, _), (18, _), (20, _), (21, _), (22, _)] [_] ⟨rfl, rfl, rfl, rfl, rfl, rfl, trivial⟩ rfl ?_
        refine wSR ?_
        refine oX (w_lss rfl rfl rfl rfl ?_)
        refine wKp [(0, _), (1, _), (18, _), (20, _), (21, _), (22, _), (23, _)] ⟨rfl, rfl, rfl, rfl, rfl, rfl, rfl, trivial⟩ ?_
        refine w_seq ?_
        refine wCd rfl (fun g4 => ?_) (fun g4 => ?_)
        · try simp only [sQ1, sQ2, sQ3, sQ4, sQ5, sQ6, sQ7, sQ8, ne_eq] at g4
          refine w_skip ?_
          refine thn_n ?_
          refine w_seq ?_
          refine w_block ?_
          refine wSR ?_
          obtain ⟨x, hx⟩ := getLt (xs := q.items) (i := k) (by first | omega | (simp; done) | (simp; omega))
          obtain ⟨bb4, oo4, rfl⟩ := hq.base hx
          obtain ⟨_, ⟨qi5, ci5, rfl, hi5, hb5, hb5b⟩, hc5⟩ := hq.elem hx
          have hi5n := hi5.len
          refine oX (w_ixB rfl rfl Tryz.underlying27 sz100 rfl rfl (by first | omega | (simp; done) | (simp; omega)) (by first | omega | (simp; done) | (simp; omega)) ?_)
          refine oX (w_loadN [_, _, _, _] rfl rfl lk100 rfl (rowK hc5 0 rfl rfl) ?_)
          refine oX (w_alloc (l := [_, _, _, _]) rfl rfl zo100 rfl (fun b6 => ?_))
          refine oX (w_store [_, _, _, _] 1 [_, _, _, _] rfl rfl sz100 rfl rfl rfl rfl rfl rfl rfl rfl ?_)
          refine wTd [(0, _), (1, _), (4, _), (18, _), (20, _), (21, _), (22, _), (23, _)] [_, _] ⟨rfl, rfl, rfl, rfl, rfl, rfl, rfl, rfl, trivial⟩ rfl ?_
          refine wSR ?_
          refine oX (wFA rfl rfl fo100x1 rfl ?_)
          refine oX (w_load1 rfl rfl lk9 rfl (atL 1 rfl rfl rfl) ?_)
          refine oX (wFA rfl rfl fo100x3 rfl ?_)
          refine oX (w_load1 rfl rfl lk98 rfl (atL 1 rfl rfl rfl) ?_)
          refine oX (wFA rfl rfl fo100x2 rfl ?_)
          refine oX (w_load1 rfl rfl lk9 rfl (atL 1 rfl rfl rfl) ?_)
          refine oX (w_build (parts := [(0, _), (1, _), (2, _)]) [_, _, _] [_, _, _] rfl rfl pl138 zo138 rfl rfl rfl ?_)
          refine oX (w_retB rfl rfl en109 rfl (implLetter_c _ _ ⟨x.fr, x.left, x.text⟩ _ hi5 (by first | assumption | omega) (by first | assumption | omega)) ?_)
          refine oX (w_not rfl rfl rfl ?_)
          refine wKp [(0, _), (1, _), (4, _), (18, _), (20, _), (21, _), (22, _), (23, _), (34, _)] ⟨rfl, rfl, rfl, rfl, rfl, rfl, rfl, rfl, rfl, trivial⟩ ?_
          refine wCd rfl (fun g5 => ?_) (fun g5 => ?_)
          · try simp only [sQ1, sQ2, sQ3, sQ4, sQ5, sQ6, sQ7, sQ8, ne_eq] at g5
            refine wSR ?_
            refine xAs ?_
            refine wKp [(0, _), (1, _), (2, _), (4, _), (18, _), (20, _), (21, _), (22, _), (23, _), (34, _)] ⟨rfl, rfl, rfl, rfl, rfl, rfl, rfl, rfl, rfl, rfl, trivial⟩ ?_
            refine w_ret (inB_r (thn_r (rndE_r (inB_r (thn_r ?_)))))
            exact end0 .ret (.inl rfl) [_] ⟨rfl, trivial⟩ ⟨bool_eq (queueOk_bad hx g5), rfl, rfl⟩
          · try simp only [sQ1, sQ2, sQ3, sQ4, sQ5, sQ6, sQ7, sQ8, ne_eq] at g5
            refine w_skip ?_
            refine inB_n (thn_n ?_)
            refine w_region ?_
            refine oX (w_add rfl rfl rfl rfl (by first | exact wrI64 (by first | omega | (simp; done) | (simp; omega)) (by first | omega | (simp; done) | (simp; omega)) | rfl) ?_)
            refine xMv ?_
            exact rndE_n (k + 1) [0] (by first | omega | (simp only []; omega)) ⟨rfl, by omega, all_up hx g5 ha⟩ ⟨rfl, rfl, rfl, rfl, rfl, rfl, trivial⟩ rfl
        · try simp only [sQ1, sQ2, sQ3, sQ4, sQ5, sQ6, sQ7, sQ8, ne_eq] at g4
          refine w_exit (thn_x (rndE_x (inB_hit (thn_n ?_))))
          refine wSR ?_
          refine oX (wFA rfl rfl fo29x1 rfl ?_)
          refine oX (w_load1 rfl rfl lk27 rfl (atL 0 rfl rfl rfl) ?_)
          refine oX (wFA rfl rfl fo29x0 rfl ?_)
          refine oX (w_load1 rfl rfl lk3 rfl (atL 0 rfl rfl rfl) ?_)
          refine oX (w_sub rfl rfl rfl rfl (by first | exact wrI64 (by first | omega | (simp; done) | (simp; omega)) (by first | omega | (simp; done) | (simp; omega)) | rfl) ?_)
          refine oX (w_retB rfl rfl en110 rfl (idsAscend_c _ _ _ _ _ hq) ?_)
          refine xAs ?_
          refine wKp [(0, _), (1, _), (2, _), (18, _), (20, _), (21, _), (22, _), (23, _)] ⟨rfl, rfl, rfl, rfl, rfl, rfl, rfl, rfl, trivial⟩ ?_
          refine w_ret ?_
          exact end0 .ret (.inl rfl) [_] ⟨rfl, trivial⟩ ⟨bool_eq (queueOk_end (by omega) ha (by omega) (by omega) (by omega)), rfl, rfl⟩

set_option maxRecDepth 4000 in
set_option maxHeartbeats 400000 in
theorem l4Flags_c (n : Int) (B : Kn) : RetB (pj J) 214 [.int .i64 n] B (.bool (decide (0 ≤ n) && decide (n ≤ 31))) := by
  refine cBB 5 Tryz.func214 rfl rfl rfl (Nat.le_of_ble_eq_true rfl) ?_
  refine wSR ?_
  refine xAs ?_
  refine wKp [(0, _), (2, _)] ⟨rfl, rfl, trivial⟩ ?_
  refine wSR ?_
  refine xMv ?_
  refine oX (w_retB rfl rfl en125 rfl (l6In_c _ _ _ _) ?_)
  refine xAs ?_
  refine wKp [(0, _), (2, _)] ⟨rfl, rfl, trivial⟩ ?_
  refine w_ret ?_
  exact end0 .ret (.inl rfl) [_] ⟨rfl, trivial⟩ ⟨rfl, rfl, rfl⟩

set_option maxRecDepth 4000 in
set_option maxHeartbeats 400000 in
theorem implFlags_c (n : Int) (B : Kn) : RetB (pj J) 190 [.int .i64 n] B (.bool (decide (0 ≤ n) && decide (n ≤ 31))) := by
  refine cBB 9 Tryz.func190 rfl rfl rfl (Nat.le_of_ble_eq_true rfl) ?_
  refine wSR ?_
  refine xAs ?_
  refine wKp [(0, _), (2, _)] ⟨rfl, rfl, trivial⟩ ?_
  refine wSR ?_
  refine xMv ?_
  refine oX (w_geq rfl rfl rfl rfl ?_)
  refine xMv ?_
  refine r_split (d := 5) rfl (fun g1 => ?_) (fun g1 => ?_)
  · try simp only [sQ1, sQ2, sQ3, sQ4, sQ5, sQ6, sQ7, sQ8, ne_eq] at g1
    refine xMv ?_
    refine oX (w_leq rfl rfl rfl rfl ?_)
    refine oX (w_pickT rfl rfl rfl rfl ?_)
    refine xAs ?_
    refine wKp [(0, _), (2, _)] ⟨rfl, rfl, trivial⟩ ?_
    refine w_ret ?_
    exact end0 .ret (.inl rfl) [_] ⟨rfl, trivial⟩ ⟨bool_eq (by rw [Bool.eq_iff_iff]; simp [g1]; try omega), rfl, rfl⟩
  · try simp only [sQ1, sQ2, sQ3, sQ4, sQ5, sQ6, sQ7, sQ8, ne_eq] at g1
    refine oX (w_pass rfl rfl ?_)
    refine oX (w_pass rfl rfl ?_)
    refine oX (w_pickF rfl rfl rfl rfl ?_)
    refine xAs ?_
    refine wKp [(0, _), (2, _)] ⟨rfl, rfl, trivial⟩ ?_
    refine w_ret ?_
    exact end0 .ret (.inl rfl) [_] ⟨rfl, trivial⟩ ⟨bool_eq (by rw [Bool.eq_iff_iff]; simp [g1]; try omega), rfl, rfl⟩

set_option maxRecDepth 4000 in
set_option maxHeartbeats 400000 in
theorem l11Mail_c (m : DMail) (hm : m.text.length ≤ 2000000) (B : Kn) : RetB (pj J) 181 [.agg #[.int .i64 m.uid, .int .i64 m.flags, str m.text]] B (.bool (mailOk m)) := by
  refine cBB 17 Tryz.func181 rfl rfl rfl (Nat.le_of_ble_eq_true rfl) ?_
  refine wSR ?_
  refine oX (w_box (l := [_, _, _]) rfl rfl rfl rfl (fun b1 => ?_))
  refine xAs ?_
  refine wTd [(0, _), (1, _), (2, _)] [_] ⟨rfl, rfl, rfl, trivial⟩ rfl ?_
  refine wSR ?_
  refine oX (wFA rfl rfl fo116x0 rfl ?_)
  refine oX (w_load1 rfl rfl lk3 rfl (atL 0 rfl rfl rfl) ?_)
  refine oX (w_retB rfl rfl en125 rfl (l6In_c _ _ _ _) ?_)
  refine xMv ?_
  refine r_split (d := 6) rfl (fun g1 => ?_) (fun g1 => ?_)
  · try simp only [sQ1, sQ2, sQ3, sQ4, sQ5, sQ6, sQ7, sQ8, ne_eq] at g1
    refine oX (wFA rfl rfl fo116x1 rfl ?_)
    refine oX (w_load1 rfl rfl lk3 rfl (atL 0 rfl rfl rfl) ?_)
    refine oX (w_retB rfl rfl en214 rfl (l4Flags_c _ _) ?_)
    refine oX (w_pickT rfl rfl rfl rfl ?_)
    refine xMv ?_
    refine r_split (d := 11) rfl (fun g2 => ?_) (fun g2 => ?_)
    · try simp only [sQ1, sQ2, sQ3, sQ4, sQ5, sQ6, sQ7, sQ8, ne_eq] at g2
      refine oX (wFA rfl rfl fo116x2 rfl ?_)
      refine oX (w_load1 rfl rfl lk9 rfl (atL 0 rfl rfl rfl) ?_)
      refine oX (w_lenS rfl rfl Tryz.underlying9 rfl ?_)
      refine oX (w_leq rfl rfl rfl rfl ?_)
      refine oX (w_pickT rfl rfl rfl rfl ?_)
      refine xAs ?_
      refine wKp [(0, _), (1, _), (2, _)] ⟨rfl, rfl, rfl, trivial⟩ ?_
      refine w_ret ?_
      exact end0 .ret (.inl rfl) [_] ⟨rfl, trivial⟩ ⟨bool_eq (by rw [Bool.eq_iff_iff]; simp [mailOk, g1, g2]; try omega), rfl, rfl⟩
    · try simp only [sQ1, sQ2, sQ3, sQ4, sQ5, sQ6, sQ7, sQ8, ne_eq] at g2
      refine oX (w_pass rfl rfl ?_)
      refine oX (w_pass rfl rfl ?_)
      refine oX (w_pass rfl rfl ?_)
      refine oX (w_pass rfl rfl ?_)
      refine oX (w_pickF rfl rfl rfl rfl ?_)
      refine xAs ?_
      refine wKp [(0, _), (1, _), (2, _)] ⟨rfl, rfl, rfl, trivial⟩ ?_
      refine w_ret ?_
      exact end0 .ret (.inl rfl) [_] ⟨rfl, trivial⟩ ⟨bool_eq (by rw [Bool.eq_iff_iff]; simp [mailOk, g1, g2]; try omega), rfl, rfl⟩
  · try simp only [sQ1, sQ2, sQ3, sQ4, sQ5, sQ6, sQ7, sQ8, ne_eq] at g1
    refine oX (w_pass rfl rfl ?_)
    refine oX (w_pass rfl rfl ?_)
    refine oX (w_pass rfl rfl ?_)
    refine oX (w_pickF rfl rfl rfl rfl ?_)
    refine xMv ?_
    refine oX (w_pass rfl rfl ?_)
    refine oX (w_pass rfl rfl ?_)
    refine oX (w_pass rfl rfl ?_)
    refine oX (w_pass rfl rfl ?_)
    refine oX (w_pickF rfl rfl rfl rfl ?_)
    refine xAs ?_
    refine wKp [(0, _), (1, _), (2, _)] ⟨rfl, rfl, rfl, trivial⟩ ?_
    refine w_ret ?_
    exact end0 .ret (.inl rfl) [_] ⟨rfl, trivial⟩ ⟨bool_eq (by rw [Bool.eq_iff_iff]; simp [mailOk, g1]; try omega), rfl, rfl⟩

set_option maxRecDepth 4000 in
set_option maxHeartbeats 400000 in
theorem implMail_c (m : DMail) (hm : m.text.length ≤ 2000000) (B : Kn) : RetB (pj J) 145 [.agg #[.int .i64 m.uid, .int .i64 m.flags, str m.text]] B (.bool (mailOk m)) := by
  refine cBB 22 Tryz.func145 rfl rfl rfl (Nat.le_of_ble_eq_true rfl) ?_
  refine wSR ?_
  refine oX (w_box (l := [_, _, _]) rfl rfl rfl rfl (fun b1 => ?_))
  refine xAs ?_
  refine wTd [(0, _), (1, _), (2, _)] [_] ⟨rfl, rfl, rfl, trivial⟩ rfl ?_
  refine wSR ?_
  refine oX (wFA rfl rfl fo116x0 rfl ?_)
  refine oX (w_load1 rfl rfl lk3 rfl (atL 0 rfl rfl rfl) ?_)
  refine oX (w_geq rfl rfl rfl rfl ?_)
  refine xMv ?_
  refine r_split (d := 6) rfl (fun g1 => ?_) (fun g1 => ?_)
  · try simp only [sQ1, sQ2, sQ3, sQ4, sQ5, sQ6, sQ7, sQ8, ne_eq] at g1
    refine oX (wFA rfl rfl fo116x0 rfl ?_)
    refine oX (w_load1 rfl rfl lk3 rfl (atL 0 rfl rfl rfl) ?_)
    refine oX (w_leq rfl rfl rfl rfl ?_)
    refine oX (w_pickT rfl rfl rfl rfl ?_)
    refine xMv ?_
    refine r_split (d := 11) rfl (fun g2 => ?_) (fun g2 => ?_)
    · try simp only [sQ1, sQ2, sQ3, sQ4, sQ5, sQ6, sQ7, sQ8, ne_eq] at g2
      refine oX (wFA rfl rfl fo116x1 rfl ?_)
      refine oX (w_load1 rfl rfl lk3 rfl (atL 0 rfl rfl rfl) ?_)
      refine oX (w_retB rfl rfl en190 rfl (implFlags_c _ _) ?_)
      refine oX (w_pickT rfl rfl rfl rfl ?_)
      refine xMv ?_
      refine r_split (d := 16) rfl (fun g3 => ?_) (fun g3 => ?_)
      · try simp only [sQ1, sQ2, sQ3, sQ4, sQ5, sQ6, sQ7, sQ8, ne_eq] at g3
        refine oX (wFA rfl rfl fo116x2 rfl ?_)
        refine oX (w_load1 rfl rfl lk9 rfl (atL 0 rfl rfl rfl) ?_)
        refine oX (w_lenS rfl rfl Tryz.underlying9 rfl ?_)
        refine oX (w_leq rfl rfl rfl rfl ?_)
        refine oX (w_pickT rfl rfl rfl rfl ?_)
        refine xAs ?_
        refine wKp [(0, _), (1, _), (2, _)] ⟨rfl, rfl, rfl, trivial⟩ ?_
        refine w_ret ?_
        exact end0 .ret (.inl rfl) [_] ⟨rfl, trivial⟩ ⟨bool_eq (by rw [Bool.eq_iff_iff]; simp [mailOk, g1, g2, g3]; try omega), rfl, rfl⟩
      · try simp only [sQ1, sQ2, sQ3, sQ4, sQ5, sQ6, sQ7, sQ8, ne_eq] at g3
        refine oX (w_pass rfl rfl ?_)
        refine oX (w_pass rfl rfl ?_)
        refine oX (w_pass rfl rfl ?_)
        refine oX (w_pass rfl rfl ?_)
        refine oX (w_pickF rfl rfl rfl rfl ?_)
        refine xAs ?_
        refine wKp [(0, _), (1, _), (2, _)] ⟨rfl, rfl, rfl, trivial⟩ ?_
        refine w_ret ?_
        exact end0 .ret (.inl rfl) [_] ⟨rfl, trivial⟩ ⟨bool_eq (by rw [Bool.eq_iff_iff]; simp [mailOk, g1, g2, g3]; try omega), rfl, rfl⟩
    · try simp only [sQ1, sQ2, sQ3, sQ4, sQ5, sQ6, sQ7, sQ8, ne_eq] at g2
      refine oX (w_pass rfl rfl ?_)
      refine oX (w_pass rfl rfl ?_)
      refine oX (w_pass rfl rfl ?_)
      refine oX (w_pickF rfl rfl rfl rfl ?_)
      refine xMv ?_
      refine oX (w_pass rfl rfl ?_)
      refine oX (w_pass rfl rfl ?_)
      refine oX (w_pass rfl rfl ?_)
      refine oX (w_pass rfl rfl ?_)
      refine oX (w_pickF rfl rfl rfl rfl ?_)
      refine xAs ?_
      refine wKp [(0, _), (1, _), (2, _)] ⟨rfl, rfl, rfl, trivial⟩ ?_
      refine w_ret ?_
      exact end0 .ret (.inl rfl) [_] ⟨rfl, trivial⟩ ⟨bool_eq (by rw [Bool.eq_iff_iff]; simp [mailOk, g1, g2]; try omega), rfl, rfl⟩
  · try simp only [sQ1, sQ2, sQ3, sQ4, sQ5, sQ6, sQ7, sQ8, ne_eq] at g1
    refine oX (w_pass rfl rfl ?_)
    refine oX (w_pass rfl rfl ?_)
    refine oX (w_pass rfl rfl ?_)
    refine oX (w_pickF rfl rfl rfl rfl ?_)
    refine xMv ?_
    refine oX (w_pass rfl rfl ?_)
    refine oX (w_pass rfl rfl ?_)
    refine oX (w_pass rfl rfl ?_)
    refine oX (w_pickF rfl rfl rfl rfl ?_)
    refine xMv ?_
    refine oX (w_pass rfl rfl ?_)
    refine oX (w_pass rfl rfl ?_)
    refine oX (w_pass rfl rfl ?_)
    refine oX (w_pass rfl rfl ?_)
    refine oX (w_pickF rfl rfl rfl rfl ?_)
    refine xAs ?_
    refine wKp [(0, _), (1, _), (2, _)] ⟨rfl, rfl, rfl, trivial⟩ ?_
    refine w_ret ?_
    exact end0 .ret (.inl rfl) [_] ⟨rfl, trivial⟩ ⟨bool_eq (by rw [Bool.eq_iff_iff]; simp [mailOk, g1]; try omega), rfl, rfl⟩

end Go.Proofs.YtgbecfimpgknnaaGreat
