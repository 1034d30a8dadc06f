/-
  WHAT THE FUNCTIONS THAT THE LAWS REACH COMPUTE: each function's contract, proved off its printed body (the text is written by program). No condition beyond those that each theorem states.
-/
import Derived.Test.YtgbecfimpgknnaaGreatRows
import Derived.Test.YtgbecfimpgknnaaGreatL0
import Derived.KernelRfl
namespace Go.Proofs.YtgbecfimpgknnaaGreat
open Go Go.BL
set_option linter.unusedVariables false
set_option linter.unusedSimpArgs false
noncomputable abbrev pj (J : JoinT) : PJ := ⟨Tryz.prog, J⟩
noncomputable abbrev wgL : Go.Conc.Lib.WgLink := { add := 112, done := 114, wait := 117, relMerge := 157, disable := 158, enable := 159, inBubble := 160, associate := 161, fatal := 162, uOr := 163, uAdd := 164, raceRead := 165, uLoad := 166, uStore := 167, disassociate := 168, semrelease := 169, acquire := 171, isAssociated := 172, uCas := 173, raceWrite := 174, semacquire := 175, orU64 := 204, addU64 := 205, loadU64 := 206, storeU64 := 207, casU64 := 209, tWg := 150, tUP := 193, tAssoc := 194, tAU := 147, tU64 := 145, tUint := 198, tU32 := 148, tNoCopy := 142, tANoCopy := 143, tAlign64 := 144, tWgP := 191, tPU32 := 199, tPAU := 248, tPU64 := 250 }
theorem wgLib : Go.Conc.Lib.WgLib Tryz.prog wgL :=
  ⟨Tryz.func112, Tryz.func114, Tryz.func117, Tryz.func157, Tryz.func158, Tryz.func159, Tryz.func160, Tryz.func161, Tryz.func162, Tryz.func163, Tryz.func164, Tryz.func165, Tryz.func166, Tryz.func167, Tryz.func168, Tryz.func169, Tryz.func171, Tryz.func172, Tryz.func173, Tryz.func174, Tryz.func175, Tryz.func204, Tryz.func205, Tryz.func206, Tryz.func207, Tryz.func209, Tryz.underlying191, Tryz.runUnderlying191, Tryz.sizeOf191, Tryz.isAgg191, Tryz.zeroValue191, Tryz.underlying193, Tryz.runUnderlying193, Tryz.sizeOf193, Tryz.isAgg193, Tryz.zeroValue193, Tryz.underlying194, Tryz.runUnderlying194, Tryz.sizeOf194, Tryz.isAgg194, Tryz.zeroValue194, Tryz.underlying150, Tryz.runUnderlying150, Tryz.sizeOf150, Tryz.isAgg150, Tryz.zeroValue150, Tryz.underlying147, Tryz.runUnderlying147, Tryz.sizeOf147, Tryz.isAgg147, Tryz.zeroValue147, Tryz.underlying145, Tryz.runUnderlying145, Tryz.sizeOf145, Tryz.isAgg145, Tryz.zeroValue145, Tryz.underlying198, Tryz.runUnderlying198, Tryz.sizeOf198, Tryz.isAgg198, Tryz.zeroValue198, Tryz.underlying148, Tryz.runUnderlying148, Tryz.sizeOf148, Tryz.isAgg148, Tryz.zeroValue148, Tryz.underlying199, Tryz.runUnderlying199, Tryz.sizeOf199, Tryz.isAgg199, Tryz.zeroValue199, Tryz.underlying248, Tryz.runUnderlying248, Tryz.sizeOf248, Tryz.isAgg248, Tryz.zeroValue248, Tryz.underlying250, Tryz.runUnderlying250, Tryz.sizeOf250, Tryz.isAgg250, Tryz.zeroValue250, Tryz.underlying0, Tryz.runUnderlying0, Tryz.sizeOf0, Tryz.isAgg0, Tryz.zeroValue0, Tryz.underlying3, Tryz.runUnderlying3, Tryz.sizeOf3, Tryz.isAgg3, Tryz.zeroValue3, Tryz.underlying4, Tryz.runUnderlying4, Tryz.sizeOf4, Tryz.isAgg4, Tryz.zeroValue4, Tryz.underlying9, Tryz.runUnderlying9, Tryz.sizeOf9, Tryz.isAgg9, Tryz.zeroValue9, Tryz.underlying20, Tryz.runUnderlying20, Tryz.sizeOf20, Tryz.isAgg20, Tryz.zeroValue20, Tryz.underlying21, Tryz.runUnderlying21, Tryz.sizeOf21, Tryz.isAgg21, Tryz.zeroValue21, (by kernel_rfl), (by kernel_rfl)⟩
theorem en125 : enters Tryz.prog 125 = true := by kernel_rfl
theorem mo : Tryz.prog.follows .mixedOrders = true := by kernel_rfl
theorem fo128x1 : fieldOff Tryz.prog 128 1 = some 1 := by kernel_rfl
theorem lk3 : lk Tryz.prog 3 = some none := by kernel_rfl
theorem fo128x0 : fieldOff Tryz.prog 128 0 = some 0 := by kernel_rfl
theorem lk9 : lk Tryz.prog 9 = some none := by kernel_rfl
theorem en103 : enters Tryz.prog 103 = true := by kernel_rfl
theorem sz3 : sizeIs Tryz.prog 3 = some 1 := by kernel_rfl
theorem en199 : enters Tryz.prog 199 = true := by kernel_rfl
theorem en151 : enters Tryz.prog 151 = true := by kernel_rfl
theorem en152 : enters Tryz.prog 152 = true := by kernel_rfl
theorem pl128 : placesOf Tryz.prog 128 = some [(0, 1), (1, 1)] := by kernel_rfl
theorem zo128 : zeroOf Tryz.prog 128 = some (.agg #[.string ⟨#[]⟩, .int .i64 0]) := by kernel_rfl
theorem sz128 : sizeIs Tryz.prog 128 = some 2 := by kernel_rfl
theorem sz5 : sizeIs Tryz.prog 5 = some 1 := by kernel_rfl
theorem pl123 : placesOf Tryz.prog 123 = some [(0, 1), (1, 1)] := by kernel_rfl
theorem zo123 : zeroOf Tryz.prog 123 = some (.agg #[.slice none 0 0, .int .i64 0]) := by kernel_rfl
theorem fo123x1 : fieldOff Tryz.prog 123 1 = some 1 := by kernel_rfl
theorem fo123x0 : fieldOff Tryz.prog 123 0 = some 0 := by kernel_rfl
theorem lk22 : lk Tryz.prog 22 = some none := by kernel_rfl
theorem lk5 : lk Tryz.prog 5 = some none := by kernel_rfl
theorem en99 : enters Tryz.prog 99 = true := by kernel_rfl
theorem sz9 : sizeIs Tryz.prog 9 = some 1 := by kernel_rfl
theorem zo9 : zeroOf Tryz.prog 9 = some (.string ⟨#[]⟩) := by kernel_rfl
theorem en100 : enters Tryz.prog 100 = true := by kernel_rfl
theorem eo98 : elemOk Tryz.prog 98 9 1 16 = true := by kernel_rfl
theorem su98 : (match Program.underlying Tryz.prog 98 with | some (.slice _) => true | _ => false) = true := by kernel_rfl
theorem en123 : enters Tryz.prog 123 = true := by kernel_rfl
theorem en124 : enters Tryz.prog 124 = true := by kernel_rfl
theorem sz44 : sizeIs Tryz.prog 44 = some 3 := by kernel_rfl
theorem fo44x0 : fieldOff Tryz.prog 44 0 = some 0 := by kernel_rfl
theorem en213 : enters Tryz.prog 213 = true := by kernel_rfl
theorem fo138x0 : fieldOff Tryz.prog 138 0 = some 0 := by kernel_rfl
theorem fo138x1 : fieldOff Tryz.prog 138 1 = some 1 := by kernel_rfl
theorem lk98 : lk Tryz.prog 98 = some none := by kernel_rfl
theorem en180 : enters Tryz.prog 180 = true := by kernel_rfl
theorem fo138x2 : fieldOff Tryz.prog 138 2 = some 2 := by kernel_rfl
theorem en226 : enters Tryz.prog 226 = true := by kernel_rfl
theorem en115 : enters Tryz.prog 115 = true := by kernel_rfl
theorem en200 : enters Tryz.prog 200 = true := by kernel_rfl
theorem en153 : enters Tryz.prog 153 = true := by kernel_rfl
theorem fo29x0 : fieldOff Tryz.prog 29 0 = some 0 := by kernel_rfl
theorem fo29x1 : fieldOff Tryz.prog 29 1 = some 1 := by kernel_rfl
theorem lk27 : lk Tryz.prog 27 = some none := by kernel_rfl
theorem sz100 : sizeIs Tryz.prog 100 = some 4 := by kernel_rfl
theorem lk100 : lk Tryz.prog 100 = some (some 4) := by kernel_rfl
theorem zo100 : zeroOf Tryz.prog 100 = some (.agg #[.int .i64 0, .string ⟨#[]⟩, .string ⟨#[]⟩, .slice none 0 0]) := by kernel_rfl
theorem fo100x0 : fieldOff Tryz.prog 100 0 = some 0 := by kernel_rfl
theorem fo100x1 : fieldOff Tryz.prog 100 1 = some 1 := by kernel_rfl
theorem fo100x2 : fieldOff Tryz.prog 100 2 = some 2 := by kernel_rfl
theorem fo100x3 : fieldOff Tryz.prog 100 3 = some 3 := by kernel_rfl
theorem en105 : enters Tryz.prog 105 = true := by kernel_rfl
theorem pl138 : placesOf Tryz.prog 138 = some [(0, 1), (1, 1), (2, 1)] := by kernel_rfl
theorem zo138 : zeroOf Tryz.prog 138 = some (.agg #[.string ⟨#[]⟩, .slice none 0 0, .string ⟨#[]⟩]) := by kernel_rfl
theorem en126 : enters Tryz.prog 126 = true := by kernel_rfl
theorem zo29 : zeroOf Tryz.prog 29 = some (.agg #[.int .i64 0, .slice none 0 0]) := by kernel_rfl
theorem pl29 : placesOf Tryz.prog 29 = some [(0, 1), (1, 1)] := by kernel_rfl
theorem lk29 : lk Tryz.prog 29 = some (some 2) := by kernel_rfl
theorem en66 : enters Tryz.prog 66 = true := by kernel_rfl
theorem en101 : enters Tryz.prog 101 = true := by kernel_rfl
theorem zo3 : zeroOf Tryz.prog 3 = some (.int .i64 0) := by kernel_rfl
theorem lk188 : lk Tryz.prog 188 = some none := by kernel_rfl
theorem eo188 : elemOk Tryz.prog 188 3 1 8 = true := by kernel_rfl
theorem su188 : (match Program.underlying Tryz.prog 188 with | some (.slice _) => true | _ => false) = true := by kernel_rfl
theorem sz188 : sizeIs Tryz.prog 188 = some 1 := by kernel_rfl
theorem mth187Less : mthOk Tryz.prog 187 "Less" 269 false = true := by kernel_rfl
theorem en269 : enters Tryz.prog 269 = true := by kernel_rfl
theorem mth187Swap : mthOk Tryz.prog 187 "Swap" 272 false = true := by kernel_rfl
theorem en272 : enters Tryz.prog 272 = true := by kernel_rfl
theorem mth187Push : mthOk Tryz.prog 187 "Push" 271 true = true := by kernel_rfl
theorem en271 : enters Tryz.prog 271 = true := by kernel_rfl
theorem mth187Len : mthOk Tryz.prog 187 "Len" 268 false = true := by kernel_rfl
theorem en268 : enters Tryz.prog 268 = true := by kernel_rfl
theorem en201 : enters Tryz.prog 201 = true := by kernel_rfl
theorem en202 : enters Tryz.prog 202 = true := by kernel_rfl
theorem mth187Pop : mthOk Tryz.prog 187 "Pop" 270 true = true := by kernel_rfl
theorem en270 : enters Tryz.prog 270 = true := by kernel_rfl
theorem en154 : enters Tryz.prog 154 = true := by kernel_rfl
theorem en155 : enters Tryz.prog 155 = true := by kernel_rfl
theorem en109 : enters Tryz.prog 109 = true := by kernel_rfl
theorem en110 : enters Tryz.prog 110 = true := by kernel_rfl
theorem fo116x0 : fieldOff Tryz.prog 116 0 = some 0 := by kernel_rfl
theorem fo116x1 : fieldOff Tryz.prog 116 1 = some 1 := by kernel_rfl
theorem en214 : enters Tryz.prog 214 = true := by kernel_rfl
theorem fo116x2 : fieldOff Tryz.prog 116 2 = some 2 := by kernel_rfl
theorem en190 : enters Tryz.prog 190 = true := by kernel_rfl
theorem fo38x1 : fieldOff Tryz.prog 38 1 = some 1 := by kernel_rfl
theorem lk36 : lk Tryz.prog 36 = some none := by kernel_rfl
theorem sz116 : sizeIs Tryz.prog 116 = some 3 := by kernel_rfl
theorem lk116 : lk Tryz.prog 116 = some (some 3) := by kernel_rfl
theorem en181 : enters Tryz.prog 181 = true := by kernel_rfl
theorem fo38x0 : fieldOff Tryz.prog 38 0 = some 0 := by kernel_rfl
theorem zo116 : zeroOf Tryz.prog 116 = some (.agg #[.int .i64 0, .int .i64 0, .string ⟨#[]⟩]) := by kernel_rfl
theorem en145 : enters Tryz.prog 145 = true := by kernel_rfl
theorem lk38 : lk Tryz.prog 38 = some (some 2) := by kernel_rfl
theorem en91 : enters Tryz.prog 91 = true := by kernel_rfl
theorem fo44x1 : fieldOff Tryz.prog 44 1 = some 1 := by kernel_rfl
theorem fo44x2 : fieldOff Tryz.prog 44 2 = some 2 := by kernel_rfl
theorem lk44 : lk Tryz.prog 44 = some (some 3) := by kernel_rfl
theorem zo44 : zeroOf Tryz.prog 44 = some (.agg #[.string ⟨#[]⟩, .string ⟨#[]⟩, .int .i64 0]) := by kernel_rfl
theorem en104 : enters Tryz.prog 104 = true := by kernel_rfl
theorem en47 : enters Tryz.prog 47 = true := by kernel_rfl
theorem pl44 : placesOf Tryz.prog 44 = some [(0, 1), (1, 1), (2, 1)] := by kernel_rfl
theorem en92 : enters Tryz.prog 92 = true := by kernel_rfl
theorem en93 : enters Tryz.prog 93 = true := by kernel_rfl
theorem fo31x1 : fieldOff Tryz.prog 31 1 = some 1 := by kernel_rfl
theorem lk23 : lk Tryz.prog 23 = some none := by kernel_rfl
theorem en37 : enters Tryz.prog 37 = true := by kernel_rfl
theorem fo31x2 : fieldOff Tryz.prog 31 2 = some 2 := by kernel_rfl
theorem lk26 : lk Tryz.prog 26 = some none := by kernel_rfl
theorem sz40 : sizeIs Tryz.prog 40 = some 5 := by kernel_rfl
theorem fo40x0 : fieldOff Tryz.prog 40 0 = some 0 := by kernel_rfl
theorem fo40x1 : fieldOff Tryz.prog 40 1 = some 1 := by kernel_rfl
theorem lk40 : lk Tryz.prog 40 = some (some 5) := by kernel_rfl
theorem en106 : enters Tryz.prog 106 = true := by kernel_rfl
theorem en107 : enters Tryz.prog 107 = true := by kernel_rfl
theorem fo31x3 : fieldOff Tryz.prog 31 3 = some 3 := by kernel_rfl
theorem en54 : enters Tryz.prog 54 = true := by kernel_rfl
theorem sz174 : sizeIs Tryz.prog 174 = some 2 := by kernel_rfl
theorem fo174x0 : fieldOff Tryz.prog 174 0 = some 0 := by kernel_rfl
theorem fo174x1 : fieldOff Tryz.prog 174 1 = some 1 := by kernel_rfl
theorem en70 : enters Tryz.prog 70 = true := by kernel_rfl
theorem fo40x3 : fieldOff Tryz.prog 40 3 = some 3 := by kernel_rfl
theorem en130 : enters Tryz.prog 130 = true := by kernel_rfl
theorem zo40 : zeroOf Tryz.prog 40 = some (.agg #[.string ⟨#[]⟩, .string ⟨#[]⟩, .slice none 0 0, .int .i64 0, .slice none 0 0]) := by kernel_rfl
theorem fo40x2 : fieldOff Tryz.prog 40 2 = some 2 := by kernel_rfl
theorem lk35 : lk Tryz.prog 35 = some none := by kernel_rfl
theorem en127 : enters Tryz.prog 127 = true := by kernel_rfl
theorem en128 : enters Tryz.prog 128 = true := by kernel_rfl
theorem en129 : enters Tryz.prog 129 = true := by kernel_rfl
theorem fo31x0 : fieldOff Tryz.prog 31 0 = some 0 := by kernel_rfl
theorem en64 : enters Tryz.prog 64 = true := by kernel_rfl
theorem en65 : enters Tryz.prog 65 = true := by kernel_rfl
theorem lk31 : lk Tryz.prog 31 = some (some 5) := by kernel_rfl
theorem en67 : enters Tryz.prog 67 = true := by kernel_rfl
theorem en68 : enters Tryz.prog 68 = true := by kernel_rfl
theorem en69 : enters Tryz.prog 69 = true := by kernel_rfl
theorem en71 : enters Tryz.prog 71 = true := by kernel_rfl
theorem lk174 : lk Tryz.prog 174 = some (some 2) := by kernel_rfl
theorem zo174 : zeroOf Tryz.prog 174 = some (.agg #[.string ⟨#[]⟩, .int .i64 0]) := by kernel_rfl
theorem en208 : enters Tryz.prog 208 = true := by kernel_rfl
theorem en170 : enters Tryz.prog 170 = true := by kernel_rfl
theorem exn203 : Extern.findNext Tryz.f203 = none := by kernel_rfl
theorem exf203 : Extern.find Tryz.f203 = some Extern.BytealgCompare.compare := by kernel_rfl
theorem en156 : enters Tryz.prog 156 = true := by kernel_rfl
theorem en111 : enters Tryz.prog 111 = true := by kernel_rfl
theorem en36 : enters Tryz.prog 36 = true := by kernel_rfl
theorem en55 : enters Tryz.prog 55 = true := by kernel_rfl
theorem en52 : enters Tryz.prog 52 = true := by kernel_rfl
theorem en119 : enters Tryz.prog 119 = true := by kernel_rfl
theorem sz4 : sizeIs Tryz.prog 4 = some 1 := by kernel_rfl
theorem lk4 : lk Tryz.prog 4 = some none := by kernel_rfl
theorem en176 : enters Tryz.prog 176 = true := by kernel_rfl
theorem en102 : enters Tryz.prog 102 = true := by kernel_rfl
theorem lk140 : lk Tryz.prog 140 = some none := by kernel_rfl
theorem lk132 : lk Tryz.prog 132 = some none := by kernel_rfl
theorem en116 : enters Tryz.prog 116 = true := by kernel_rfl
theorem zo150 : zeroOf Tryz.prog 150 = some (.agg #[.int .u64 0, .int .u32 0]) := by kernel_rfl
theorem eo140 : elemOk Tryz.prog 140 4 1 1 = true := by kernel_rfl
theorem zo4 : zeroOf Tryz.prog 4 = some (.bool false) := by kernel_rfl
theorem zo140 : zeroOf Tryz.prog 140 = some (.slice none 0 0) := by kernel_rfl
theorem sz140 : sizeIs Tryz.prog 140 = some 1 := by kernel_rfl
theorem en112 : enters Tryz.prog 112 = true := by kernel_rfl
theorem en117 : enters Tryz.prog 117 = true := by kernel_rfl
theorem en118 : enters Tryz.prog 118 = true := by kernel_rfl
theorem en46 : enters Tryz.prog 46 = true := by kernel_rfl
theorem en56 : enters Tryz.prog 56 = true := by kernel_rfl
theorem en57 : enters Tryz.prog 57 = true := by kernel_rfl
theorem en58 : enters Tryz.prog 58 = true := by kernel_rfl
theorem en59 : enters Tryz.prog 59 = true := by kernel_rfl
theorem en60 : enters Tryz.prog 60 = true := by kernel_rfl
theorem eo23 : elemOk Tryz.prog 23 44 3 40 = true := by kernel_rfl
theorem eo35 : elemOk Tryz.prog 35 174 2 24 = true := by kernel_rfl
theorem eo36 : elemOk Tryz.prog 36 116 3 32 = true := by kernel_rfl
theorem zo38 : zeroOf Tryz.prog 38 = some (.agg #[.int .i64 0, .slice none 0 0]) := by kernel_rfl
theorem sz38 : sizeIs Tryz.prog 38 = some 2 := by kernel_rfl
theorem sz35 : sizeIs Tryz.prog 35 = some 1 := by kernel_rfl
theorem eo26 : elemOk Tryz.prog 26 40 5 88 = true := by kernel_rfl
theorem zo31 : zeroOf Tryz.prog 31 = some (.agg #[.string ⟨#[]⟩, .slice none 0 0, .slice none 0 0, .int .i64 0, .slice none 0 0]) := by kernel_rfl
theorem sz26 : sizeIs Tryz.prog 26 = some 1 := by kernel_rfl
theorem sz31 : sizeIs Tryz.prog 31 = some 5 := by kernel_rfl
theorem en23 : enters Tryz.prog 23 = true := by kernel_rfl
theorem en21 : enters Tryz.prog 21 = true := by kernel_rfl
theorem en20 : enters Tryz.prog 20 = true := by kernel_rfl
theorem flat44 : flatOk Tryz.prog 44 [(0, 9), (1, 9), (2, 3)] = true := by kernel_rfl
theorem flat174 : flatOk Tryz.prog 174 [(0, 9), (1, 3)] = true := by kernel_rfl
theorem flat116 : flatOk Tryz.prog 116 [(0, 3), (1, 3), (2, 9)] = true := by kernel_rfl
theorem en150 : enters Tryz.prog 150 = true := by kernel_rfl
theorem en95 : enters Tryz.prog 95 = true := by kernel_rfl
theorem en96 : enters Tryz.prog 96 = true := by kernel_rfl
theorem en39 : enters Tryz.prog 39 = true := by kernel_rfl
theorem en49 : enters Tryz.prog 49 = true := by kernel_rfl
theorem en50 : enters Tryz.prog 50 = true := by kernel_rfl
theorem en51 : enters Tryz.prog 51 = true := by kernel_rfl
theorem su23 : (match Program.underlying Tryz.prog 23 with | some (.slice _) => true | _ => false) = true := by kernel_rfl
theorem en43 : enters Tryz.prog 43 = true := by kernel_rfl
theorem en44 : enters Tryz.prog 44 = true := by kernel_rfl
theorem en45 : enters Tryz.prog 45 = true := by kernel_rfl
theorem su36 : (match Program.underlying Tryz.prog 36 with | some (.slice _) => true | _ => false) = true := by kernel_rfl
theorem pl38 : placesOf Tryz.prog 38 = some [(0, 1), (1, 1)] := by kernel_rfl
theorem su35 : (match Program.underlying Tryz.prog 35 with | some (.slice _) => true | _ => false) = true := by kernel_rfl
theorem en108 : enters Tryz.prog 108 = true := by kernel_rfl
theorem pl40 : placesOf Tryz.prog 40 = some [(0, 1), (1, 1), (2, 1), (3, 2)] := by kernel_rfl
theorem en53 : enters Tryz.prog 53 = true := by kernel_rfl
theorem pl31 : placesOf Tryz.prog 31 = some [(0, 1), (1, 1), (2, 1), (3, 2)] := by kernel_rfl
theorem en48 : enters Tryz.prog 48 = true := by kernel_rfl
theorem su26 : (match Program.underlying Tryz.prog 26 with | some (.slice _) => true | _ => false) = true := by kernel_rfl
theorem en15 : enters Tryz.prog 15 = true := by kernel_rfl
theorem en16 : enters Tryz.prog 16 = true := by kernel_rfl
theorem en17 : enters Tryz.prog 17 = true := by kernel_rfl
theorem en18 : enters Tryz.prog 18 = true := by kernel_rfl
theorem en19 : enters Tryz.prog 19 = true := by kernel_rfl
variable {J : JoinT}
abbrev cur (b : Nat) (l : List UInt8) (i : Nat) : Cells := box1 b [str l, .int .i64 i] 128
set_option maxRecDepth 4000 in
set_option maxHeartbeats 400000 in
theorem l6In_c (n lo hi : Int) (B : Kn) : RetB (pj J) 125 [.int .i64 n, .int .i64 lo, .int .i64 hi] B (.bool (decide (lo ≤ n) && decide (n ≤ hi))) := by
  refine cBB 15 Tryz.func125 rfl rfl rfl (Nat.le_of_ble_eq_true rfl) ?_
  refine wSR ?_
  refine xAs ?_
  refine wKp [(0, _), (1, _), (2, _), (6, _)] ⟨rfl, rfl, rfl, rfl, trivial⟩ ?_
  refine wSR ?_
  refine xMv ?_
  refine xMv ?_
  refine oX (w_geq rfl rfl rfl rfl ?_)
  refine xMv ?_
  refine r_split (d := 10) rfl (fun g1 => ?_) (fun g1 => ?_)
  · try simp only [sQ1, sQ2, sQ3, sQ4, sQ5, sQ6, sQ7, sQ8, ne_eq] at g1
    refine xMv ?_
    refine xMv ?_
    refine oX (w_leq rfl rfl rfl rfl ?_)
    refine oX (w_pickT rfl rfl rfl rfl ?_)
    refine xAs ?_
    refine wKp [(0, _), (1, _), (2, _), (6, _)] ⟨rfl, rfl, rfl, rfl, trivial⟩ ?_
    refine w_ret ?_
    exact end0 .ret (.inl rfl) [_] ⟨rfl, trivial⟩ ⟨by exact bool_eq (by rw [Bool.eq_iff_iff]; simp []; omega), rfl, rfl⟩
  · try simp only [sQ1, sQ2, sQ3, sQ4, sQ5, sQ6, sQ7, sQ8, ne_eq] at g1
    refine oX (w_pass rfl rfl ?_)
    refine oX (w_pass rfl rfl ?_)
    refine oX (w_pass rfl rfl ?_)
    refine oX (w_pickF rfl rfl rfl rfl ?_)
    refine xAs ?_
    refine wKp [(0, _), (1, _), (2, _), (6, _)] ⟨rfl, rfl, rfl, rfl, trivial⟩ ?_
    refine w_ret ?_
    exact end0 .ret (.inl rfl) [_] ⟨rfl, trivial⟩ ⟨by exact bool_eq (by rw [Bool.eq_iff_iff]; simp []; omega), rfl, rfl⟩

set_option maxRecDepth 4000 in
set_option maxHeartbeats 400000 in
theorem nameByte_c (c : UInt8) (B : Kn) : RetB (pj J) 199 [.int .u8 c.toNat] B (.bool (nameB c)) := by
  refine cBB 17 Tryz.func199 rfl rfl rfl (Nat.le_of_ble_eq_true rfl) ?_
  refine wSR ?_
  refine xAs ?_
  refine wKp [(0, _), (2, _)] ⟨rfl, rfl, trivial⟩ ?_
  refine wSR ?_
  refine xMv ?_
  refine oX (w_geq rfl rfl rfl rfl ?_)
  refine xMv ?_
  refine r_split (d := 5) rfl (fun g1 => ?_) (fun g1 => ?_)
  · try simp only [sQ1, sQ2, sQ3, sQ4, sQ5, sQ6, sQ7, sQ8, ne_eq] at g1
    refine xMv ?_
    refine oX (w_leq rfl rfl rfl rfl ?_)
    refine oX (w_pickT rfl rfl rfl rfl ?_)
    refine xMv ?_
    refine r_split (d := 9) rfl (fun g2 => ?_) (fun g2 => ?_)
    · try simp only [sQ1, sQ2, sQ3, sQ4, sQ5, sQ6, sQ7, sQ8, ne_eq] at g2
      refine oX (w_pass rfl rfl ?_)
      refine oX (w_pass rfl rfl ?_)
      refine oX (w_pass rfl rfl ?_)
      refine oX (w_pass rfl rfl ?_)
      refine oX (w_pass rfl rfl ?_)
      refine oX (w_pass rfl rfl ?_)
      refine oX (w_pickT rfl rfl rfl rfl ?_)
      refine xAs ?_
      refine wKp [(0, _), (2, _)] ⟨rfl, rfl, trivial⟩ ?_
      refine w_ret ?_
      exact end0 .ret (.inl rfl) [_] ⟨rfl, trivial⟩ ⟨by exact bool_eq (by rw [Bool.eq_iff_iff]; simp [nameB]; omega), rfl, rfl⟩
    · try simp only [sQ1, sQ2, sQ3, sQ4, sQ5, sQ6, sQ7, sQ8, ne_eq] at g2
      refine xMv ?_
      refine oX (w_geq rfl rfl rfl rfl ?_)
      refine xMv ?_
      refine r_split (d := 12) rfl (fun g3 => ?_) (fun g3 => ?_)
      · try simp only [sQ1, sQ2, sQ3, sQ4, sQ5, sQ6, sQ7, sQ8, ne_eq] at g3
        refine xMv ?_
        refine oX (w_leq rfl rfl rfl rfl ?_)
        refine oX (w_pickT rfl rfl rfl rfl ?_)
        refine oX (w_pickF rfl rfl rfl rfl ?_)
        refine xAs ?_
        refine wKp [(0, _), (2, _)] ⟨rfl, rfl, trivial⟩ ?_
        refine w_ret ?_
        exact end0 .ret (.inl rfl) [_] ⟨rfl, trivial⟩ ⟨by exact bool_eq (by rw [Bool.eq_iff_iff]; simp [nameB]; omega), rfl, rfl⟩
      · try simp only [sQ1, sQ2, sQ3, sQ4, sQ5, sQ6, sQ7, sQ8, ne_eq] at g3
        refine oX (w_pass rfl rfl ?_)
        refine oX (w_pass rfl rfl ?_)
        refine oX (w_pickF rfl rfl rfl rfl ?_)
        refine oX (w_pickF rfl rfl rfl rfl ?_)
        refine xAs ?_
        refine wKp [(0, _), (2, _)] ⟨rfl, rfl, trivial⟩ ?_
        refine w_ret ?_
        exact end0 .ret (.inl rfl) [_] ⟨rfl, trivial⟩ ⟨by exact bool_eq (by rw [Bool.eq_iff_iff]; simp [nameB]; omega), rfl, rfl⟩
  · try simp only [sQ1, sQ2, sQ3, sQ4, sQ5, sQ6, sQ7, sQ8, ne_eq] at g1
    refine oX (w_pass rfl rfl ?_)
    refine oX (w_pass rfl rfl ?_)
    refine oX (w_pickF rfl rfl rfl rfl ?_)
    refine xMv ?_
    refine xMv ?_
    refine oX (w_geq rfl rfl rfl rfl ?_)
    refine xMv ?_
    refine r_split (d := 12) rfl (fun g4 => ?_) (fun g4 => ?_)
    · try simp only [sQ1, sQ2, sQ3, sQ4, sQ5, sQ6, sQ7, sQ8, ne_eq] at g4
      refine xMv ?_
      refine oX (w_leq rfl rfl rfl rfl ?_)
      refine oX (w_pickT rfl rfl rfl rfl ?_)
      refine oX (w_pickF rfl rfl rfl rfl ?_)
      refine xAs ?_
      refine wKp [(0, _), (2, _)] ⟨rfl, rfl, trivial⟩ ?_
      refine w_ret ?_
      exact end0 .ret (.inl rfl) [_] ⟨rfl, trivial⟩ ⟨by exact bool_eq (by rw [Bool.eq_iff_iff]; simp [nameB]; omega), rfl, rfl⟩
    · try simp only [sQ1, sQ2, sQ3, sQ4, sQ5, sQ6, sQ7, sQ8, ne_eq] at g4
      refine oX (w_pass rfl rfl ?_)
      refine oX (w_pass rfl rfl ?_)
      refine oX (w_pickF rfl rfl rfl rfl ?_)
      refine oX (w_pickF rfl rfl rfl rfl ?_)
      refine xAs ?_
      refine wKp [(0, _), (2, _)] ⟨rfl, rfl, trivial⟩ ?_
      refine w_ret ?_
      exact end0 .ret (.inl rfl) [_] ⟨rfl, trivial⟩ ⟨by exact bool_eq (by rw [Bool.eq_iff_iff]; simp [nameB]; omega), rfl, rfl⟩

set_option maxRecDepth 4000 in
set_option maxHeartbeats 400000 in
theorem specName_c (l : List UInt8) (hl : l.length ≤ 2000000) (B : Kn) : RetB (pj J) 124 [str l] B (.bool (nameOk l)) := by
  refine cBB 37 Tryz.func124 rfl rfl rfl (Nat.le_of_ble_eq_true rfl) ?_
  refine wSR ?_
  refine xAs ?_
  refine wKp [(0, _), (2, _)] ⟨rfl, rfl, trivial⟩ ?_
  refine w_seq ?_
  refine wSR ?_
  refine xAs ?_
  refine wKp [(0, _), (2, _), (3, _)] ⟨rfl, rfl, rfl, trivial⟩ ?_
  refine w_block ?_
  refine w_loop (α := Nat) (fun k => [(0, str l), (3, .int .i64 k)]) (fun k => []) (fun k Bx => Bx = B ∧ k ≤ l.length ∧ (l.take k).all nameB = true) (fun k => l.length - k) 0 ⟨rfl, rfl, trivial⟩ rfl (⟨rfl, Nat.zero_le _, by simp⟩) (fun k B1 hle1 hI => ?_)
  obtain ⟨rfl, hk, ha⟩ := hI
  refine w_seq ?_
  refine wSR ?_
  refine xMv ?_
  refine xMv ?_
  refine oX (w_lenS rfl rfl Tryz.underlying9 rfl ?_)
  refine oX (w_lss rfl rfl rfl rfl ?_)
  refine wKp [(0, _), (3, _), (7, _)] ⟨rfl, rfl, rfl, trivial⟩ ?_
  refine wCd rfl (fun g1 => ?_) (fun g1 => ?_)
  · try simp only [sQ1, sQ2, sQ3, sQ4, sQ5, sQ6, sQ7, sQ8, ne_eq] at g1
    obtain ⟨c, hc⟩ : ∃ c, l[k]? = some c := ⟨_, List.getElem?_eq_getElem (by omega)⟩
    refine w_skip ?_
    refine thn_n ?_
    refine w_seq ?_
    refine w_block ?_
    refine w_seq_bool 33 (!(nameB c)) [0, 3, 7] ?_ ?_
    · skip
      refine xMv ?_
      refine xMv ?_
      refine oX (w_index rfl rfl Tryz.underlying9 rfl rfl (by omega) (by simpa using hc) ?_)
      refine oX (w_geq rfl rfl rfl rfl ?_)
      refine xMv ?_
      refine r_split (d := 14) rfl (fun g1 => ?_) (fun g1 => ?_)
      · try simp only [sQ1, sQ2, sQ3, sQ4, sQ5, sQ6, sQ7, sQ8, ne_eq] at g1
        refine xMv ?_
        refine xMv ?_
        refine oX (w_index rfl rfl Tryz.underlying9 rfl rfl (by omega) (by simpa using hc) ?_)
        refine oX (w_leq rfl rfl rfl rfl ?_)
        refine oX (w_pickT rfl rfl rfl rfl ?_)
        refine oX (w_not rfl rfl rfl ?_)
        refine xMv ?_
        refine r_split (d := 21) rfl (fun g2 => ?_) (fun g2 => ?_)
        · try simp only [sQ1, sQ2, sQ3, sQ4, sQ5, sQ6, sQ7, sQ8, ne_eq] at g2
          refine xMv ?_
          refine xMv ?_
          refine oX (w_index rfl rfl Tryz.underlying9 rfl rfl (by omega) (by simpa using hc) ?_)
          refine oX (w_geq rfl rfl rfl rfl ?_)
          refine xMv ?_
          refine r_split (d := 26) rfl (fun g3 => ?_) (fun g3 => ?_)
          · try simp only [sQ1, sQ2, sQ3, sQ4, sQ5, sQ6, sQ7, sQ8, ne_eq] at g3
            refine xMv ?_
            refine xMv ?_
            refine oX (w_index rfl rfl Tryz.underlying9 rfl rfl (by omega) (by simpa using hc) ?_)
            refine oX (w_leq rfl rfl rfl rfl ?_)
            refine oX (w_pickT rfl rfl rfl rfl ?_)
            refine oX (w_not rfl rfl rfl ?_)
            refine oX (w_pickT rfl rfl rfl rfl ?_)
            exact ⟨rfl, rfl, rfl, leafB rfl (by rw [Bool.eq_iff_iff]; simp [nameB, ]; omega), ⟨rfl, rfl, rfl, trivial⟩⟩
          · try simp only [sQ1, sQ2, sQ3, sQ4, sQ5, sQ6, sQ7, sQ8, ne_eq] at g3
            refine oX (w_pass rfl rfl ?_)
            refine oX (w_pass rfl rfl ?_)
            refine oX (w_pass rfl rfl ?_)
            refine oX (w_pass rfl rfl ?_)
            refine oX (w_pickF rfl rfl rfl rfl ?_)
            refine oX (w_not rfl rfl rfl ?_)
            refine oX (w_pickT rfl rfl rfl rfl ?_)
            exact ⟨rfl, rfl, rfl, leafB rfl (by rw [Bool.eq_iff_iff]; simp [nameB, ]; omega), ⟨rfl, rfl, rfl, trivial⟩⟩
        · try simp only [sQ1, sQ2, sQ3, sQ4, sQ5, sQ6, sQ7, sQ8, ne_eq] at g2
          refine oX (w_pass rfl rfl ?_)
          refine oX (w_pass rfl rfl ?_)
          refine oX (w_pass rfl rfl ?_)
          refine oX (w_pass rfl rfl ?_)
          refine oX (w_pass rfl rfl ?_)
          refine oX (w_pass rfl rfl ?_)
          refine oX (w_pass rfl rfl ?_)
          refine oX (w_pass rfl rfl ?_)
          refine oX (w_pass rfl rfl ?_)
          refine oX (w_pass rfl rfl ?_)
          refine oX (w_pass rfl rfl ?_)
          refine oX (w_pickF rfl rfl rfl rfl ?_)
          exact ⟨rfl, rfl, rfl, leafB rfl (by rw [Bool.eq_iff_iff]; simp [nameB, ]; omega), ⟨rfl, rfl, rfl, trivial⟩⟩
      · try simp only [sQ1, sQ2, sQ3, sQ4, sQ5, sQ6, sQ7, sQ8, ne_eq] at g1
        refine oX (w_pass rfl rfl ?_)
        refine oX (w_pass rfl rfl ?_)
        refine oX (w_pass rfl rfl ?_)
        refine oX (w_pass rfl rfl ?_)
        refine oX (w_pickF rfl rfl rfl rfl ?_)
        refine oX (w_not rfl rfl rfl ?_)
        refine xMv ?_
        refine xMv ?_
        refine xMv ?_
        refine oX (w_index rfl rfl Tryz.underlying9 rfl rfl (by omega) (by simpa using hc) ?_)
        refine oX (w_geq rfl rfl rfl rfl ?_)
        refine xMv ?_
        refine r_split (d := 26) rfl (fun g4 => ?_) (fun g4 => ?_)
        · try simp only [sQ1, sQ2, sQ3, sQ4, sQ5, sQ6, sQ7, sQ8, ne_eq] at g4
          refine xMv ?_
          refine xMv ?_
          refine oX (w_index rfl rfl Tryz.underlying9 rfl rfl (by omega) (by simpa using hc) ?_)
          refine oX (w_leq rfl rfl rfl rfl ?_)
          refine oX (w_pickT rfl rfl rfl rfl ?_)
          refine oX (w_not rfl rfl rfl ?_)
          refine oX (w_pickT rfl rfl rfl rfl ?_)
          exact ⟨rfl, rfl, rfl, leafB rfl (by rw [Bool.eq_iff_iff]; simp [nameB, ]; omega), ⟨rfl, rfl, rfl, trivial⟩⟩
        · try simp only [sQ1, sQ2, sQ3, sQ4, sQ5, sQ6, sQ7, sQ8, ne_eq] at g4
          refine oX (w_pass rfl rfl ?_)
          refine oX (w_pass rfl rfl ?_)
          refine oX (w_pass rfl rfl ?_)
          refine oX (w_pass rfl rfl ?_)
          refine oX (w_pickF rfl rfl rfl rfl ?_)
          refine oX (w_not rfl rfl rfl ?_)
          refine oX (w_pickT rfl rfl rfl rfl ?_)
          exact ⟨rfl, rfl, rfl, leafB rfl (by rw [Bool.eq_iff_iff]; simp [nameB, ]; omega), ⟨rfl, rfl, rfl, trivial⟩⟩
    refine wKp [(0, _), (3, _), (7, _), (33, _)] ⟨rfl, rfl, rfl, rfl, trivial⟩ ?_
    refine wCd rfl (fun g9 => ?_) (fun g9 => ?_)
    · try simp only [sQ1, sQ2, sQ3, sQ4, sQ5, sQ6, sQ7, sQ8, ne_eq] at g9
      refine wSR ?_
      refine xAs ?_
      refine wKp [(0, _), (2, _), (3, _), (7, _), (33, _)] ⟨rfl, rfl, rfl, rfl, rfl, trivial⟩ ?_
      refine w_ret (inB_r (thn_r (rnd_r (inB_r (thn_r ?_)))))
      exact end0 .ret (.inl rfl) [_] ⟨rfl, trivial⟩ ⟨bool_eq (by simp [nameOk, all_stop hc g9]), rfl, rfl⟩
    · try simp only [sQ1, sQ2, sQ3, sQ4, sQ5, sQ6, sQ7, sQ8, ne_eq] at g9
      refine w_skip ?_
      refine inB_n (thn_n ?_)
      refine w_region ?_
      refine xMv ?_
      refine oX (w_add rfl rfl rfl rfl (by first | exact wrI64 (by omega) (by omega) | rfl) ?_)
      refine xAs ?_
      exact rnd_n (k + 1) (by omega) ⟨rfl, by omega, all_step hc g9 ha⟩ ⟨rfl, rfl, trivial⟩ rfl
  · try simp only [sQ1, sQ2, sQ3, sQ4, sQ5, sQ6, sQ7, sQ8, ne_eq] at g1
    refine w_exit (thn_x (rnd_x (inB_hit (thn_n ?_))))
    refine wSR ?_
    refine xMv ?_
    refine oX (w_lenS rfl rfl Tryz.underlying9 rfl ?_)
    refine oX (w_retB rfl rfl en125 rfl (l6In_c _ _ _ _) ?_)
    refine xAs ?_
    refine wKp [(0, _), (2, _), (3, _), (7, _)] ⟨rfl, rfl, rfl, rfl, trivial⟩ ?_
    refine w_ret ?_
    exact end0 .ret (.inl rfl) [_] ⟨rfl, trivial⟩ ⟨bool_eq (by (obtain rfl : k = l.length := by omega); rw [List.take_length] at ha; rw [Bool.eq_iff_iff]; simp [nameOk, ha]; omega), rfl, rfl⟩

set_option maxRecDepth 4000 in
set_option maxHeartbeats 400000 in
theorem done_c (b : Nat) (l : List UInt8) (i : Nat) (hi : i ≤ l.length) (hl : l.length ≤ 2000000) (B : Kn) : Upd1 (pj J) 103 [ptr ⟨b, 0, none⟩] B (cur b l i) (.bool (decide (i = l.length))) (cur b l i) := by
  refine cBB 13 Tryz.func103 rfl rfl rfl (Nat.le_of_ble_eq_true rfl) ?_
  refine wSR ?_
  refine xAs ?_
  refine wKp [(0, _), (2, _)] ⟨rfl, rfl, trivial⟩ ?_
  refine w_seq ?_
  refine w_draw (same _ _) mo (by kernel_rfl) ⟨rfl, rfl⟩ (fun _ _ => ?_)
  refine aTP 0 rfl (by kernel_rfl) rfl (fun D B L => w_move rfl rfl rfl ⟨rfl, rfl, rfl, rfl⟩) ?_
  refine aTk 1 rfl (by kernel_rfl) rfl (q_of fun D => w_nilCheck rfl rfl rfl ⟨rfl, rfl, rfl, rfl⟩) ?_
  refine aTk 2 rfl (by kernel_rfl) rfl (q_of fun D => wFA rfl rfl fo128x1 rfl ⟨rfl, rfl, rfl, rfl⟩) ?_
  refine aTk 3 rfl (by kernel_rfl) rfl (q_of fun D => w_load1 rfl rfl lk3 rfl (atL 0 rfl rfl rfl) ⟨rfl, rfl, rfl, rfl⟩) ?_
  refine aTP 4 rfl (by kernel_rfl) rfl (fun D B L => w_move rfl rfl rfl ⟨rfl, rfl, rfl, rfl⟩) ?_
  refine aTk 5 rfl (by kernel_rfl) rfl (q_of fun D => w_nilCheck rfl rfl rfl ⟨rfl, rfl, rfl, rfl⟩) ?_
  refine aTk 6 rfl (by kernel_rfl) rfl (q_of fun D => wFA rfl rfl fo128x0 rfl ⟨rfl, rfl, rfl, rfl⟩) ?_
  refine aTk 7 rfl (by kernel_rfl) rfl (q_of fun D => w_load1 rfl rfl lk9 rfl (atL 0 rfl rfl rfl) ⟨rfl, rfl, rfl, rfl⟩) ?_
  refine aTk 8 rfl (by kernel_rfl) rfl (q_of fun D => w_lenS rfl rfl Tryz.underlying9 rfl ⟨rfl, rfl, rfl, rfl⟩) ?_
  refine aTk 9 rfl (by kernel_rfl) rfl (q_of fun D => w_eqlI rfl rfl rfl rfl ⟨rfl, rfl, rfl, rfl⟩) ?_
  refine aTP 10 rfl (by kernel_rfl) rfl (fun D B L => w_assign rfl rfl rfl ⟨rfl, rfl, rfl, rfl⟩) ?_
  refine any_done (by kernel_rfl) (by kernel_rfl) ?_
  refine thn_n ?_
  refine wKp [(0, _), (2, _)] ⟨rfl, rfl, trivial⟩ ?_
  refine w_ret ?_
  exact end1 .ret (.inl rfl) [_] 0 rfl ⟨rfl, trivial⟩ ⟨bool_eq (by rw [Bool.eq_iff_iff]; simp; omega), rfl, rfl⟩

set_option maxRecDepth 4000 in
set_option maxHeartbeats 400000 in
theorem take_c (b : Nat) (l : List UInt8) (i : Nat) (hi : i ≤ l.length) (hl : l.length ≤ 2000000) (x : UInt8) (B : Kn) : Upd1 (pj J) 152 [ptr ⟨b, 0, none⟩, .int .u8 x.toNat] B (cur b l i) (.bool (decide (l[i]? = some x))) (cur b l (if l[i]? = some x then i + 1 else i)) := by
  refine cBB 27 Tryz.func152 rfl rfl rfl (Nat.le_of_ble_eq_true rfl) ?_
  refine wSR ?_
  refine xAs ?_
  refine wKp [(0, _), (1, _), (4, _)] ⟨rfl, rfl, rfl, trivial⟩ ?_
  refine w_seq ?_
  refine w_seq_boolD 19 (decide (l[i]? ≠ some x)) [0, 1, 4] (same _ _) mo (by kernel_rfl) ⟨rfl, rfl⟩ (fun _ _ => ?_) ?_
  · skip
    refine aTP 0 rfl (by kernel_rfl) rfl (fun D B L => w_move rfl rfl rfl ⟨rfl, rfl, rfl, rfl⟩) ?_
    refine aTk 1 rfl (by kernel_rfl) rfl (q_of fun D => w_ret1 0 rfl rfl rfl en103 rfl (done_c _ _ _ (by omega) (by omega) _) ⟨rfl, rfl, rfl, rfl⟩) ?_
    refine aTP 2 rfl (by kernel_rfl) rfl (fun D B L => w_move rfl rfl rfl ⟨rfl, rfl, rfl, rfl⟩) ?_
    refine a_split (d := 7) rfl (fun g1 => ?_) (fun g1 => ?_)
    · try simp only [sQ1, sQ2, sQ3, sQ4, sQ5, sQ6, sQ7, sQ8, ne_eq] at g1
      refine aTP 3 rfl (by kernel_rfl) rfl (fun D B L => w_pass rfl rfl ⟨rfl, rfl, rfl, rfl⟩) ?_
      refine aTk 4 rfl (by kernel_rfl) rfl (q_of fun D => w_pass rfl rfl ⟨rfl, rfl, rfl, rfl⟩) ?_
      refine aTk 5 rfl (by kernel_rfl) rfl (q_of fun D => w_pass rfl rfl ⟨rfl, rfl, rfl, rfl⟩) ?_
      refine aTk 6 rfl (by kernel_rfl) rfl (q_of fun D => w_pass rfl rfl ⟨rfl, rfl, rfl, rfl⟩) ?_
      refine aTP 7 rfl (by kernel_rfl) rfl (fun D B L => w_pass rfl rfl ⟨rfl, rfl, rfl, rfl⟩) ?_
      refine aTk 8 rfl (by kernel_rfl) rfl (q_of fun D => w_pass rfl rfl ⟨rfl, rfl, rfl, rfl⟩) ?_
      refine aTk 9 rfl (by kernel_rfl) rfl (q_of fun D => w_pass rfl rfl ⟨rfl, rfl, rfl, rfl⟩) ?_
      refine aTk 10 rfl (by kernel_rfl) rfl (q_of fun D => w_pass rfl rfl ⟨rfl, rfl, rfl, rfl⟩) ?_
      refine aTk 11 rfl (by kernel_rfl) rfl (q_of fun D => w_pass rfl rfl ⟨rfl, rfl, rfl, rfl⟩) ?_
      refine aTP 12 rfl (by kernel_rfl) rfl (fun D B L => w_pass rfl rfl ⟨rfl, rfl, rfl, rfl⟩) ?_
      refine aTk 13 rfl (by kernel_rfl) rfl (q_of fun D => w_pass rfl rfl ⟨rfl, rfl, rfl, rfl⟩) ?_
      refine aTk 14 rfl (by kernel_rfl) rfl (q_of fun D => w_pickT rfl rfl rfl rfl ⟨rfl, rfl, rfl, rfl⟩) ?_
      refine any_done (by kernel_rfl) (by kernel_rfl) ?_
      exact ⟨rfl, rfl, rfl, leafB rfl (by first | (simp [g1]; done) | (rw [Bool.eq_iff_iff]; simp [hc, ← UInt8.toNat_inj]; omega)), ⟨rfl, rfl, rfl, trivial⟩⟩
    · try simp only [sQ1, sQ2, sQ3, sQ4, sQ5, sQ6, sQ7, sQ8, ne_eq] at g1
      obtain ⟨c, hc⟩ : ∃ c, l[i]? = some c := ⟨_, List.getElem?_eq_getElem (by omega)⟩
      refine aTP 3 rfl (by kernel_rfl) rfl (fun D B L => w_move rfl rfl rfl ⟨rfl, rfl, rfl, rfl⟩) ?_
      refine aTk 4 rfl (by kernel_rfl) rfl (q_of fun D => w_nilCheck rfl rfl rfl ⟨rfl, rfl, rfl, rfl⟩) ?_
      refine aTk 5 rfl (by kernel_rfl) rfl (q_of fun D => wFA rfl rfl fo128x0 rfl ⟨rfl, rfl, rfl, rfl⟩) ?_
      refine aTk 6 rfl (by kernel_rfl) rfl (q_of fun D => w_load1 rfl rfl lk9 rfl (atL 0 rfl rfl rfl) ⟨rfl, rfl, rfl, rfl⟩) ?_
      refine aTP 7 rfl (by kernel_rfl) rfl (fun D B L => w_move rfl rfl rfl ⟨rfl, rfl, rfl, rfl⟩) ?_
      refine aTk 8 rfl (by kernel_rfl) rfl (q_of fun D => w_nilCheck rfl rfl rfl ⟨rfl, rfl, rfl, rfl⟩) ?_
      refine aTk 9 rfl (by kernel_rfl) rfl (q_of fun D => wFA rfl rfl fo128x1 rfl ⟨rfl, rfl, rfl, rfl⟩) ?_
      refine aTk 10 rfl (by kernel_rfl) rfl (q_of fun D => w_load1 rfl rfl lk3 rfl (atL 0 rfl rfl rfl) ⟨rfl, rfl, rfl, rfl⟩) ?_
      refine aTk 11 rfl (by kernel_rfl) rfl (q_of fun D => w_index rfl rfl Tryz.underlying9 rfl rfl (by omega) (by simpa using hc) ⟨rfl, rfl, rfl, rfl⟩) ?_
      refine aTP 12 rfl (by kernel_rfl) rfl (fun D B L => w_move rfl rfl rfl ⟨rfl, rfl, rfl, rfl⟩) ?_
      refine aTk 13 rfl (by kernel_rfl) rfl (q_of fun D => w_neqI rfl rfl rfl rfl ⟨rfl, rfl, rfl, rfl⟩) ?_
      refine aTk 14 rfl (by kernel_rfl) rfl (q_of fun D => w_pickF rfl rfl rfl rfl ⟨rfl, rfl, rfl, rfl⟩) ?_
      refine any_done (by kernel_rfl) (by kernel_rfl) ?_
      exact ⟨rfl, rfl, rfl, leafB rfl (by first | (simp [g1]; done) | (rw [Bool.eq_iff_iff]; simp [hc, ← UInt8.toNat_inj]; omega)), ⟨rfl, rfl, rfl, trivial⟩⟩
  refine wKp [(0, _), (1, _), (4, _), (19, _)] ⟨rfl, rfl, rfl, rfl, trivial⟩ ?_
  refine wCd rfl (fun g2 => ?_) (fun g2 => ?_)
  · try simp only [sQ1, sQ2, sQ3, sQ4, sQ5, sQ6, sQ7, sQ8, ne_eq] at g2
    refine wSR ?_
    refine xAs ?_
    refine wKp [(0, _), (1, _), (4, _), (19, _)] ⟨rfl, rfl, rfl, rfl, trivial⟩ ?_
    refine w_ret (thn_r ?_)
    exact end1 .ret (.inl rfl) [_] 0 rfl ⟨rfl, trivial⟩ ⟨bool_eq (by simp [g2]), rfl, by rw [if_neg g2]⟩
  · try simp only [sQ1, sQ2, sQ3, sQ4, sQ5, sQ6, sQ7, sQ8, ne_eq] at g2
    refine w_skip ?_
    refine thn_n ?_
    refine wSR ?_
    refine xMv ?_
    refine oX (w_nilCheck rfl rfl rfl ?_)
    refine oX (wFA rfl rfl fo128x1 rfl ?_)
    refine oX (w_load1 rfl rfl lk3 rfl (atL 0 rfl rfl rfl) ?_)
    refine oX (w_add rfl rfl rfl rfl (by first | exact wrI64 (by omega) (by omega) | rfl) ?_)
    refine oX (w_nilCheck rfl rfl rfl ?_)
    refine oX (wFA rfl rfl fo128x1 rfl ?_)
    refine oX (w_store [_] 0 [_, _] rfl rfl sz3 rfl rfl rfl rfl rfl rfl rfl rfl ?_)
    refine wTd [(0, _), (1, _), (4, _), (19, _)] [_] ⟨rfl, rfl, rfl, rfl, trivial⟩ rfl ?_
    refine wSR ?_
    refine xAs ?_
    refine wKp [(0, _), (1, _), (4, _), (19, _)] ⟨rfl, rfl, rfl, rfl, trivial⟩ ?_
    refine w_ret ?_
    exact end1 .ret (.inl rfl) [_] 0 rfl ⟨rfl, trivial⟩ ⟨bool_eq (by simp [g2]), rfl, by rw [if_pos g2]; rfl⟩

set_option maxRecDepth 4000 in
set_option maxHeartbeats 400000 in
theorem name_c (b : Nat) (l : List UInt8) (i : Nat) (hi : i ≤ l.length) (hl : l.length ≤ 2000000) (B : Kn) : Upd1 (pj J) 151 [ptr ⟨b, 0, none⟩] B (cur b l i) (.tuple #[str (word l i), .bool (wordOk (word l i))]) (cur b l (i + (word l i).length)) := by
  refine cBB 54 Tryz.func151 rfl rfl rfl (Nat.le_of_ble_eq_true rfl) ?_
  refine wSR ?_
  refine xAs ?_
  refine xAs ?_
  refine wKp [(0, _), (2, _), (3, _)] ⟨rfl, rfl, rfl, trivial⟩ ?_
  refine wSR ?_
  refine xMv ?_
  refine oX (w_nilCheck rfl rfl rfl ?_)
  refine oX (wFA rfl rfl fo128x1 rfl ?_)
  refine oX (w_load1 rfl rfl lk3 rfl (atL 0 rfl rfl rfl) ?_)
  refine xAs ?_
  refine wKp [(0, _), (2, _), (3, _), (4, _)] ⟨rfl, rfl, rfl, rfl, trivial⟩ ?_
  refine w_seq ?_
  refine w_block ?_
  refine w_loop (α := Nat) (fun k => [(0, ptr ⟨b, 0, none⟩), (4, .int .i64 i)]) (fun k => [cur b l (i + k)]) (fun k Bx => Bx = B ∧ i + k ≤ l.length ∧ ((l.drop i).take k).all nameB = true) (fun k => l.length - i - k) 0 ⟨rfl, rfl, trivial⟩ rfl (⟨rfl, by omega, by simp⟩) (fun k B1 hle1 hI => ?_)
  obtain ⟨rfl, hk, ha⟩ := hI
  refine w_seq ?_
  refine w_seq_boolD 24 (match l[i + k]? with | some c => nameB c | none => false) [0, 4] (same _ _) mo (by kernel_rfl) ⟨rfl, rfl⟩ (fun _ _ => ?_) ?_
  · skip
    refine aTP 0 rfl (by kernel_rfl) rfl (fun D B L => w_move rfl rfl rfl ⟨rfl, rfl, rfl, rfl⟩) ?_
    refine aTk 1 rfl (by kernel_rfl) rfl (q_of fun D => w_ret1 0 rfl rfl rfl en103 rfl (done_c _ _ _ (by omega) (by omega) _) ⟨rfl, rfl, rfl, rfl⟩) ?_
    refine aTk 2 rfl (by kernel_rfl) rfl (q_of fun D => w_not rfl rfl rfl ⟨rfl, rfl, rfl, rfl⟩) ?_
    refine aTP 3 rfl (by kernel_rfl) rfl (fun D B L => w_move rfl rfl rfl ⟨rfl, rfl, rfl, rfl⟩) ?_
    refine a_split (d := 13) rfl (fun g1 => ?_) (fun g1 => ?_)
    · try simp only [sQ1, sQ2, sQ3, sQ4, sQ5, sQ6, sQ7, sQ8, ne_eq] at g1
      obtain ⟨c, hc⟩ : ∃ c, l[i + k]? = some c := ⟨_, List.getElem?_eq_getElem (by omega)⟩
      refine aTP 4 rfl (by kernel_rfl) rfl (fun D B L => w_move rfl rfl rfl ⟨rfl, rfl, rfl, rfl⟩) ?_
      refine aTk 5 rfl (by kernel_rfl) rfl (q_of fun D => w_nilCheck rfl rfl rfl ⟨rfl, rfl, rfl, rfl⟩) ?_
      refine aTk 6 rfl (by kernel_rfl) rfl (q_of fun D => wFA rfl rfl fo128x0 rfl ⟨rfl, rfl, rfl, rfl⟩) ?_
      refine aTk 7 rfl (by kernel_rfl) rfl (q_of fun D => w_load1 rfl rfl lk9 rfl (atL 0 rfl rfl rfl) ⟨rfl, rfl, rfl, rfl⟩) ?_
      refine aTP 8 rfl (by kernel_rfl) rfl (fun D B L => w_move rfl rfl rfl ⟨rfl, rfl, rfl, rfl⟩) ?_
      refine aTk 9 rfl (by kernel_rfl) rfl (q_of fun D => w_nilCheck rfl rfl rfl ⟨rfl, rfl, rfl, rfl⟩) ?_
      refine aTk 10 rfl (by kernel_rfl) rfl (q_of fun D => wFA rfl rfl fo128x1 rfl ⟨rfl, rfl, rfl, rfl⟩) ?_
      refine aTk 11 rfl (by kernel_rfl) rfl (q_of fun D => w_load1 rfl rfl lk3 rfl (atL 0 rfl rfl rfl) ⟨rfl, rfl, rfl, rfl⟩) ?_
      refine aTk 12 rfl (by kernel_rfl) rfl (q_of fun D => w_index rfl rfl Tryz.underlying9 rfl rfl (by omega) hc ⟨rfl, rfl, rfl, rfl⟩) ?_
      refine aTk 13 rfl (by kernel_rfl) rfl (q_of fun D => w_retB rfl rfl en199 rfl (nameByte_c _ _) ⟨rfl, rfl, rfl, rfl⟩) ?_
      refine aTk 14 rfl (by kernel_rfl) rfl (q_of fun D => w_pickT rfl rfl rfl rfl ⟨rfl, rfl, rfl, rfl⟩) ?_
      refine any_done (by kernel_rfl) (by kernel_rfl) ?_
      exact ⟨rfl, rfl, rfl, leafB rfl (by first | (rw [hc]; done) | (rw [List.getElem?_eq_none (by omega)])), ⟨rfl, rfl, trivial⟩⟩
    · try simp only [sQ1, sQ2, sQ3, sQ4, sQ5, sQ6, sQ7, sQ8, ne_eq] at g1
      refine aTP 4 rfl (by kernel_rfl) rfl (fun D B L => w_pass rfl rfl ⟨rfl, rfl, rfl, rfl⟩) ?_
      refine aTk 5 rfl (by kernel_rfl) rfl (q_of fun D => w_pass rfl rfl ⟨rfl, rfl, rfl, rfl⟩) ?_
      refine aTk 6 rfl (by kernel_rfl) rfl (q_of fun D => w_pass rfl rfl ⟨rfl, rfl, rfl, rfl⟩) ?_
      refine aTk 7 rfl (by kernel_rfl) rfl (q_of fun D => w_pass rfl rfl ⟨rfl, rfl, rfl, rfl⟩) ?_
      refine aTP 8 rfl (by kernel_rfl) rfl (fun D B L => w_pass rfl rfl ⟨rfl, rfl, rfl, rfl⟩) ?_
      refine aTk 9 rfl (by kernel_rfl) rfl (q_of fun D => w_pass rfl rfl ⟨rfl, rfl, rfl, rfl⟩) ?_
      refine aTk 10 rfl (by kernel_rfl) rfl (q_of fun D => w_pass rfl rfl ⟨rfl, rfl, rfl, rfl⟩) ?_
      refine aTk 11 rfl (by kernel_rfl) rfl (q_of fun D => w_pass rfl rfl ⟨rfl, rfl, rfl, rfl⟩) ?_
      refine aTk 12 rfl (by kernel_rfl) rfl (q_of fun D => w_pass rfl rfl ⟨rfl, rfl, rfl, rfl⟩) ?_
      refine aTk 13 rfl (by kernel_rfl) rfl (q_of fun D => w_pass rfl rfl ⟨rfl, rfl, rfl, rfl⟩) ?_
      refine aTk 14 rfl (by kernel_rfl) rfl (q_of fun D => w_pickF rfl rfl rfl rfl ⟨rfl, rfl, rfl, rfl⟩) ?_
      refine any_done (by kernel_rfl) (by kernel_rfl) ?_
      exact ⟨rfl, rfl, rfl, leafB rfl (by first | (rw [hc]; done) | (rw [List.getElem?_eq_none (by omega)])), ⟨rfl, rfl, trivial⟩⟩
  refine wKp [(0, _), (4, _), (24, _)] ⟨rfl, rfl, rfl, trivial⟩ ?_
  refine wCd rfl (fun g2 => ?_) (fun g2 => ?_)
  · try simp only [sQ1, sQ2, sQ3, sQ4, sQ5, sQ6, sQ7, sQ8, ne_eq] at g2
    refine w_skip ?_
    refine thn_n ?_
    refine w_block ?_
    refine w_region ?_
    refine xMv ?_
    refine oX (w_nilCheck rfl rfl rfl ?_)
    refine oX (wFA rfl rfl fo128x1 rfl ?_)
    refine oX (w_load1 rfl rfl lk3 rfl (atL 0 rfl rfl rfl) ?_)
    refine oX (w_add rfl rfl rfl rfl (by first | exact wrI64 (by omega) (by omega) | rfl) ?_)
    refine oX (w_nilCheck rfl rfl rfl ?_)
    refine oX (wFA rfl rfl fo128x1 rfl ?_)
    refine oX (w_store [_] 0 [_, _] rfl rfl sz3 rfl rfl rfl rfl rfl rfl rfl rfl ?_)
    refine inB_n ?_
    obtain ⟨c, hc, hn⟩ := some_true g2
    exact rnd_n (k + 1) (by have := lt_of_get hc; omega) ⟨rfl, by have := lt_of_get hc; omega, all_step (by simpa using hc) hn ha⟩ ⟨rfl, rfl, trivial⟩ rfl
  · try simp only [sQ1, sQ2, sQ3, sQ4, sQ5, sQ6, sQ7, sQ8, ne_eq] at g2
    have hw : word l i = (l.drop i).take k := word_end ha (fun c hc => by rw [hc] at g2; exact g2)
    have hwl : (word l i).length = k := by rw [hw, List.length_take, List.length_drop]; omega
    refine w_exit (thn_x (rnd_x (inB_hit (thn_n ?_))))
    refine wSR ?_
    refine xMv ?_
    refine oX (w_nilCheck rfl rfl rfl ?_)
    refine oX (wFA rfl rfl fo128x1 rfl ?_)
    refine oX (w_load1 rfl rfl lk3 rfl (atL 0 rfl rfl rfl) ?_)
    refine xMv ?_
    refine oX (w_sub rfl rfl rfl rfl (by first | exact wrI64 (by omega) (by omega) | rfl) ?_)
    refine xAs ?_
    refine wKp [(0, _), (4, _), (5, _), (24, _)] ⟨rfl, rfl, rfl, rfl, trivial⟩ ?_
    refine w_seq ?_
    refine w_draw (same _ _) mo (by kernel_rfl) ⟨rfl, rfl⟩ (fun _ _ => ?_)
    refine aTP 0 rfl (by kernel_rfl) rfl (fun D B L => w_move rfl rfl rfl ⟨rfl, rfl, rfl, rfl⟩) ?_
    refine aTk 1 rfl (by kernel_rfl) rfl (q_of fun D => w_nilCheck rfl rfl rfl ⟨rfl, rfl, rfl, rfl⟩) ?_
    refine aTk 2 rfl (by kernel_rfl) rfl (q_of fun D => wFA rfl rfl fo128x0 rfl ⟨rfl, rfl, rfl, rfl⟩) ?_
    refine aTk 3 rfl (by kernel_rfl) rfl (q_of fun D => w_load1 rfl rfl lk9 rfl (atL 0 rfl rfl rfl) ⟨rfl, rfl, rfl, rfl⟩) ?_
    refine aTP 4 rfl (by kernel_rfl) rfl (fun D B L => w_move rfl rfl rfl ⟨rfl, rfl, rfl, rfl⟩) ?_
    refine aTP 5 rfl (by kernel_rfl) rfl (fun D B L => w_move rfl rfl rfl ⟨rfl, rfl, rfl, rfl⟩) ?_
    refine aTk 6 rfl (by kernel_rfl) rfl (q_of fun D => w_nilCheck rfl rfl rfl ⟨rfl, rfl, rfl, rfl⟩) ?_
    refine aTk 7 rfl (by kernel_rfl) rfl (q_of fun D => wFA rfl rfl fo128x1 rfl ⟨rfl, rfl, rfl, rfl⟩) ?_
    refine aTk 8 rfl (by kernel_rfl) rfl (q_of fun D => w_load1 rfl rfl lk3 rfl (atL 0 rfl rfl rfl) ⟨rfl, rfl, rfl, rfl⟩) ?_
    refine aTk 9 rfl (by kernel_rfl) rfl (q_of fun D => w_sliceS rfl rfl Tryz.underlying9 rfl (a := i) (b := i + k) ⟨_, _, rfl, rfl⟩ ⟨_, _, rfl, by omega⟩ (by omega) (by omega) ⟨rfl, rfl, rfl, rfl⟩) ?_
    refine aTP 10 rfl (by kernel_rfl) rfl (fun D B L => w_move rfl rfl rfl ⟨rfl, rfl, rfl, rfl⟩) ?_
    refine aTk 11 rfl (by kernel_rfl) rfl (q_of fun D => w_geq rfl rfl rfl rfl ⟨rfl, rfl, rfl, rfl⟩) ?_
    refine aTP 12 rfl (by kernel_rfl) rfl (fun D B L => w_move rfl rfl rfl ⟨rfl, rfl, rfl, rfl⟩) ?_
    refine a_split (d := 50) rfl (fun g1 => ?_) (fun g1 => ?_)
    · try simp only [sQ1, sQ2, sQ3, sQ4, sQ5, sQ6, sQ7, sQ8, ne_eq] at g1
      refine aTP 13 rfl (by kernel_rfl) rfl (fun D B L => w_move rfl rfl rfl ⟨rfl, rfl, rfl, rfl⟩) ?_
      refine aTk 14 rfl (by kernel_rfl) rfl (q_of fun D => w_leq rfl rfl rfl rfl ⟨rfl, rfl, rfl, rfl⟩) ?_
      refine aTk 15 rfl (by kernel_rfl) rfl (q_of fun D => w_pickT rfl rfl rfl rfl ⟨rfl, rfl, rfl, rfl⟩) ?_
      refine aTP 16 rfl (by kernel_rfl) rfl (fun D B L => w_assign rfl rfl rfl ⟨rfl, rfl, rfl, rfl⟩) ?_
      refine aTP 17 rfl (by kernel_rfl) rfl (fun D B L => w_assign rfl rfl rfl ⟨rfl, rfl, rfl, rfl⟩) ?_
      refine any_done (by kernel_rfl) (by kernel_rfl) ?_
      refine thn_n ?_
      refine wKp [(0, _), (2, _), (3, _), (4, _), (5, _), (24, _)] ⟨rfl, rfl, rfl, rfl, rfl, rfl, trivial⟩ ?_
      refine w_ret ?_
      exact end1 .ret (.inl rfl) [_, _] 0 rfl ⟨rfl, rfl, trivial⟩ ⟨two_eq (by rw [drop_take_word, hw]) (bool_eq (by rw [Bool.eq_iff_iff]; simp [wordOk, hwl]; omega)), rfl, by rw [hwl]⟩
    · try simp only [sQ1, sQ2, sQ3, sQ4, sQ5, sQ6, sQ7, sQ8, ne_eq] at g1
      refine aTP 13 rfl (by kernel_rfl) rfl (fun D B L => w_pass rfl rfl ⟨rfl, rfl, rfl, rfl⟩) ?_
      refine aTk 14 rfl (by kernel_rfl) rfl (q_of fun D => w_pass rfl rfl ⟨rfl, rfl, rfl, rfl⟩) ?_
      refine aTk 15 rfl (by kernel_rfl) rfl (q_of fun D => w_pickF rfl rfl rfl rfl ⟨rfl, rfl, rfl, rfl⟩) ?_
      refine aTP 16 rfl (by kernel_rfl) rfl (fun D B L => w_assign rfl rfl rfl ⟨rfl, rfl, rfl, rfl⟩) ?_
      refine aTP 17 rfl (by kernel_rfl) rfl (fun D B L => w_assign rfl rfl rfl ⟨rfl, rfl, rfl, rfl⟩) ?_
      refine any_done (by kernel_rfl) (by kernel_rfl) ?_
      refine thn_n ?_
      refine wKp [(0, _), (2, _), (3, _), (4, _), (5, _), (24, _)] ⟨rfl, rfl, rfl, rfl, rfl, rfl, trivial⟩ ?_
      refine w_ret ?_
      exact end1 .ret (.inl rfl) [_, _] 0 rfl ⟨rfl, rfl, trivial⟩ ⟨two_eq (by rw [drop_take_word, hw]) (bool_eq (by rw [Bool.eq_iff_iff]; simp [wordOk, hwl]; omega)), rfl, by rw [hwl]⟩

set_option maxRecDepth 4000 in
set_option maxHeartbeats 400000 in
theorem domain_c (b : Nat) (l : List UInt8) (i : Nat) (hi : i ≤ l.length) (hl : l.length ≤ 2000000) (B : Kn) : Upd1 (pj J) 102 [ptr ⟨b, 0, none⟩] B (cur b l i) (.tuple #[str (domText l i), .bool (domOk l i)]) (cur b l (dom l i).2) := by
  refine cBB 53 Tryz.func102 rfl rfl rfl (Nat.le_of_ble_eq_true rfl) ?_
  refine wSR ?_
  refine xAs ?_
  refine xAs ?_
  refine wKp [(0, _), (2, _), (3, _)] ⟨rfl, rfl, rfl, trivial⟩ ?_
  refine wSR ?_
  refine xMv ?_
  refine oX (w_nilCheck rfl rfl rfl ?_)
  refine oX (wFA rfl rfl fo128x1 rfl ?_)
  refine oX (w_load1 rfl rfl lk3 rfl (atL 0 rfl rfl rfl) ?_)
  refine xAs ?_
  refine wKp [(0, _), (2, _), (3, _), (4, _)] ⟨rfl, rfl, rfl, rfl, trivial⟩ ?_
  refine w_seq ?_
  refine wSR ?_
  refine xMv ?_
  refine oX (w_upd1 0 rfl rfl rfl en151 rfl (name_c _ _ _ (by omega) (by omega) _) ?_)
  refine xMv ?_
  refine oX (w_extract rfl rfl rfl rfl ?_)
  refine oX (w_extract rfl rfl rfl rfl ?_)
  refine xAs ?_
  refine xAs ?_
  refine wTd [(0, _), (2, _), (3, _), (4, _), (6, _)] [_] ⟨rfl, rfl, rfl, rfl, rfl, trivial⟩ rfl ?_
  refine wSR ?_
  refine xMv ?_
  refine oX (w_not rfl rfl rfl ?_)
  refine wKp [(0, _), (2, _), (3, _), (4, _), (6, _), (20, _)] ⟨rfl, rfl, rfl, rfl, rfl, rfl, trivial⟩ ?_
  refine wCd rfl (fun g1 => ?_) (fun g1 => ?_)
  · try simp only [sQ1, sQ2, sQ3, sQ4, sQ5, sQ6, sQ7, sQ8, ne_eq] at g1
    refine wSR ?_
    refine xAs ?_
    refine xAs ?_
    refine wKp [(0, _), (2, _), (3, _), (4, _), (6, _), (20, _)] ⟨rfl, rfl, rfl, rfl, rfl, rfl, trivial⟩ ?_
    refine w_ret (thn_r ?_)
    exact end1 .ret (.inl rfl) [_, _] 0 rfl ⟨rfl, rfl, trivial⟩ ⟨two_eq (by simp [domText, dom_bad g1]) (bool_eq (by simp [domOk, dom_bad g1])), rfl, by rw [dom_bad g1]⟩
  · try simp only [sQ1, sQ2, sQ3, sQ4, sQ5, sQ6, sQ7, sQ8, ne_eq] at g1
    refine w_skip ?_
    refine thn_n ?_
    refine w_seq ?_
    refine wSR ?_
    refine xAs ?_
    refine wKp [(0, _), (2, _), (3, _), (4, _), (6, _), (7, _), (20, _)] ⟨rfl, rfl, rfl, rfl, rfl, rfl, rfl, trivial⟩ ?_
    refine w_block ?_
    refine w_loop (α := Nat × Nat) (fun x => [(0, ptr ⟨b, 0, none⟩), (4, .int .i64 i), (7, .int .i64 x.1)]) (fun x => [cur b l x.2]) (fun x Bx => Bx = B ∧ 1 ≤ x.1 ∧ x.1 ≤ 3 ∧ i ≤ x.2 ∧ x.2 ≤ l.length ∧ dom l i = more (3 - x.1) l x.2) (fun x => 3 - x.1) (1, i + (word l i).length) ⟨rfl, rfl, rfl, trivial⟩ rfl (⟨rfl, by omega, by omega, by omega, word_le hi, dom_good g1⟩) (fun x B1 hle1 hI => ?_)
    obtain ⟨rfl, hk1, hk3, hix, hxl, hd⟩ := hI
    refine w_seq ?_
    refine wSR ?_
    refine xMv ?_
    refine oX (w_lss rfl rfl rfl rfl ?_)
    refine xMv ?_
    refine r_split (d := 23) rfl (fun g2 => ?_) (fun g2 => ?_)
    · try simp only [sQ1, sQ2, sQ3, sQ4, sQ5, sQ6, sQ7, sQ8, ne_eq] at g2
      refine xMv ?_
      refine oX (w_upd1 0 rfl rfl rfl en152 rfl (take_c _ _ _ (by omega) (by omega) 46 _) ?_)
      refine oX (w_pickT rfl rfl rfl rfl ?_)
      refine wTd [(0, _), (4, _), (7, _), (26, _)] [_] ⟨rfl, rfl, rfl, rfl, trivial⟩ rfl ?_
      refine wCd rfl (fun g3 => ?_) (fun g3 => ?_)
      · try simp only [sQ1, sQ2, sQ3, sQ4, sQ5, sQ6, sQ7, sQ8, ne_eq] at g3
        rw [if_pos g3]
        have hx2 := lt_of_get g3
        refine w_skip ?_
        refine thn_n ?_
        refine w_seq ?_
        refine w_block ?_
        refine wSR ?_
        refine xMv ?_
        refine oX (w_upd1 0 rfl rfl rfl en151 rfl (name_c _ _ _ (by omega) (by omega) _) ?_)
        refine xMv ?_
        refine oX (w_extract rfl rfl rfl rfl ?_)
        refine oX (w_extract rfl rfl rfl rfl ?_)
        refine xAs ?_
        refine xAs ?_
        refine wTd [(0, _), (4, _), (7, _), (9, _), (26, _)] [_] ⟨rfl, rfl, rfl, rfl, rfl, trivial⟩ rfl ?_
        refine wSR ?_
        refine xMv ?_
        refine oX (w_not rfl rfl rfl ?_)
        refine wKp [(0, _), (4, _), (7, _), (9, _), (26, _), (35, _)] ⟨rfl, rfl, rfl, rfl, rfl, rfl, trivial⟩ ?_
        refine wCd rfl (fun g4 => ?_) (fun g4 => ?_)
        · try simp only [sQ1, sQ2, sQ3, sQ4, sQ5, sQ6, sQ7, sQ8, ne_eq] at g4
          refine wSR ?_
          refine xAs ?_
          refine xAs ?_
          refine wKp [(0, _), (2, _), (3, _), (4, _), (7, _), (9, _), (26, _), (35, _)] ⟨rfl, rfl, rfl, rfl, rfl, rfl, rfl, rfl, trivial⟩ ?_
          refine w_ret (inB_r (thn_r (rnd_r (inB_r (thn_r ?_)))))
          have hdd := hd.trans (more_bad (by omega) g3 g4)
          exact end1 .ret (.inl rfl) [_, _] 0 rfl ⟨rfl, rfl, trivial⟩ ⟨two_eq (by simp [domText, hdd]) (bool_eq (by simp [domOk, hdd])), rfl, by rw [hdd]⟩
        · try simp only [sQ1, sQ2, sQ3, sQ4, sQ5, sQ6, sQ7, sQ8, ne_eq] at g4
          refine w_skip ?_
          refine inB_n (thn_n ?_)
          refine w_region ?_
          refine xMv ?_
          refine oX (w_add rfl rfl rfl rfl (by first | exact wrI64 (by omega) (by omega) | rfl) ?_)
          refine xAs ?_
          exact rnd_n (x.1 + 1, x.2 + 1 + (word l (x.2 + 1)).length) (by simp only []; omega) ⟨rfl, by simp only []; omega, by simp only []; omega, by simp only []; omega, word_le (by omega), by rw [hd, more_good (by omega) g3 g4]; rw [show 3 - (x.1 + 1) = 3 - x.1 - 1 from by omega]⟩ ⟨rfl, rfl, rfl, trivial⟩ rfl
      · try simp only [sQ1, sQ2, sQ3, sQ4, sQ5, sQ6, sQ7, sQ8, ne_eq] at g3
        rw [if_neg g3]
        replace hd := hd.trans (more_stop g3)
        refine w_exit (thn_x (rnd_x (inB_hit (thn_n ?_))))
        refine w_seq ?_
        refine w_draw (same _ _) mo (by kernel_rfl) ⟨rfl, rfl⟩ (fun _ _ => ?_)
        refine aTP 0 rfl (by kernel_rfl) rfl (fun D B L => w_move rfl rfl rfl ⟨rfl, rfl, rfl, rfl⟩) ?_
        refine aTk 1 rfl (by kernel_rfl) rfl (q_of fun D => w_nilCheck rfl rfl rfl ⟨rfl, rfl, rfl, rfl⟩) ?_
        refine aTk 2 rfl (by kernel_rfl) rfl (q_of fun D => wFA rfl rfl fo128x0 rfl ⟨rfl, rfl, rfl, rfl⟩) ?_
        refine aTk 3 rfl (by kernel_rfl) rfl (q_of fun D => w_load1 rfl rfl lk9 rfl (atL 0 rfl rfl rfl) ⟨rfl, rfl, rfl, rfl⟩) ?_
        refine aTP 4 rfl (by kernel_rfl) rfl (fun D B L => w_move rfl rfl rfl ⟨rfl, rfl, rfl, rfl⟩) ?_
        refine aTP 5 rfl (by kernel_rfl) rfl (fun D B L => w_move rfl rfl rfl ⟨rfl, rfl, rfl, rfl⟩) ?_
        refine aTk 6 rfl (by kernel_rfl) rfl (q_of fun D => w_nilCheck rfl rfl rfl ⟨rfl, rfl, rfl, rfl⟩) ?_
        refine aTk 7 rfl (by kernel_rfl) rfl (q_of fun D => wFA rfl rfl fo128x1 rfl ⟨rfl, rfl, rfl, rfl⟩) ?_
        refine aTk 8 rfl (by kernel_rfl) rfl (q_of fun D => w_load1 rfl rfl lk3 rfl (atL 0 rfl rfl rfl) ⟨rfl, rfl, rfl, rfl⟩) ?_
        refine aTk 9 rfl (by kernel_rfl) rfl (q_of fun D => w_sliceS rfl rfl Tryz.underlying9 rfl (a := i) (b := x.2) ⟨_, _, rfl, rfl⟩ ⟨_, _, rfl, rfl⟩ (by omega) (by omega) ⟨rfl, rfl, rfl, rfl⟩) ?_
        refine aTP 10 rfl (by kernel_rfl) rfl (fun D B L => w_move rfl rfl rfl ⟨rfl, rfl, rfl, rfl⟩) ?_
        refine aTk 11 rfl (by kernel_rfl) rfl (q_of fun D => w_nilCheck rfl rfl rfl ⟨rfl, rfl, rfl, rfl⟩) ?_
        refine aTk 12 rfl (by kernel_rfl) rfl (q_of fun D => wFA rfl rfl fo128x1 rfl ⟨rfl, rfl, rfl, rfl⟩) ?_
        refine aTk 13 rfl (by kernel_rfl) rfl (q_of fun D => w_load1 rfl rfl lk3 rfl (atL 0 rfl rfl rfl) ⟨rfl, rfl, rfl, rfl⟩) ?_
        refine aTP 14 rfl (by kernel_rfl) rfl (fun D B L => w_move rfl rfl rfl ⟨rfl, rfl, rfl, rfl⟩) ?_
        refine aTk 15 rfl (by kernel_rfl) rfl (q_of fun D => w_sub rfl rfl rfl rfl (by first | exact wrI64 (by omega) (by omega) | rfl) ⟨rfl, rfl, rfl, rfl⟩) ?_
        refine aTk 16 rfl (by kernel_rfl) rfl (q_of fun D => w_leq rfl rfl rfl rfl ⟨rfl, rfl, rfl, rfl⟩) ?_
        refine aTP 17 rfl (by kernel_rfl) rfl (fun D B L => w_assign rfl rfl rfl ⟨rfl, rfl, rfl, rfl⟩) ?_
        refine aTP 18 rfl (by kernel_rfl) rfl (fun D B L => w_assign rfl rfl rfl ⟨rfl, rfl, rfl, rfl⟩) ?_
        refine any_done (by kernel_rfl) (by kernel_rfl) ?_
        refine thn_n ?_
        refine wKp [(0, _), (2, _), (3, _), (4, _), (7, _), (26, _)] ⟨rfl, rfl, rfl, rfl, rfl, rfl, trivial⟩ ?_
        refine w_ret ?_
        exact end1 .ret (.inl rfl) [_, _] 0 rfl ⟨rfl, rfl, trivial⟩ ⟨two_eq (by simp [domText, hd]) (bool_eq (by rw [Bool.eq_iff_iff]; simp [domOk, hd]; omega)), rfl, by rw [hd]⟩
    · try simp only [sQ1, sQ2, sQ3, sQ4, sQ5, sQ6, sQ7, sQ8, ne_eq] at g2
      replace hd : dom l i = (true, x.2) := hd.trans (by rw [show 3 - x.1 = 0 from by omega]; rfl)
      refine oX (w_pass rfl rfl ?_)
      refine oX (w_pass rfl rfl ?_)
      refine oX (w_pickF rfl rfl rfl rfl ?_)
      refine wKp [(0, _), (4, _), (7, _), (26, _)] ⟨rfl, rfl, rfl, rfl, trivial⟩ ?_
      refine wCd (t := false) rfl (fun h => Bool.noConfusion h) (fun _ => ?_)
      refine w_exit (thn_x (rnd_x (inB_hit (thn_n ?_))))
      refine w_seq ?_
      refine w_draw (same _ _) mo (by kernel_rfl) ⟨rfl, rfl⟩ (fun _ _ => ?_)
      refine aTP 0 rfl (by kernel_rfl) rfl (fun D B L => w_move rfl rfl rfl ⟨rfl, rfl, rfl, rfl⟩) ?_
      refine aTk 1 rfl (by kernel_rfl) rfl (q_of fun D => w_nilCheck rfl rfl rfl ⟨rfl, rfl, rfl, rfl⟩) ?_
      refine aTk 2 rfl (by kernel_rfl) rfl (q_of fun D => wFA rfl rfl fo128x0 rfl ⟨rfl, rfl, rfl, rfl⟩) ?_
      refine aTk 3 rfl (by kernel_rfl) rfl (q_of fun D => w_load1 rfl rfl lk9 rfl (atL 0 rfl rfl rfl) ⟨rfl, rfl, rfl, rfl⟩) ?_
      refine aTP 4 rfl (by kernel_rfl) rfl (fun D B L => w_move rfl rfl rfl ⟨rfl, rfl, rfl, rfl⟩) ?_
      refine aTP 5 rfl (by kernel_rfl) rfl (fun D B L => w_move rfl rfl rfl ⟨rfl, rfl, rfl, rfl⟩) ?_
      refine aTk 6 rfl (by kernel_rfl) rfl (q_of fun D => w_nilCheck rfl rfl rfl ⟨rfl, rfl, rfl, rfl⟩) ?_
      refine aTk 7 rfl (by kernel_rfl) rfl (q_of fun D => wFA rfl rfl fo128x1 rfl ⟨rfl, rfl, rfl, rfl⟩) ?_
      refine aTk 8 rfl (by kernel_rfl) rfl (q_of fun D => w_load1 rfl rfl lk3 rfl (atL 0 rfl rfl rfl) ⟨rfl, rfl, rfl, rfl⟩) ?_
      refine aTk 9 rfl (by kernel_rfl) rfl (q_of fun D => w_sliceS rfl rfl Tryz.underlying9 rfl (a := i) (b := x.2) ⟨_, _, rfl, rfl⟩ ⟨_, _, rfl, rfl⟩ (by omega) (by omega) ⟨rfl, rfl, rfl, rfl⟩) ?_
      refine aTP 10 rfl (by kernel_rfl) rfl (fun D B L => w_move rfl rfl rfl ⟨rfl, rfl, rfl, rfl⟩) ?_
      refine aTk 11 rfl (by kernel_rfl) rfl (q_of fun D => w_nilCheck rfl rfl rfl ⟨rfl, rfl, rfl, rfl⟩) ?_
      refine aTk 12 rfl (by kernel_rfl) rfl (q_of fun D => wFA rfl rfl fo128x1 rfl ⟨rfl, rfl, rfl, rfl⟩) ?_
      refine aTk 13 rfl (by kernel_rfl) rfl (q_of fun D => w_load1 rfl rfl lk3 rfl (atL 0 rfl rfl rfl) ⟨rfl, rfl, rfl, rfl⟩) ?_
      refine aTP 14 rfl (by kernel_rfl) rfl (fun D B L => w_move rfl rfl rfl ⟨rfl, rfl, rfl, rfl⟩) ?_
      refine aTk 15 rfl (by kernel_rfl) rfl (q_of fun D => w_sub rfl rfl rfl rfl (by first | exact wrI64 (by omega) (by omega) | rfl) ⟨rfl, rfl, rfl, rfl⟩) ?_
      refine aTk 16 rfl (by kernel_rfl) rfl (q_of fun D => w_leq rfl rfl rfl rfl ⟨rfl, rfl, rfl, rfl⟩) ?_
      refine aTP 17 rfl (by kernel_rfl) rfl (fun D B L => w_assign rfl rfl rfl ⟨rfl, rfl, rfl, rfl⟩) ?_
      refine aTP 18 rfl (by kernel_rfl) rfl (fun D B L => w_assign rfl rfl rfl ⟨rfl, rfl, rfl, rfl⟩) ?_
      refine any_done (by kernel_rfl) (by kernel_rfl) ?_
      refine thn_n ?_
      refine wKp [(0, _), (2, _), (3, _), (4, _), (7, _), (26, _)] ⟨rfl, rfl, rfl, rfl, rfl, rfl, trivial⟩ ?_
      refine w_ret ?_
      exact end1 .ret (.inl rfl) [_, _] 0 rfl ⟨rfl, rfl, trivial⟩ ⟨two_eq (by simp [domText, hd]) (bool_eq (by rw [Bool.eq_iff_iff]; simp [domOk, hd]; omega)), rfl, by rw [hd]⟩

set_option maxRecDepth 4000 in
set_option maxHeartbeats 400000 in
theorem implName_c (l : List UInt8) (hl : l.length ≤ 2000000) (B : Kn) : RetB (pj J) 115 [str l] B (.bool (nameOk l)) := by
  refine cBB 16 Tryz.func115 rfl rfl rfl (Nat.le_of_ble_eq_true rfl) ?_
  refine wSR ?_
  refine xAs ?_
  refine wKp [(0, _), (2, _)] ⟨rfl, rfl, trivial⟩ ?_
  refine wSR ?_
  refine xMv ?_
  refine oX (w_build (parts := [(0, _)]) [_, _] [_, _] rfl rfl pl128 zo128 rfl rfl rfl ?_)
  refine oX (w_alloc (l := [_, _]) rfl rfl zo128 rfl (fun b0 => ?_))
  refine oX (w_store [_, _] 0 [_, _] rfl rfl sz128 rfl rfl rfl rfl rfl rfl rfl rfl ?_)
  refine wTd [(0, _), (2, _), (3, _)] [_] ⟨rfl, rfl, rfl, trivial⟩ rfl ?_
  refine wSR ?_
  refine oX (w_upd1 0 rfl rfl rfl en151 rfl (name_c _ _ 0 (by omega) hl _) ?_)
  refine xMv ?_
  refine oX (w_extract rfl rfl rfl rfl ?_)
  refine oX (w_extract rfl rfl rfl rfl ?_)
  refine xAs ?_
  refine xAs ?_
  refine wTd [(0, _), (2, _), (3, _), (5, _)] [_] ⟨rfl, rfl, rfl, rfl, trivial⟩ rfl ?_
  refine wSR ?_
  refine xMv ?_
  refine xMv ?_
  refine r_split (d := 13) rfl (fun g1 => ?_) (fun g1 => ?_)
  · try simp only [sQ1, sQ2, sQ3, sQ4, sQ5, sQ6, sQ7, sQ8, ne_eq] at g1
    refine oX (w_ret1 0 rfl rfl rfl en103 rfl (done_c _ _ (0 + (word l 0).length) (word_le (Nat.zero_le _)) (by omega) _) ?_)
    refine oX (w_pickT rfl rfl rfl rfl ?_)
    refine xAs ?_
    refine wKp [(0, _), (2, _), (3, _), (5, _)] ⟨rfl, rfl, rfl, rfl, trivial⟩ ?_
    refine w_ret ?_
    exact end0 .ret (.inl rfl) [_] ⟨rfl, trivial⟩ ⟨bool_eq (by rw [nameOk_word]; simp [g1]; try omega), rfl, rfl⟩
  · try simp only [sQ1, sQ2, sQ3, sQ4, sQ5, sQ6, sQ7, sQ8, ne_eq] at g1
    refine oX (w_pass rfl rfl ?_)
    refine oX (w_pickF rfl rfl rfl rfl ?_)
    refine xAs ?_
    refine wKp [(0, _), (2, _), (3, _), (5, _)] ⟨rfl, rfl, rfl, rfl, trivial⟩ ?_
    refine w_ret ?_
    exact end0 .ret (.inl rfl) [_] ⟨rfl, trivial⟩ ⟨bool_eq (by rw [nameOk_word]; simp [g1]; try omega), rfl, rfl⟩

abbrev rd (b : Nat) (q : Option Addr) (m cp p : Nat) : Cells := box1 b [.slice q m cp, .int .i64 p] 123
set_option maxRecDepth 4000 in
set_option maxHeartbeats 400000 in
theorem l6Open_c (q : Option Addr) (m cp : Nat) (hmc : m ≤ cp) (B : Kn) (hb : BytesAt B q m) : New1 (pj J) 43 [.slice q m cp] B (fun v s => ∃ b q m cp, v = ptr ⟨b, 0, none⟩ ∧ s = rd b q m cp 0 ∧ m ≤ 2000 ∧ BytesAt B q m) := by
  refine cBB 11 Tryz.func43 rfl rfl rfl (Nat.le_of_ble_eq_true rfl) ?_
  refine wSR ?_
  refine xAs ?_
  refine wKp [(0, _), (2, _)] ⟨rfl, rfl, trivial⟩ ?_
  refine w_seq ?_
  refine wSR ?_
  refine xMv ?_
  refine oX (w_lenV rfl rfl Tryz.underlying22 rfl ?_)
  refine oX (w_gtr rfl rfl rfl rfl ?_)
  refine wKp [(0, _), (2, _), (5, _)] ⟨rfl, rfl, rfl, trivial⟩ ?_
  refine wCd rfl (fun g1 => ?_) (fun g1 => ?_)
  · try simp only [sQ1, sQ2, sQ3, sQ4, sQ5, sQ6, sQ7, sQ8, ne_eq] at g1
    refine w_region ?_
    refine xMv ?_
    refine oX (w_sliceV rfl rfl Tryz.underlying22 sz5 rfl (a := 0) (b := 2000) rfl ⟨_, _, rfl, rfl⟩ (by omega) (by omega) ?_)
    refine xAs ?_
    refine thn_n ?_
    refine wSR ?_
    refine xMv ?_
    refine oX (w_build (parts := [(0, _)]) [_, _] [_, _] rfl rfl pl123 zo123 rfl rfl rfl ?_)
    refine oX (w_box (l := [_, _]) rfl rfl rfl rfl (fun b0 => ?_))
    refine xAs ?_
    refine wTd [(0, _), (2, _), (5, _)] [_] ⟨rfl, rfl, rfl, trivial⟩ rfl ?_
    refine w_ret ?_
    exact end1 .ret (.inl rfl) [_] 0 rfl ⟨rfl, trivial⟩ ⟨rfl, _, rfl, _, _, _, _, rfl, rfl, by omega, hb.take (by omega)⟩
  · try simp only [sQ1, sQ2, sQ3, sQ4, sQ5, sQ6, sQ7, sQ8, ne_eq] at g1
    refine w_skip ?_
    refine thn_n ?_
    refine wSR ?_
    refine xMv ?_
    refine oX (w_build (parts := [(0, _)]) [_, _] [_, _] rfl rfl pl123 zo123 rfl rfl rfl ?_)
    refine oX (w_box (l := [_, _]) rfl rfl rfl rfl (fun b0 => ?_))
    refine xAs ?_
    refine wTd [(0, _), (2, _), (5, _)] [_] ⟨rfl, rfl, rfl, trivial⟩ rfl ?_
    refine w_ret ?_
    exact end1 .ret (.inl rfl) [_] 0 rfl ⟨rfl, trivial⟩ ⟨rfl, _, rfl, _, _, _, _, rfl, rfl, by omega, hb⟩

set_option maxRecDepth 4000 in
set_option maxHeartbeats 400000 in
theorem pick_c (b : Nat) (q : Option Addr) (m cp p : Nat) (n : Int) (hp : p ≤ 1000000000000) (hn : 1 ≤ n) (hn2 : n ≤ 1000000000000) (hm : m ≤ 2000) (B : Kn) (hb : BytesAt B q m) : Ex1 (pj J) 99 [ptr ⟨b, 0, none⟩, .int .i64 n] B (rd b q m cp p) (fun v s => ∃ r : Int, v = .int .i64 r ∧ 0 ≤ r ∧ r < n ∧ s = rd b q m cp (p + 1)) := by
  refine cBB 99 Tryz.func99 rfl rfl rfl (Nat.le_of_ble_eq_true rfl) ?_
  refine wSR ?_
  refine xAs ?_
  refine wKp [(0, _), (1, _), (4, _)] ⟨rfl, rfl, rfl, trivial⟩ ?_
  refine wSR ?_
  refine xMv ?_
  refine xMv ?_
  refine oX (w_nilCheck rfl rfl rfl ?_)
  refine oX (wFA rfl rfl fo123x1 rfl ?_)
  refine oX (w_load1 rfl rfl lk3 rfl (atL 0 rfl rfl rfl) ?_)
  refine oX (w_add rfl rfl rfl rfl (by first | exact wrI64 (by omega) (by omega) | rfl) ?_)
  refine oX (w_nilCheck rfl rfl rfl ?_)
  refine oX (wFA rfl rfl fo123x1 rfl ?_)
  refine oX (w_store [_] 0 [_, _] rfl rfl sz3 rfl rfl rfl rfl rfl rfl rfl rfl ?_)
  refine wTd [(0, _), (1, _), (4, _)] [_] ⟨rfl, rfl, rfl, trivial⟩ rfl ?_
  refine w_seq ?_
  refine wSR ?_
  refine xMv ?_
  refine oX (w_lss rfl rfl rfl rfl ?_)
  refine xMv ?_
  refine r_split (d := 17) rfl (fun g1 => by have := of_decide_eq_true g1; omega) (fun g1 => ?_)
  try simp only [sQ1, sQ2, sQ3, sQ4, sQ5, sQ6, sQ7, sQ8, ne_eq] at g1
  refine xMv ?_
  refine oX (w_nilCheck rfl rfl rfl ?_)
  refine oX (wFA rfl rfl fo123x0 rfl ?_)
  refine oX (w_load1 rfl rfl lk22 rfl (atL 0 rfl rfl rfl) ?_)
  refine oX (w_lenV rfl rfl Tryz.underlying22 rfl ?_)
  refine oX (w_eqlI rfl rfl rfl rfl ?_)
  refine oX (w_pickF rfl rfl rfl rfl ?_)
  refine wKp [(0, _), (1, _), (4, _), (24, _)] ⟨rfl, rfl, rfl, rfl, trivial⟩ ?_
  refine wCd rfl (fun g2 => ?_) (fun g2 => ?_)
  · try simp only [sQ1, sQ2, sQ3, sQ4, sQ5, sQ6, sQ7, sQ8, ne_eq] at g2
    refine wSR ?_
    refine xAs ?_
    refine wKp [(0, _), (1, _), (4, _), (24, _)] ⟨rfl, rfl, rfl, rfl, trivial⟩ ?_
    refine w_ret (thn_r ?_)
    exact end1 .ret (.inl rfl) [_] 0 rfl ⟨rfl, trivial⟩ ⟨rfl, _, rfl, 0, rfl, by omega, by omega, rfl⟩
  · try simp only [sQ1, sQ2, sQ3, sQ4, sQ5, sQ6, sQ7, sQ8, ne_eq] at g2
    have hm0 : 0 < m := by omega
    obtain ⟨a, rfl, hc⟩ := hb.at hm0
    refine w_skip ?_
    refine thn_n ?_
    refine wSR ?_
    refine xMv ?_
    refine oX (w_nilCheck rfl rfl rfl ?_)
    refine oX (wFA rfl rfl fo123x1 rfl ?_)
    refine oX (w_load1 rfl rfl lk3 rfl (atL 0 rfl rfl rfl) ?_)
    refine oX (w_sub rfl rfl rfl rfl (by first | exact wrI64 (by omega) (by omega) | rfl) ?_)
    refine xAs ?_
    refine wKp [(0, _), (1, _), (4, _), (5, _), (24, _)] ⟨rfl, rfl, rfl, rfl, rfl, trivial⟩ ?_
    refine w_seq ?_
    refine wSR ?_
    refine xMv ?_
    refine xMv ?_
    refine oX (w_nilCheck rfl rfl rfl ?_)
    refine oX (wFA rfl rfl fo123x0 rfl ?_)
    refine oX (w_load1 rfl rfl lk22 rfl (atL 0 rfl rfl rfl) ?_)
    refine oX (w_lenV rfl rfl Tryz.underlying22 rfl ?_)
    refine oX (w_lss rfl rfl rfl rfl ?_)
    refine wKp [(0, _), (1, _), (4, _), (5, _), (24, _), (36, _)] ⟨rfl, rfl, rfl, rfl, rfl, rfl, trivial⟩ ?_
    refine wCd rfl (fun g3 => ?_) (fun g3 => ?_)
    · try simp only [sQ1, sQ2, sQ3, sQ4, sQ5, sQ6, sQ7, sQ8, ne_eq] at g3
      obtain ⟨z, hz, h1⟩ := hc (↑p + 1 - 1) (by omega) (by omega)
      refine wSR ?_
      refine xMv ?_
      refine oX (w_nilCheck rfl rfl rfl ?_)
      refine oX (wFA rfl rfl fo123x0 rfl ?_)
      refine oX (w_load1 rfl rfl lk22 rfl (atL 0 rfl rfl rfl) ?_)
      refine xMv ?_
      refine oX (w_indexAddr rfl rfl Tryz.underlying22 sz5 rfl rfl (by omega) (by omega) ?_)
      refine oX (w_load1 rfl rfl lk5 rfl (h1 _) ?_)
      refine oX (w_convI rfl rfl Tryz.underlying5 Tryz.underlying3 rfl (by first | exact wrI64 (by omega) (by omega) | rfl) ?_)
      refine xMv ?_
      refine oX (w_rem rfl rfl rfl rfl (by omega) (by first | exact wrI64 (by omega) (by omega) | rfl) ?_)
      refine xAs ?_
      refine wKp [(0, _), (1, _), (4, _), (5, _), (24, _), (36, _)] ⟨rfl, rfl, rfl, rfl, rfl, rfl, trivial⟩ ?_
      refine w_ret (thn_r ?_)
      exact end1 .ret (.inl rfl) [_] 0 rfl ⟨rfl, trivial⟩ ⟨rfl, _, rfl, _, rfl, Int.tmod_nonneg _ (by omega), Int.tmod_lt_of_pos _ (by omega), rfl⟩
    · try simp only [sQ1, sQ2, sQ3, sQ4, sQ5, sQ6, sQ7, sQ8, ne_eq] at g3
      obtain ⟨z, hz, h1⟩ := hc (Int.tmod (↑p + 1 - 1) ↑m) (Int.tmod_nonneg _ (by omega)) (Int.tmod_lt_of_pos _ (by omega))
      obtain ⟨z2, hz2, h2⟩ := hc (Int.tmod ((↑p + 1 - 1) * 7 + 3) ↑m) (Int.tmod_nonneg _ (by omega)) (Int.tmod_lt_of_pos _ (by omega))
      have ht0 : 0 ≤ Int.tdiv (↑p + 1 - 1) ↑m := Int.tdiv_nonneg (by omega) (by omega)
      have ht1 : Int.tdiv (↑p + 1 - 1) ↑m ≤ ↑p + 1 - 1 := Int.tdiv_le_self _ (by omega)
      refine w_skip ?_
      refine thn_n ?_
      refine w_seq ?_
      refine w_draw (same _ _) mo (by kernel_rfl) ⟨rfl, rfl⟩ (fun _ _ => ?_)
      refine aTP 0 rfl (by kernel_rfl) rfl (fun D B L => w_move rfl rfl rfl ⟨rfl, rfl, rfl, rfl⟩) ?_
      refine aTk 1 rfl (by kernel_rfl) rfl (q_of fun D => w_nilCheck rfl rfl rfl ⟨rfl, rfl, rfl, rfl⟩) ?_
      refine aTk 2 rfl (by kernel_rfl) rfl (q_of fun D => wFA rfl rfl fo123x0 rfl ⟨rfl, rfl, rfl, rfl⟩) ?_
      refine aTk 3 rfl (by kernel_rfl) rfl (q_of fun D => w_load1 rfl rfl lk22 rfl (atL 0 rfl rfl rfl) ⟨rfl, rfl, rfl, rfl⟩) ?_
      refine aTP 4 rfl (by kernel_rfl) rfl (fun D B L => w_move rfl rfl rfl ⟨rfl, rfl, rfl, rfl⟩) ?_
      refine aTP 5 rfl (by kernel_rfl) rfl (fun D B L => w_move rfl rfl rfl ⟨rfl, rfl, rfl, rfl⟩) ?_
      refine aTk 6 rfl (by kernel_rfl) rfl (q_of fun D => w_nilCheck rfl rfl rfl ⟨rfl, rfl, rfl, rfl⟩) ?_
      refine aTk 7 rfl (by kernel_rfl) rfl (q_of fun D => wFA rfl rfl fo123x0 rfl ⟨rfl, rfl, rfl, rfl⟩) ?_
      refine aTk 8 rfl (by kernel_rfl) rfl (q_of fun D => w_load1 rfl rfl lk22 rfl (atL 0 rfl rfl rfl) ⟨rfl, rfl, rfl, rfl⟩) ?_
      refine aTk 9 rfl (by kernel_rfl) rfl (q_of fun D => w_lenV rfl rfl Tryz.underlying22 rfl ⟨rfl, rfl, rfl, rfl⟩) ?_
      refine aTk 10 rfl (by kernel_rfl) rfl (q_of fun D => w_rem rfl rfl rfl rfl (by omega) (by first | exact wrI64 (by omega) (by omega) | rfl) ⟨rfl, rfl, rfl, rfl⟩) ?_
      refine aTk 11 rfl (by kernel_rfl) rfl (q_of fun D => w_indexAddr rfl rfl Tryz.underlying22 sz5 rfl rfl (Int.tmod_nonneg _ (by omega)) (Int.tmod_lt_of_pos _ (by omega)) ⟨rfl, rfl, rfl, rfl⟩) ?_
      refine aTk 12 rfl (by kernel_rfl) rfl (q_of fun D => w_load1 rfl rfl lk5 rfl (h1 _) ⟨rfl, rfl, rfl, rfl⟩) ?_
      refine aTk 13 rfl (by kernel_rfl) rfl (q_of fun D => w_convI rfl rfl Tryz.underlying5 Tryz.underlying3 rfl (by first | exact wrI64 (by omega) (by omega) | rfl) ⟨rfl, rfl, rfl, rfl⟩) ?_
      refine aTk 14 rfl (by kernel_rfl) rfl (q_of fun D => w_mul rfl rfl rfl rfl (by first | exact wrI64 (by omega) (by omega) | rfl) ⟨rfl, rfl, rfl, rfl⟩) ?_
      refine aTP 15 rfl (by kernel_rfl) rfl (fun D B L => w_move rfl rfl rfl ⟨rfl, rfl, rfl, rfl⟩) ?_
      refine aTk 16 rfl (by kernel_rfl) rfl (q_of fun D => w_nilCheck rfl rfl rfl ⟨rfl, rfl, rfl, rfl⟩) ?_
      refine aTk 17 rfl (by kernel_rfl) rfl (q_of fun D => wFA rfl rfl fo123x0 rfl ⟨rfl, rfl, rfl, rfl⟩) ?_
      refine aTk 18 rfl (by kernel_rfl) rfl (q_of fun D => w_load1 rfl rfl lk22 rfl (atL 0 rfl rfl rfl) ⟨rfl, rfl, rfl, rfl⟩) ?_
      refine aTP 19 rfl (by kernel_rfl) rfl (fun D B L => w_move rfl rfl rfl ⟨rfl, rfl, rfl, rfl⟩) ?_
      refine aTk 20 rfl (by kernel_rfl) rfl (q_of fun D => w_mul rfl rfl rfl rfl (by first | exact wrI64 (by omega) (by omega) | rfl) ⟨rfl, rfl, rfl, rfl⟩) ?_
      refine aTk 21 rfl (by kernel_rfl) rfl (q_of fun D => w_add rfl rfl rfl rfl (by first | exact wrI64 (by omega) (by omega) | rfl) ⟨rfl, rfl, rfl, rfl⟩) ?_
      refine aTP 22 rfl (by kernel_rfl) rfl (fun D B L => w_move rfl rfl rfl ⟨rfl, rfl, rfl, rfl⟩) ?_
      refine aTk 23 rfl (by kernel_rfl) rfl (q_of fun D => w_nilCheck rfl rfl rfl ⟨rfl, rfl, rfl, rfl⟩) ?_
      refine aTk 24 rfl (by kernel_rfl) rfl (q_of fun D => wFA rfl rfl fo123x0 rfl ⟨rfl, rfl, rfl, rfl⟩) ?_
      refine aTk 25 rfl (by kernel_rfl) rfl (q_of fun D => w_load1 rfl rfl lk22 rfl (atL 0 rfl rfl rfl) ⟨rfl, rfl, rfl, rfl⟩) ?_
      refine aTk 26 rfl (by kernel_rfl) rfl (q_of fun D => w_lenV rfl rfl Tryz.underlying22 rfl ⟨rfl, rfl, rfl, rfl⟩) ?_
      refine aTk 27 rfl (by kernel_rfl) rfl (q_of fun D => w_rem rfl rfl rfl rfl (by omega) (by first | exact wrI64 (by omega) (by omega) | rfl) ⟨rfl, rfl, rfl, rfl⟩) ?_
      refine aTk 28 rfl (by kernel_rfl) rfl (q_of fun D => w_indexAddr rfl rfl Tryz.underlying22 sz5 rfl rfl (Int.tmod_nonneg _ (by omega)) (Int.tmod_lt_of_pos _ (by omega)) ⟨rfl, rfl, rfl, rfl⟩) ?_
      refine aTk 29 rfl (by kernel_rfl) rfl (q_of fun D => w_load1 rfl rfl lk5 rfl (h2 _) ⟨rfl, rfl, rfl, rfl⟩) ?_
      refine aTk 30 rfl (by kernel_rfl) rfl (q_of fun D => w_convI rfl rfl Tryz.underlying5 Tryz.underlying3 rfl (by first | exact wrI64 (by omega) (by omega) | rfl) ⟨rfl, rfl, rfl, rfl⟩) ?_
      refine aTk 31 rfl (by kernel_rfl) rfl (q_of fun D => w_mul rfl rfl rfl rfl (by first | exact wrI64 (by omega) (by omega) | rfl) ⟨rfl, rfl, rfl, rfl⟩) ?_
      refine aTk 32 rfl (by kernel_rfl) rfl (q_of fun D => w_add rfl rfl rfl rfl (by first | exact wrI64 (by omega) (by omega) | rfl) ⟨rfl, rfl, rfl, rfl⟩) ?_
      refine aTP 33 rfl (by kernel_rfl) rfl (fun D B L => w_move rfl rfl rfl ⟨rfl, rfl, rfl, rfl⟩) ?_
      refine aTk 34 rfl (by kernel_rfl) rfl (q_of fun D => w_mul rfl rfl rfl rfl (by first | exact wrI64 (by omega) (by omega) | rfl) ⟨rfl, rfl, rfl, rfl⟩) ?_
      refine aTk 35 rfl (by kernel_rfl) rfl (q_of fun D => w_add rfl rfl rfl rfl (by first | exact wrI64 (by omega) (by omega) | rfl) ⟨rfl, rfl, rfl, rfl⟩) ?_
      refine aTP 36 rfl (by kernel_rfl) rfl (fun D B L => w_move rfl rfl rfl ⟨rfl, rfl, rfl, rfl⟩) ?_
      refine aTP 37 rfl (by kernel_rfl) rfl (fun D B L => w_move rfl rfl rfl ⟨rfl, rfl, rfl, rfl⟩) ?_
      refine aTk 38 rfl (by kernel_rfl) rfl (q_of fun D => w_nilCheck rfl rfl rfl ⟨rfl, rfl, rfl, rfl⟩) ?_
      refine aTk 39 rfl (by kernel_rfl) rfl (q_of fun D => wFA rfl rfl fo123x0 rfl ⟨rfl, rfl, rfl, rfl⟩) ?_
      refine aTk 40 rfl (by kernel_rfl) rfl (q_of fun D => w_load1 rfl rfl lk22 rfl (atL 0 rfl rfl rfl) ⟨rfl, rfl, rfl, rfl⟩) ?_
      refine aTk 41 rfl (by kernel_rfl) rfl (q_of fun D => w_lenV rfl rfl Tryz.underlying22 rfl ⟨rfl, rfl, rfl, rfl⟩) ?_
      refine aTk 42 rfl (by kernel_rfl) rfl (q_of fun D => w_quo rfl rfl rfl rfl (by omega) (by first | exact wrI64 (by omega) (by omega) | rfl) ⟨rfl, rfl, rfl, rfl⟩) ?_
      refine aTk 43 rfl (by kernel_rfl) rfl (q_of fun D => w_mul rfl rfl rfl rfl (by first | exact wrI64 (by omega) (by omega) | rfl) ⟨rfl, rfl, rfl, rfl⟩) ?_
      refine aTk 44 rfl (by kernel_rfl) rfl (q_of fun D => w_add rfl rfl rfl rfl (by first | exact wrI64 (by omega) (by omega) | rfl) ⟨rfl, rfl, rfl, rfl⟩) ?_
      refine aTP 45 rfl (by kernel_rfl) rfl (fun D B L => w_assign rfl rfl rfl ⟨rfl, rfl, rfl, rfl⟩) ?_
      refine any_done (by kernel_rfl) (by kernel_rfl) ?_
      refine thn_n ?_
      refine wKp [(0, _), (1, _), (4, _), (5, _), (6, _), (24, _), (36, _)] ⟨rfl, rfl, rfl, rfl, rfl, rfl, rfl, trivial⟩ ?_
      generalize hx : (↑z * 131 + ↑z2 * 1117 + (↑p + 1 - 1) * 29 + (↑p + 1 - 1 : Int).tdiv ↑m * 53 : Int) = x
      have hx0 : 0 ≤ x := by omega
      have hx1 : x < 1000000000000000 := by omega
      have hy0 : 0 ≤ Int.tdiv x 64 := Int.tdiv_nonneg (by omega) (by omega)
      have hy1 : Int.tdiv x 64 ≤ x := Int.tdiv_le_self _ (by omega)
      refine wSR ?_
      refine xMv ?_
      refine xMv ?_
      refine oX (w_quo rfl rfl rfl rfl (by omega) (by first | exact wrI64 (by omega) (by omega) | rfl) ?_)
      refine oX (w_xor rfl rfl rfl rfl (by omega) (by omega) (by omega) (by omega) (fun y hy2 hy3 => ?_))
      refine xAs ?_
      refine wKp [(0, _), (1, _), (4, _), (5, _), (6, _), (24, _), (36, _)] ⟨rfl, rfl, rfl, rfl, rfl, rfl, rfl, trivial⟩ ?_
      refine wSR ?_
      refine xMv ?_
      refine xMv ?_
      refine oX (w_rem rfl rfl rfl rfl (by omega) (by first | exact wrI64 (by omega) (by omega) | rfl) ?_)
      refine xAs ?_
      refine wKp [(0, _), (1, _), (4, _), (5, _), (6, _), (24, _), (36, _)] ⟨rfl, rfl, rfl, rfl, rfl, rfl, rfl, trivial⟩ ?_
      refine w_ret ?_
      exact end1 .ret (.inl rfl) [_] 0 rfl ⟨rfl, trivial⟩ ⟨rfl, _, rfl, _, rfl, Int.tmod_nonneg _ (by omega), Int.tmod_lt_of_pos _ (by omega), rfl⟩

set_option maxRecDepth 4000 in
set_option maxHeartbeats 400000 in
theorem of_c (b : Nat) (q : Option Addr) (m cp p : Nat) (b1 : Nat) (ls : List (List UInt8)) (hp : p ≤ 1000000000000) (hn : 1 ≤ ls.length) (hn2 : ls.length ≤ 1000000000000) (hm : m ≤ 2000) (B : Kn) (hbm : BytesAt B q m) : CallsB (pj J) 100 [ptr ⟨b, 0, none⟩, .slice (some ⟨b1, 0, none⟩) ls.length ls.length] B [rd b q m cp p, box1 b1 (ls.map str) 9] (fun v B' Ls => B' = B ∧ ∃ x, x ∈ ls ∧ v = str x ∧ Ls = [rd b q m cp (p + 1)]) := by
  refine cBB 12 Tryz.func100 rfl rfl rfl (Nat.le_of_ble_eq_true rfl) ?_
  skip
  refine wSR ?_
  refine xAs ?_
  refine wKp [(0, _), (1, _), (4, _)] ⟨rfl, rfl, rfl, trivial⟩ ?_
  refine wSR ?_
  refine xMv ?_
  refine xMv ?_
  refine xMv ?_
  refine oX (w_lenV rfl rfl Tryz.underlying98 rfl ?_)
  refine oX (w_ex1 0 rfl rfl rfl en99 rfl (pick_c _ _ _ _ _ _ (by omega) (by omega) (by omega) hm _ hbm) ?_)
  rintro _ _ ⟨r1, rfl, r1a, r1b, rfl⟩
  refine oX (w_indexAddr rfl rfl Tryz.underlying98 sz9 rfl rfl (by omega) (by omega) ?_)
  obtain ⟨x, hx⟩ : ∃ x, ls[r1.toNat]? = some x := ⟨_, List.getElem?_eq_getElem (by omega)⟩
  refine oX (w_load1 rfl rfl lk9 rfl (atElem 1 rfl (v := str x) (by rw [Nat.mul_one, List.getElem?_map, hx]; rfl)) ?_)
  refine xAs ?_
  refine wTd [(0, _), (1, _), (4, _)] [_, _] ⟨rfl, rfl, rfl, trivial⟩ rfl ?_
  refine w_ret ?_
  exact endN .ret (.inl rfl) [_] [0] rfl ⟨rfl, trivial⟩ ⟨rfl, x, List.mem_of_getElem? hx, rfl, rfl⟩

set_option maxRecDepth 4000 in
set_option maxHeartbeats 400000 in
theorem l91Name_c (b : Nat) (q : Option Addr) (m cp p : Nat) (hp : p ≤ 900000000000) (hm : m ≤ 2000) (B : Kn) (hbm : BytesAt B q m) : Ex1 (pj J) 101 [ptr ⟨b, 0, none⟩] B (rd b q m cp p) (fun v s => ∃ x : List UInt8, v = str x ∧ x.length ≤ 9 ∧ s = rd b q m cp (p + 2)) := by
  refine cBB 12 Tryz.func101 rfl rfl rfl (Nat.le_of_ble_eq_true rfl) ?_
  refine wSR ?_
  refine xAs ?_
  refine wKp [(0, _), (2, _)] ⟨rfl, rfl, trivial⟩ ?_
  refine w_seq ?_
  refine wSR ?_
  refine xMv ?_
  refine oX (w_ex1 0 rfl rfl rfl en99 rfl (pick_c _ _ _ _ _ _ (by omega) (by omega) (by omega) hm _ hbm) ?_)
  rintro _ _ ⟨r1, rfl, r1a, r1b, rfl⟩
  refine oX (w_eqlI rfl rfl rfl rfl ?_)
  refine wTd [(0, _), (2, _), (5, _)] [_] ⟨rfl, rfl, rfl, trivial⟩ rfl ?_
  refine wCd rfl (fun g1 => ?_) (fun g1 => ?_)
  · try simp only [sQ1, sQ2, sQ3, sQ4, sQ5, sQ6, sQ7, sQ8, ne_eq] at g1
    refine wSR ?_
    refine xMv ?_
    refine oX (wBS (parts := [(0, _), (1, _), (2, _), (3, _), (4, _), (5, _), (6, _)]) [_, _, _, _, _, _, _] rfl rfl Tryz.underlying98 sz9 zo9 rfl rfl rfl rfl rfl (fun b1 => ?_))
    refine oX (w_callN [0, 1] rfl rfl rfl rfl en100 rfl (of_c _ _ _ _ _ _ [[], [65], [116, 111, 111, 108, 111, 110, 103, 49, 50], [97, 45, 98], [101, 105, 103, 104, 116, 56, 56, 56], [48], [97, 110, 121, 111, 110, 101]] (by omega) (by decide) (by decide) hm _ hbm) ?_)
    rintro _ _ _ hle2 ⟨rfl, x2, hx2, rfl, rfl⟩
    refine xAs ?_
    refine wTd [(0, _), (2, _), (5, _)] [_, _] ⟨rfl, rfl, rfl, trivial⟩ rfl ?_
    refine w_ret (thn_r ?_)
    exact end1 .ret (.inl rfl) [_] 0 rfl ⟨rfl, trivial⟩ ⟨rfl, _, rfl, x2, rfl, (show ∀ x ∈ _, x.length ≤ 9 from by decide) _ hx2, rfl⟩
  · try simp only [sQ1, sQ2, sQ3, sQ4, sQ5, sQ6, sQ7, sQ8, ne_eq] at g1
    refine w_skip ?_
    refine thn_n ?_
    refine wSR ?_
    refine xMv ?_
    refine oX (wBS (parts := [(0, _), (1, _), (2, _), (3, _), (4, _), (5, _)]) [_, _, _, _, _, _] rfl rfl Tryz.underlying98 sz9 zo9 rfl rfl rfl rfl rfl (fun b1 => ?_))
    refine oX (w_callN [0, 1] rfl rfl rfl rfl en100 rfl (of_c _ _ _ _ _ _ [[97, 109, 121], [98, 111, 98], [99, 121, 100], [100, 97, 110], [98, 111, 120, 49], [120]] (by omega) (by decide) (by decide) hm _ hbm) ?_)
    rintro _ _ _ hle3 ⟨rfl, x3, hx3, rfl, rfl⟩
    refine xAs ?_
    refine wTd [(0, _), (2, _), (5, _)] [_, _] ⟨rfl, rfl, rfl, trivial⟩ rfl ?_
    refine w_ret ?_
    exact end1 .ret (.inl rfl) [_] 0 rfl ⟨rfl, trivial⟩ ⟨rfl, _, rfl, x3, rfl, (show ∀ x ∈ _, x.length ≤ 9 from by decide) _ hx3, rfl⟩

abbrev VecS (s : Cells) (q : Option Addr) (m cp : Nat) (ls : List (List UInt8)) : Prop := VecL s q m cp 9 1 (ls.map str)
theorem vecS_snoc {s : Cells} {q : Option Addr} {m cp : Nat} {ls : List (List UInt8)} {a : List UInt8} (h : VecL s q m cp 9 1 (ls.map str ++ [str a])) : VecS s q m cp (ls ++ [a]) := by
  unfold VecS
  rw [List.map_append]
  exact h
set_option maxRecDepth 4000 in
set_option maxHeartbeats 400000 in
theorem l1Cut_c (l : List UInt8) (hl : l.length ≤ 2000000) (x0 : UInt8) (B : Kn) : New1 (pj J) 123 [str l, .int .u8 x0.toNat] B (fun v s => ∃ q cp, v = .slice q (cut x0 l).length cp ∧ VecS s q (cut x0 l).length cp (cut x0 l)) := by
  refine cBB 35 Tryz.func123 rfl rfl rfl (Nat.le_of_ble_eq_true rfl) ?_
  refine wSR ?_
  refine xAs ?_
  refine wKp [(0, _), (1, _), (4, _)] ⟨rfl, rfl, rfl, trivial⟩ ?_
  refine wSR ?_
  refine oX (wBS (parts := []) [] rfl rfl Tryz.underlying98 sz9 zo9 rfl rfl rfl rfl rfl (fun b0 => ?_))
  refine xAs ?_
  refine wTd [(0, _), (1, _), (4, _), (5, _)] [_] ⟨rfl, rfl, rfl, rfl, trivial⟩ rfl ?_
  refine wSR ?_
  refine xAs ?_
  refine wKp [(0, _), (1, _), (4, _), (5, _), (6, _)] ⟨rfl, rfl, rfl, rfl, rfl, trivial⟩ ?_
  refine w_seq ?_
  refine wSR ?_
  refine xAs ?_
  refine wKp [(0, _), (1, _), (4, _), (5, _), (6, _), (7, _)] ⟨rfl, rfl, rfl, rfl, rfl, rfl, trivial⟩ ?_
  refine w_block ?_
  refine w_loop (α := CutSt) (fun x => [(0, str l), (1, .int .u8 x0.toNat), (5, .slice x.q x.m x.cp), (6, .int .i64 x.f), (7, .int .i64 x.i)]) (fun x => [x.s]) (fun x Bx => Bx = B ∧ x.f ≤ x.i ∧ x.i ≤ l.length ∧ x.m ≤ x.i ∧ x.m = x.ps.length ∧ VecS x.s x.q x.m x.cp x.ps ∧ cut x0 l = x.ps ++ glue ((l.take x.i).drop x.f) (cut x0 (l.drop x.i))) (fun x => l.length - x.i) ⟨0, 0, 0, [], some ⟨b0, 0, none⟩, 0, box1 b0 [] 9⟩ ⟨rfl, rfl, rfl, rfl, rfl, trivial⟩ rfl (⟨rfl, Nat.le_refl _, Nat.zero_le _, Nat.le_refl _, rfl, VecL.lit rfl, by simp [glue_nil (cut_ne x0 l)]⟩) (fun x B1 hle1 hI => ?_)
  obtain ⟨rfl, hf, hi, hn, hm, hv, hc⟩ := hI
  refine w_seq ?_
  refine wSR ?_
  refine xMv ?_
  refine xMv ?_
  refine oX (w_lenS rfl rfl Tryz.underlying9 rfl ?_)
  refine oX (w_lss rfl rfl rfl rfl ?_)
  refine wKp [(0, _), (1, _), (5, _), (6, _), (7, _), (12, _)] ⟨rfl, rfl, rfl, rfl, rfl, rfl, trivial⟩ ?_
  refine wCd rfl (fun g1 => ?_) (fun g1 => ?_)
  · try simp only [sQ1, sQ2, sQ3, sQ4, sQ5, sQ6, sQ7, sQ8, ne_eq] at g1
    obtain ⟨c, hx⟩ : ∃ c, l[x.i]? = some c := ⟨_, List.getElem?_eq_getElem (by omega)⟩
    refine w_skip ?_
    refine thn_n ?_
    refine w_seq ?_
    refine w_block ?_
    refine wSR ?_
    refine xMv ?_
    refine xMv ?_
    refine oX (w_index rfl rfl Tryz.underlying9 rfl rfl (by omega) hx ?_)
    refine xMv ?_
    refine oX (w_eqlI rfl rfl rfl rfl ?_)
    refine wKp [(0, _), (1, _), (5, _), (6, _), (7, _), (12, _), (19, _)] ⟨rfl, rfl, rfl, rfl, rfl, rfl, rfl, trivial⟩ ?_
    refine wCd rfl (fun g2 => ?_) (fun g2 => ?_)
    · try simp only [sQ1, sQ2, sQ3, sQ4, sQ5, sQ6, sQ7, sQ8, ne_eq] at g2
      refine wSR ?_
      refine xMv ?_
      refine xMv ?_
      refine xMv ?_
      refine xMv ?_
      refine oX (w_sliceS rfl rfl Tryz.underlying9 rfl (a := x.f) (b := x.i) ⟨_, _, rfl, rfl⟩ ⟨_, _, rfl, rfl⟩ (by omega) (by omega) ?_)
      refine oX (wBS (parts := [(0, _)]) [_] rfl rfl Tryz.underlying98 sz9 zo9 rfl rfl rfl rfl rfl (fun b1 => ?_))
      refine oX (w_append 0 rfl (hv) rfl rfl eo98 su98 rfl rfl (SrcAt.box 1 rfl) rfl rfl (by omega) (fun l1 p1 c1 hv1 => ?_))
      refine xAs ?_
      refine wTd [(0, _), (1, _), (5, _), (6, _), (7, _), (12, _), (19, _)] [_, _] ⟨rfl, rfl, rfl, rfl, rfl, rfl, rfl, trivial⟩ rfl ?_
      refine w_sel [0] rfl ?_
      refine w_region ?_
      refine xMv ?_
      refine oX (w_add rfl rfl rfl rfl (by first | exact wrI64 (by omega) (by omega) | rfl) ?_)
      refine xAs ?_
      refine inB_n (thn_n ?_)
      refine w_region ?_
      refine xMv ?_
      refine oX (w_add rfl rfl rfl rfl (by first | exact wrI64 (by omega) (by omega) | rfl) ?_)
      refine xAs ?_
      exact rnd_n ⟨x.i + 1, x.i + 1, x.m + 1, x.ps ++ [(l.take x.i).drop x.f], p1, c1, l1⟩ (by simp only []; omega) ⟨rfl, Nat.le_refl _, by simp only []; omega, by simp only []; omega, by simp [hm], vecS_snoc hv1, by rw [hc, cut_hit hx (u8_eq g2), List.append_assoc]; simp [glue_hit, glue_nil (cut_ne x0 _)]⟩ ⟨rfl, rfl, rfl, rfl, rfl, trivial⟩ rfl
    · try simp only [sQ1, sQ2, sQ3, sQ4, sQ5, sQ6, sQ7, sQ8, ne_eq] at g2
      refine w_skip ?_
      refine inB_n (thn_n ?_)
      refine w_region ?_
      refine xMv ?_
      refine oX (w_add rfl rfl rfl rfl (by first | exact wrI64 (by omega) (by omega) | rfl) ?_)
      refine xAs ?_
      exact rnd_n ⟨x.i + 1, x.f, x.m, x.ps, x.q, x.cp, x.s⟩ (by simp only []; omega) ⟨rfl, by simp only []; omega, by simp only []; omega, by simp only []; omega, hm, hv, by rw [hc, cut_miss hx (u8_ne g2), glue_glue, take_more hx hf]⟩ ⟨rfl, rfl, rfl, rfl, rfl, trivial⟩ rfl
  · try simp only [sQ1, sQ2, sQ3, sQ4, sQ5, sQ6, sQ7, sQ8, ne_eq] at g1
    obtain hie : x.i = l.length := by omega
    rw [hie, List.take_length, List.drop_length] at hc
    refine w_exit (thn_x (rnd_x (inB_hit (thn_n ?_))))
    refine wSR ?_
    refine xMv ?_
    refine xMv ?_
    refine xMv ?_
    refine oX (w_sliceS rfl rfl Tryz.underlying9 rfl (a := x.f) (b := l.length) ⟨_, _, rfl, rfl⟩ rfl (by omega) (by omega) ?_)
    refine oX (wBS (parts := [(0, _)]) [_] rfl rfl Tryz.underlying98 sz9 zo9 rfl rfl rfl rfl rfl (fun b1 => ?_))
    refine oX (w_append 0 rfl (hv) rfl rfl eo98 su98 rfl rfl (SrcAt.box 1 rfl) rfl rfl (by omega) (fun l2 p2 c2 hv2 => ?_))
    refine xAs ?_
    refine wTd [(0, _), (1, _), (4, _), (5, _), (6, _), (7, _), (12, _)] [_, _] ⟨rfl, rfl, rfl, rfl, rfl, rfl, rfl, trivial⟩ rfl ?_
    refine w_ret ?_
    have he : cut x0 l = x.ps ++ [l.drop x.f] := by rw [hc]; simp [cut, glue]
    have hlen : (cut x0 l).length = x.m + 1 := by rw [he]; simp [hm]
    exact endN .ret (.inl rfl) [_] [0] rfl ⟨rfl, trivial⟩ ⟨rfl, _, rfl, p2, c2, by rw [hlen]; rfl, by rw [hlen, he]; rw [List.take_length] at hv2; exact vecS_snoc hv2⟩

set_option maxRecDepth 4000 in
set_option maxHeartbeats 400000 in
theorem specDomain_c (l : List UInt8) (hl : l.length ≤ 2000000) (B : Kn) : RetB (pj J) 64 [str l] B (.bool (specDom l)) := by
  refine cBB 27 Tryz.func64 rfl rfl rfl (Nat.le_of_ble_eq_true rfl) ?_
  refine wSR ?_
  refine xAs ?_
  refine wKp [(0, _), (2, _)] ⟨rfl, rfl, trivial⟩ ?_
  refine wSR ?_
  refine xMv ?_
  refine oX (w_new1 rfl rfl en123 rfl (l1Cut_c _ hl 46 _) ?_)
  rintro _ s ⟨q, cp, rfl, hv⟩
  refine xAs ?_
  refine wTd [(0, _), (2, _), (3, _)] [_] ⟨rfl, rfl, rfl, trivial⟩ rfl ?_
  refine w_seq ?_
  refine wSR ?_
  refine xAs ?_
  refine wKp [(0, _), (2, _), (3, _), (4, _)] ⟨rfl, rfl, rfl, rfl, trivial⟩ ?_
  refine w_block ?_
  refine w_loop (α := Nat) (fun k => [(0, str l), (3, .slice q (cut 46 l).length cp), (4, .int .i64 k)]) (fun k => [s]) (fun k Bx => Bx = B ∧ k ≤ (cut 46 l).length ∧ ((cut 46 l).take k).all nameOk = true) (fun k => (cut 46 l).length - k) 0 ⟨rfl, rfl, rfl, trivial⟩ rfl (⟨rfl, Nat.zero_le _, by simp⟩) (fun k B1 hle1 hI => ?_)
  obtain ⟨rfl, hk, ha⟩ := hI
  have hcc := cut_count 46 l
  refine w_seq ?_
  refine wSR ?_
  refine xMv ?_
  refine xMv ?_
  refine oX (w_lenV rfl rfl Tryz.underlying98 rfl ?_)
  refine oX (w_lss rfl rfl rfl rfl ?_)
  refine wKp [(0, _), (3, _), (4, _), (10, _)] ⟨rfl, rfl, rfl, rfl, trivial⟩ ?_
  refine wCd rfl (fun g1 => ?_) (fun g1 => ?_)
  · try simp only [sQ1, sQ2, sQ3, sQ4, sQ5, sQ6, sQ7, sQ8, ne_eq] at g1
    obtain ⟨y, hy⟩ : ∃ y, (cut 46 l)[k]? = some y := ⟨_, List.getElem?_eq_getElem (by omega)⟩
    have hyl := cut_len 46 l y (List.mem_of_getElem? hy)
    obtain ⟨a, rfl, hsp, hat⟩ := hv.at (B := B1) (L := [s]) (i := k) (v := str y) 0 rfl (by rw [List.getElem?_map, hy]; rfl)
    refine w_skip ?_
    refine thn_n ?_
    refine w_seq ?_
    refine w_block ?_
    refine wSR ?_
    refine xMv ?_
    refine xMv ?_
    refine oX (w_indexAddr rfl rfl Tryz.underlying98 sz9 rfl rfl (by omega) (by omega) ?_)
    refine oX (w_load1 rfl rfl lk9 rfl (atMul1 hat) ?_)
    refine oX (w_retB rfl rfl en124 rfl (specName_c _ (by omega) _) ?_)
    refine oX (w_not rfl rfl rfl ?_)
    refine wKp [(0, _), (3, _), (4, _), (10, _), (18, _)] ⟨rfl, rfl, rfl, rfl, rfl, trivial⟩ ?_
    refine wCd rfl (fun g2 => ?_) (fun g2 => ?_)
    · try simp only [sQ1, sQ2, sQ3, sQ4, sQ5, sQ6, sQ7, sQ8, ne_eq] at g2
      refine wSR ?_
      refine xAs ?_
      refine wKp [(0, _), (2, _), (3, _), (4, _), (10, _), (18, _)] ⟨rfl, rfl, rfl, rfl, rfl, rfl, trivial⟩ ?_
      refine w_ret (inB_r (thn_r (rnd_r (inB_r (thn_r ?_)))))
      exact end0 .ret (.inl rfl) [_] ⟨rfl, trivial⟩ ⟨bool_eq (by simp [specDom, all_stop2 hy g2]), rfl, rfl⟩
    · try simp only [sQ1, sQ2, sQ3, sQ4, sQ5, sQ6, sQ7, sQ8, ne_eq] at g2
      refine w_skip ?_
      refine inB_n (thn_n ?_)
      refine w_region ?_
      refine xMv ?_
      refine oX (w_add rfl rfl rfl rfl (by first | exact wrI64 (by omega) (by omega) | rfl) ?_)
      refine xAs ?_
      exact rnd_n (k + 1) (by omega) ⟨rfl, by omega, all_step2 hy g2 ha⟩ ⟨rfl, rfl, rfl, trivial⟩ rfl
  · try simp only [sQ1, sQ2, sQ3, sQ4, sQ5, sQ6, sQ7, sQ8, ne_eq] at g1
    obtain hke : k = (cut 46 l).length := by omega
    rw [hke, List.take_length] at ha
    refine w_exit (thn_x (rnd_x (inB_hit (thn_n ?_))))
    refine wSR ?_
    refine xMv ?_
    refine oX (w_lenV rfl rfl Tryz.underlying98 rfl ?_)
    refine oX (w_leq rfl rfl rfl rfl ?_)
    refine xMv ?_
    refine r_split (d := 22) rfl (fun g3 => ?_) (fun g3 => ?_)
    · try simp only [sQ1, sQ2, sQ3, sQ4, sQ5, sQ6, sQ7, sQ8, ne_eq] at g3
      refine xMv ?_
      refine oX (w_lenS rfl rfl Tryz.underlying9 rfl ?_)
      refine oX (w_leq rfl rfl rfl rfl ?_)
      refine oX (w_pickT rfl rfl rfl rfl ?_)
      refine xAs ?_
      refine wKp [(0, _), (2, _), (3, _), (4, _), (10, _)] ⟨rfl, rfl, rfl, rfl, rfl, trivial⟩ ?_
      refine w_ret ?_
      exact end0 .ret (.inl rfl) [_] ⟨rfl, trivial⟩ ⟨bool_eq (by rw [Bool.eq_iff_iff]; simp [specDom, ha]; omega), rfl, rfl⟩
    · try simp only [sQ1, sQ2, sQ3, sQ4, sQ5, sQ6, sQ7, sQ8, ne_eq] at g3
      refine oX (w_pass rfl rfl ?_)
      refine oX (w_pass rfl rfl ?_)
      refine oX (w_pass rfl rfl ?_)
      refine oX (w_pickF rfl rfl rfl rfl ?_)
      refine xAs ?_
      refine wKp [(0, _), (2, _), (3, _), (4, _), (10, _)] ⟨rfl, rfl, rfl, rfl, rfl, trivial⟩ ?_
      refine w_ret ?_
      exact end0 .ret (.inl rfl) [_] ⟨rfl, trivial⟩ ⟨bool_eq (by rw [Bool.eq_iff_iff]; simp [specDom, ha]; omega), rfl, rfl⟩

set_option maxRecDepth 4000 in
set_option maxHeartbeats 400000 in
theorem l14Find_c (q : Option Addr) (cp : Nat) (us : List DUser) (u : Str) (B : Kn) (hu : SlK B q cp 3 UserR us) : RetB (pj J) 70 [.slice q us.length cp, str u] B (.int .i64 (idxU us u)) := by
  refine cBB 20 Tryz.func70 rfl rfl rfl (Nat.le_of_ble_eq_true rfl) ?_
  have hun := hu.len
  refine wSR ?_
  refine xAs ?_
  refine wKp [(0, _), (1, _), (4, _)] ⟨rfl, rfl, rfl, trivial⟩ ?_
  refine w_seq ?_
  refine wSR ?_
  refine xAs ?_
  refine wKp [(0, _), (1, _), (4, _), (5, _)] ⟨rfl, rfl, rfl, rfl, trivial⟩ ?_
  refine w_block ?_
  refine w_loopE (α := Nat) [0, 1] (fun k => [(5, .int .i64 k)]) [] (fun k => []) (fun k Bx => Bx = B ∧ k ≤ us.length ∧ ∀ x, x ∈ us.take k → x.name ≠ u) (fun k => us.length - k) 0 ⟨rfl, trivial⟩ rfl (⟨rfl, Nat.zero_le _, by simp⟩) (fun k B1 hle1 hI => ?_)
  obtain ⟨rfl, hk, ha⟩ := hI
  refine wTd [(0, _), (1, _), (5, _)] [] ⟨rfl, rfl, rfl, trivial⟩ rfl ?_
  refine w_seq ?_
  refine wSR ?_
  refine xMv ?_
  refine xMv ?_
  refine oX (w_lenV rfl rfl Tryz.underlying23 rfl ?_)
  refine oX (w_lss rfl rfl rfl rfl ?_)
  refine wKp [(0, _), (1, _), (5, _), (9, _)] ⟨rfl, rfl, rfl, rfl, trivial⟩ ?_
  refine wCd rfl (fun g1 => ?_) (fun g1 => ?_)
  · try simp only [sQ1, sQ2, sQ3, sQ4, sQ5, sQ6, sQ7, sQ8, ne_eq] at g1
    refine w_skip ?_
    refine thn_n ?_
    refine w_seq ?_
    refine w_block ?_
    refine wSR ?_
    refine xMv ?_
    refine xMv ?_
    obtain ⟨x, hx⟩ := getLt (xs := us) (i := k) (by first | omega | (simp; done) | (simp; omega))
    obtain ⟨bb3, oo3, rfl⟩ := hu.base hx
    obtain ⟨_, ⟨rfl, hb4, hb4b⟩, hc4⟩ := hu.elem hx
    refine oX (w_ixB rfl rfl Tryz.underlying23 sz44 rfl rfl (by first | omega | (simp; done) | (simp; omega)) (by first | omega | (simp; done) | (simp; omega)) ?_)
    refine oX (wFA rfl rfl fo44x0 rfl ?_)
    refine oX (w_load1 rfl rfl lk9 rfl (hc4 _ 0 _ rfl) ?_)
    refine xMv ?_
    refine oX (w_eqlS rfl rfl rfl rfl ?_)
    refine wKp [(0, _), (1, _), (5, _), (9, _), (18, _)] ⟨rfl, rfl, rfl, rfl, rfl, trivial⟩ ?_
    refine wCd rfl (fun g2 => ?_) (fun g2 => ?_)
    · try simp only [sQ1, sQ2, sQ3, sQ4, sQ5, sQ6, sQ7, sQ8, ne_eq] at g2
      refine wSR ?_
      refine xMv ?_
      refine xAs ?_
      refine wKp [(0, _), (1, _), (4, _), (5, _), (9, _), (18, _)] ⟨rfl, rfl, rfl, rfl, rfl, rfl, trivial⟩ ?_
      refine w_ret (inB_r (thn_r (rndE_r (inB_r (thn_r ?_)))))
      exact end0 .ret (.inl rfl) [_] ⟨rfl, trivial⟩ ⟨int_eq (idxU_hit hx g2 ha).symm, rfl, rfl⟩
    · try simp only [sQ1, sQ2, sQ3, sQ4, sQ5, sQ6, sQ7, sQ8, ne_eq] at g2
      refine w_skip ?_
      refine inB_n (thn_n ?_)
      refine w_region ?_
      refine xMv ?_
      refine oX (w_add rfl rfl rfl rfl (by first | exact wrI64 (by first | omega | (simp; done) | (simp; omega)) (by first | omega | (simp; done) | (simp; omega)) | rfl) ?_)
      refine xAs ?_
      exact rndE_n (k + 1) [] (by first | omega | (simp only []; omega)) ⟨rfl, by omega, all_next hx ha g2⟩ ⟨rfl, rfl, rfl, trivial⟩ rfl
  · try simp only [sQ1, sQ2, sQ3, sQ4, sQ5, sQ6, sQ7, sQ8, ne_eq] at g1
    refine w_exit (thn_x (rndE_x (inB_hit (thn_n ?_))))
    refine wSR ?_
    refine xAs ?_
    refine wKp [(0, _), (1, _), (4, _), (5, _), (9, _)] ⟨rfl, rfl, rfl, rfl, rfl, trivial⟩ ?_
    refine w_ret ?_
    exact end0 .ret (.inl rfl) [_] ⟨rfl, trivial⟩ ⟨int_eq (idxU_none (take_end (by omega) ha)).symm, rfl, rfl⟩

set_option maxRecDepth 4000 in
set_option maxHeartbeats 400000 in
theorem sameNames_c (q q' : Option Addr) (cp cp' : Nat) (xs ys : List Str) (B : Kn) (ha : SlK B q cp 1 StrR xs) (hb : SlK B q' cp' 1 StrR ys) : RetB (pj J) 105 [.slice q xs.length cp, .slice q' ys.length cp'] B (.bool (decide (xs = ys))) := by
  refine cBB 26 Tryz.func105 rfl rfl rfl (Nat.le_of_ble_eq_true rfl) ?_
  have han := ha.len
  have hbn := hb.len
  refine wSR ?_
  refine xAs ?_
  refine wKp [(0, _), (1, _), (4, _)] ⟨rfl, rfl, rfl, trivial⟩ ?_
  refine w_seq ?_
  refine wSR ?_
  refine xMv ?_
  refine oX (w_lenV rfl rfl Tryz.underlying98 rfl ?_)
  refine xMv ?_
  refine oX (w_lenV rfl rfl Tryz.underlying98 rfl ?_)
  refine oX (w_neqI rfl rfl rfl rfl ?_)
  refine wKp [(0, _), (1, _), (4, _), (10, _)] ⟨rfl, rfl, rfl, rfl, trivial⟩ ?_
  refine wCd rfl (fun g1 => ?_) (fun g1 => ?_)
  · try simp only [sQ1, sQ2, sQ3, sQ4, sQ5, sQ6, sQ7, sQ8, ne_eq] at g1
    refine wSR ?_
    refine xAs ?_
    refine wKp [(0, _), (1, _), (4, _), (10, _)] ⟨rfl, rfl, rfl, rfl, trivial⟩ ?_
    refine w_ret (thn_r ?_)
    exact end0 .ret (.inl rfl) [_] ⟨rfl, trivial⟩ ⟨bool_eq (eqF_len g1), rfl, rfl⟩
  · try simp only [sQ1, sQ2, sQ3, sQ4, sQ5, sQ6, sQ7, sQ8, ne_eq] at g1
    refine w_skip ?_
    refine thn_n ?_
    refine w_seq ?_
    refine wSR ?_
    refine xAs ?_
    refine wKp [(0, _), (1, _), (4, _), (5, _), (10, _)] ⟨rfl, rfl, rfl, rfl, rfl, trivial⟩ ?_
    refine w_block ?_
    refine w_loopE (α := Nat) [0, 1, 10] (fun k => [(5, .int .i64 k)]) [] (fun k => []) (fun k Bx => Bx = B ∧ k ≤ xs.length ∧ xs.take k = ys.take k) (fun k => xs.length - k) 0 ⟨rfl, trivial⟩ rfl (⟨rfl, Nat.zero_le _, by simp⟩) (fun k B1 hle1 hI => ?_)
    obtain ⟨rfl, hk, he⟩ := hI
    refine wTd [(0, _), (1, _), (5, _), (10, _)] [] ⟨rfl, rfl, rfl, rfl, trivial⟩ rfl ?_
    refine w_seq ?_
    refine wSR ?_
    refine xMv ?_
    refine xMv ?_
    refine oX (w_lenV rfl rfl Tryz.underlying98 rfl ?_)
    refine oX (w_lss rfl rfl rfl rfl ?_)
    refine wKp [(0, _), (1, _), (5, _), (10, _), (14, _)] ⟨rfl, rfl, rfl, rfl, rfl, trivial⟩ ?_
    refine wCd rfl (fun g2 => ?_) (fun g2 => ?_)
    · try simp only [sQ1, sQ2, sQ3, sQ4, sQ5, sQ6, sQ7, sQ8, ne_eq] at g2
      refine w_skip ?_
      refine thn_n ?_
      refine w_seq ?_
      refine w_block ?_
      refine w_seq ?_
      refine w_draw (same _ _) mo (by kernel_rfl) ⟨rfl, rfl⟩ (fun _ _ => ?_)
      refine aTP 0 rfl (by kernel_rfl) rfl (fun D B L => w_move rfl rfl rfl ⟨rfl, rfl, rfl, rfl⟩) ?_
      refine aTP 1 rfl (by kernel_rfl) rfl (fun D B L => w_move rfl rfl rfl ⟨rfl, rfl, rfl, rfl⟩) ?_
      obtain ⟨x, hx⟩ := getLt (xs := xs) (i := k) (by first | omega | (simp; done) | (simp; omega))
      obtain ⟨bb3, oo3, rfl⟩ := ha.base hx
      obtain ⟨_, ⟨rfl, hb4⟩, hc4⟩ := ha.elem hx
      refine aTk 2 rfl (by kernel_rfl) rfl (q_of fun D => w_ixB rfl rfl Tryz.underlying98 sz9 rfl rfl (by first | omega | (simp; done) | (simp; omega)) (by first | omega | (simp; done) | (simp; omega)) ⟨rfl, rfl, rfl, rfl⟩) ?_
      refine aTk 3 rfl (by kernel_rfl) rfl (q_of fun D => w_load1 rfl rfl lk9 rfl (hc4 _ 0 _ rfl) ⟨rfl, rfl, rfl, rfl⟩) ?_
      refine aTP 4 rfl (by kernel_rfl) rfl (fun D B L => w_move rfl rfl rfl ⟨rfl, rfl, rfl, rfl⟩) ?_
      refine aTP 5 rfl (by kernel_rfl) rfl (fun D B L => w_move rfl rfl rfl ⟨rfl, rfl, rfl, rfl⟩) ?_
      obtain ⟨y, hy⟩ := getLt (xs := ys) (i := k) (by first | omega | (simp; done) | (simp; omega))
      obtain ⟨bb6, oo6, rfl⟩ := hb.base hy
      obtain ⟨_, ⟨rfl, hb7⟩, hc7⟩ := hb.elem hy
      refine aTk 6 rfl (by kernel_rfl) rfl (q_of fun D => w_ixB rfl rfl Tryz.underlying98 sz9 rfl rfl (by first | omega | (simp; done) | (simp; omega)) (by first | omega | (simp; done) | (simp; omega)) ⟨rfl, rfl, rfl, rfl⟩) ?_
      refine aTk 7 rfl (by kernel_rfl) rfl (q_of fun D => w_load1 rfl rfl lk9 rfl (hc7 _ 0 _ rfl) ⟨rfl, rfl, rfl, rfl⟩) ?_
      refine aTk 8 rfl (by kernel_rfl) rfl (q_of fun D => w_neqS rfl rfl rfl rfl ⟨rfl, rfl, rfl, rfl⟩) ?_
      refine any_done (by kernel_rfl) (by kernel_rfl) ?_
      refine thn_n ?_
      refine wKp [(0, _), (1, _), (5, _), (10, _), (14, _), (25, _)] ⟨rfl, rfl, rfl, rfl, rfl, rfl, trivial⟩ ?_
      refine wCd rfl (fun g3 => ?_) (fun g3 => ?_)
      · try simp only [sQ1, sQ2, sQ3, sQ4, sQ5, sQ6, sQ7, sQ8, ne_eq] at g3
        refine wSR ?_
        refine xAs ?_
        refine wKp [(0, _), (1, _), (4, _), (5, _), (10, _), (14, _), (25, _)] ⟨rfl, rfl, rfl, rfl, rfl, rfl, rfl, trivial⟩ ?_
        refine w_ret (inB_r (thn_r (rndE_r (inB_r (thn_r ?_)))))
        exact end0 .ret (.inl rfl) [_] ⟨rfl, trivial⟩ ⟨bool_eq (eqF_elem hx hy g3), rfl, rfl⟩
      · try simp only [sQ1, sQ2, sQ3, sQ4, sQ5, sQ6, sQ7, sQ8, ne_eq] at g3
        refine w_skip ?_
        refine inB_n (thn_n ?_)
        refine w_region ?_
        refine xMv ?_
        refine oX (w_add rfl rfl rfl rfl (by first | exact wrI64 (by first | omega | (simp; done) | (simp; omega)) (by first | omega | (simp; done) | (simp; omega)) | rfl) ?_)
        refine xAs ?_
        exact rndE_n (k + 1) [] (by first | omega | (simp only []; omega)) ⟨rfl, by omega, take_eq_next hx hy g3 he⟩ ⟨rfl, rfl, rfl, rfl, trivial⟩ rfl
    · try simp only [sQ1, sQ2, sQ3, sQ4, sQ5, sQ6, sQ7, sQ8, ne_eq] at g2
      refine w_exit (thn_x (rndE_x (inB_hit (thn_n ?_))))
      refine wSR ?_
      refine xAs ?_
      refine wKp [(0, _), (1, _), (4, _), (5, _), (10, _), (14, _)] ⟨rfl, rfl, rfl, rfl, rfl, rfl, trivial⟩ ?_
      refine w_ret ?_
      exact end0 .ret (.inl rfl) [_] ⟨rfl, trivial⟩ ⟨bool_eq (eqT (by omega) (by omega) he), rfl, rfl⟩

set_option maxRecDepth 4000 in
set_option maxHeartbeats 400000 in
theorem l21Has_c (q : Option Addr) (cp : Nat) (xs : List Str) (u : Str) (B : Kn) (ha : SlK B q cp 1 StrR xs) : RetB (pj J) 213 [.slice q xs.length cp, str u] B (.bool (decide (u ∈ xs))) := by
  refine cBB 18 Tryz.func213 rfl rfl rfl (Nat.le_of_ble_eq_true rfl) ?_
  have han := ha.len
  refine wSR ?_
  refine xAs ?_
  refine wKp [(0, _), (1, _), (4, _)] ⟨rfl, rfl, rfl, trivial⟩ ?_
  refine w_seq ?_
  refine wSR ?_
  refine xAs ?_
  refine wKp [(0, _), (1, _), (4, _), (5, _)] ⟨rfl, rfl, rfl, rfl, trivial⟩ ?_
  refine w_block ?_
  refine w_loopE (α := Nat) [0, 1] (fun k => [(5, .int .i64 k)]) [] (fun k => []) (fun k Bx => Bx = B ∧ k ≤ xs.length ∧ ∀ x, x ∈ xs.take k → x ≠ u) (fun k => xs.length - k) 0 ⟨rfl, trivial⟩ rfl (⟨rfl, Nat.zero_le _, by simp⟩) (fun k B1 hle1 hI => ?_)
  obtain ⟨rfl, hk, hn⟩ := hI
  refine wTd [(0, _), (1, _), (5, _)] [] ⟨rfl, rfl, rfl, trivial⟩ rfl ?_
  refine w_seq ?_
  refine wSR ?_
  refine xMv ?_
  refine xMv ?_
  refine oX (w_lenV rfl rfl Tryz.underlying98 rfl ?_)
  refine oX (w_lss rfl rfl rfl rfl ?_)
  refine wKp [(0, _), (1, _), (5, _), (9, _)] ⟨rfl, rfl, rfl, rfl, trivial⟩ ?_
  refine wCd rfl (fun g1 => ?_) (fun g1 => ?_)
  · try simp only [sQ1, sQ2, sQ3, sQ4, sQ5, sQ6, sQ7, sQ8, ne_eq] at g1
    refine w_skip ?_
    refine thn_n ?_
    refine w_seq ?_
    refine w_block ?_
    refine wSR ?_
    refine xMv ?_
    refine xMv ?_
    obtain ⟨x, hx⟩ := getLt (xs := xs) (i := k) (by first | omega | (simp; done) | (simp; omega))
    obtain ⟨bb3, oo3, rfl⟩ := ha.base hx
    obtain ⟨_, ⟨rfl, hb4⟩, hc4⟩ := ha.elem hx
    refine oX (w_ixB rfl rfl Tryz.underlying98 sz9 rfl rfl (by first | omega | (simp; done) | (simp; omega)) (by first | omega | (simp; done) | (simp; omega)) ?_)
    refine oX (w_load1 rfl rfl lk9 rfl (hc4 _ 0 _ rfl) ?_)
    refine xMv ?_
    refine oX (w_eqlS rfl rfl rfl rfl ?_)
    refine wKp [(0, _), (1, _), (5, _), (9, _), (17, _)] ⟨rfl, rfl, rfl, rfl, rfl, trivial⟩ ?_
    refine wCd rfl (fun g2 => ?_) (fun g2 => ?_)
    · try simp only [sQ1, sQ2, sQ3, sQ4, sQ5, sQ6, sQ7, sQ8, ne_eq] at g2
      refine wSR ?_
      refine xAs ?_
      refine wKp [(0, _), (1, _), (4, _), (5, _), (9, _), (17, _)] ⟨rfl, rfl, rfl, rfl, rfl, rfl, trivial⟩ ?_
      refine w_ret (inB_r (thn_r (rndE_r (inB_r (thn_r ?_)))))
      exact end0 .ret (.inl rfl) [_] ⟨rfl, trivial⟩ ⟨bool_eq (memT hx g2), rfl, rfl⟩
    · try simp only [sQ1, sQ2, sQ3, sQ4, sQ5, sQ6, sQ7, sQ8, ne_eq] at g2
      refine w_skip ?_
      refine inB_n (thn_n ?_)
      refine w_region ?_
      refine xMv ?_
      refine oX (w_add rfl rfl rfl rfl (by first | exact wrI64 (by first | omega | (simp; done) | (simp; omega)) (by first | omega | (simp; done) | (simp; omega)) | rfl) ?_)
      refine xAs ?_
      exact rndE_n (k + 1) [] (by first | omega | (simp only []; omega)) ⟨rfl, by omega, all_next hx hn g2⟩ ⟨rfl, rfl, rfl, trivial⟩ rfl
  · try simp only [sQ1, sQ2, sQ3, sQ4, sQ5, sQ6, sQ7, sQ8, ne_eq] at g1
    refine w_exit (thn_x (rndE_x (inB_hit (thn_n ?_))))
    refine wSR ?_
    refine xAs ?_
    refine wKp [(0, _), (1, _), (4, _), (5, _), (9, _)] ⟨rfl, rfl, rfl, rfl, rfl, trivial⟩ ?_
    refine w_ret ?_
    exact end0 .ret (.inl rfl) [_] ⟨rfl, trivial⟩ ⟨bool_eq (memF (take_end (by omega) hn)), rfl, rfl⟩

set_option maxRecDepth 4000 in
set_option maxHeartbeats 400000 in
theorem l21Names_c (q : Option Addr) (cp : Nat) (xs : List Str) (B : Kn) (ha : SlK B q cp 1 StrR xs) : RetB (pj J) 180 [.slice q xs.length cp] B (.bool (namesOk xs)) := by
  refine cBB 29 Tryz.func180 rfl rfl rfl (Nat.le_of_ble_eq_true rfl) ?_
  have han := ha.len
  refine wSR ?_
  refine xAs ?_
  refine wKp [(0, _), (2, _)] ⟨rfl, rfl, trivial⟩ ?_
  refine w_seq ?_
  refine wSR ?_
  refine xAs ?_
  refine wKp [(0, _), (2, _), (3, _)] ⟨rfl, rfl, rfl, trivial⟩ ?_
  refine w_block ?_
  refine w_loopE (α := Nat) [0] (fun k => [(3, .int .i64 k)]) [] (fun k => []) (fun k Bx => Bx = B ∧ k ≤ xs.length ∧ (xs.take k).all nameOk = true ∧ (xs.take k).Nodup) (fun k => xs.length - k) 0 ⟨rfl, trivial⟩ rfl (⟨rfl, Nat.zero_le _, by simp, by simp⟩) (fun k B1 hle1 hI => ?_)
  obtain ⟨rfl, hk, hv, hn⟩ := hI
  refine wTd [(0, _), (3, _)] [] ⟨rfl, rfl, trivial⟩ rfl ?_
  refine w_seq ?_
  refine wSR ?_
  refine xMv ?_
  refine xMv ?_
  refine oX (w_lenV rfl rfl Tryz.underlying98 rfl ?_)
  refine oX (w_lss rfl rfl rfl rfl ?_)
  refine wKp [(0, _), (3, _), (7, _)] ⟨rfl, rfl, rfl, trivial⟩ ?_
  refine wCd rfl (fun g1 => ?_) (fun g1 => ?_)
  · try simp only [sQ1, sQ2, sQ3, sQ4, sQ5, sQ6, sQ7, sQ8, ne_eq] at g1
    refine w_skip ?_
    refine thn_n ?_
    refine w_seq ?_
    refine w_block ?_
    refine w_seq ?_
    refine w_draw (same _ _) mo (by kernel_rfl) ⟨rfl, rfl⟩ (fun _ _ => ?_)
    refine aTP 0 rfl (by kernel_rfl) rfl (fun D B L => w_move rfl rfl rfl ⟨rfl, rfl, rfl, rfl⟩) ?_
    refine aTP 1 rfl (by kernel_rfl) rfl (fun D B L => w_move rfl rfl rfl ⟨rfl, rfl, rfl, rfl⟩) ?_
    obtain ⟨x, hx⟩ := getLt (xs := xs) (i := k) (by first | omega | (simp; done) | (simp; omega))
    obtain ⟨bb3, oo3, rfl⟩ := ha.base hx
    obtain ⟨_, ⟨rfl, hb4⟩, hc4⟩ := ha.elem hx
    refine aTk 2 rfl (by kernel_rfl) rfl (q_of fun D => w_ixB rfl rfl Tryz.underlying98 sz9 rfl rfl (by first | omega | (simp; done) | (simp; omega)) (by first | omega | (simp; done) | (simp; omega)) ⟨rfl, rfl, rfl, rfl⟩) ?_
    refine aTk 3 rfl (by kernel_rfl) rfl (q_of fun D => w_load1 rfl rfl lk9 rfl (hc4 _ 0 _ rfl) ⟨rfl, rfl, rfl, rfl⟩) ?_
    refine aTk 4 rfl (by kernel_rfl) rfl (q_of fun D => w_retB rfl rfl en124 rfl (specName_c _ (by first | assumption | omega | (simp; done) | (simp; omega)) _) ⟨rfl, rfl, rfl, rfl⟩) ?_
    refine aTk 5 rfl (by kernel_rfl) rfl (q_of fun D => w_not rfl rfl rfl ⟨rfl, rfl, rfl, rfl⟩) ?_
    refine aTP 6 rfl (by kernel_rfl) rfl (fun D B L => w_move rfl rfl rfl ⟨rfl, rfl, rfl, rfl⟩) ?_
    refine a_split (d := 16) rfl (fun g2 => ?_) (fun g2 => ?_)
    · try simp only [sQ1, sQ2, sQ3, sQ4, sQ5, sQ6, sQ7, sQ8, ne_eq] at g2
      refine aTP 7 rfl (by kernel_rfl) rfl (fun D B L => w_pass rfl rfl ⟨rfl, rfl, rfl, rfl⟩) ?_
      refine aTP 8 rfl (by kernel_rfl) rfl (fun D B L => w_pass rfl rfl ⟨rfl, rfl, rfl, rfl⟩) ?_
      refine aTk 9 rfl (by kernel_rfl) rfl (q_of fun D => w_pass rfl rfl ⟨rfl, rfl, rfl, rfl⟩) ?_
      refine aTP 10 rfl (by kernel_rfl) rfl (fun D B L => w_pass rfl rfl ⟨rfl, rfl, rfl, rfl⟩) ?_
      refine aTP 11 rfl (by kernel_rfl) rfl (fun D B L => w_pass rfl rfl ⟨rfl, rfl, rfl, rfl⟩) ?_
      refine aTk 12 rfl (by kernel_rfl) rfl (q_of fun D => w_pass rfl rfl ⟨rfl, rfl, rfl, rfl⟩) ?_
      refine aTk 13 rfl (by kernel_rfl) rfl (q_of fun D => w_pass rfl rfl ⟨rfl, rfl, rfl, rfl⟩) ?_
      refine aTk 14 rfl (by kernel_rfl) rfl (q_of fun D => w_pass rfl rfl ⟨rfl, rfl, rfl, rfl⟩) ?_
      refine aTk 15 rfl (by kernel_rfl) rfl (q_of fun D => w_pickT rfl rfl rfl rfl ⟨rfl, rfl, rfl, rfl⟩) ?_
      refine any_done (by kernel_rfl) (by kernel_rfl) ?_
      refine thn_n ?_
      refine wKp [(0, _), (3, _), (7, _), (25, _)] ⟨rfl, rfl, rfl, rfl, trivial⟩ ?_
      refine wCd (t := true) rfl (fun _ => ?_) (fun h => Bool.noConfusion h)
      refine wSR ?_
      refine xAs ?_
      refine wKp [(0, _), (2, _), (3, _), (7, _), (25, _)] ⟨rfl, rfl, rfl, rfl, rfl, trivial⟩ ?_
      refine w_ret (inB_r (thn_r (rndE_r (inB_r (thn_r ?_)))))
      exact end0 .ret (.inl rfl) [_] ⟨rfl, trivial⟩ ⟨bool_eq (namesOk_bad1 hx g2), rfl, rfl⟩
    · try simp only [sQ1, sQ2, sQ3, sQ4, sQ5, sQ6, sQ7, sQ8, ne_eq] at g2
      refine aTP 7 rfl (by kernel_rfl) rfl (fun D B L => w_move rfl rfl rfl ⟨rfl, rfl, rfl, rfl⟩) ?_
      refine aTP 8 rfl (by kernel_rfl) rfl (fun D B L => w_move rfl rfl rfl ⟨rfl, rfl, rfl, rfl⟩) ?_
      obtain ⟨hq6, q6, cp6, hv6, hr6⟩ := ha.cutE 0 k (by first | omega | (simp; done) | (simp; omega)) (by first | omega | (simp; done) | (simp; omega))
      have hr6n := hr6.len
      refine aTk 9 rfl (by kernel_rfl) rfl (q_of fun D => w_cutV (a := 0) (b := k) hv6 (by first | omega | (simp; done) | (simp; omega)) hq6 rfl rfl Tryz.underlying98 sz9 rfl rfl ⟨_, _, rfl, by first | omega | (simp; done) | (simp; omega)⟩ ⟨rfl, rfl, rfl, rfl⟩) ?_
      refine aTP 10 rfl (by kernel_rfl) rfl (fun D B L => w_move rfl rfl rfl ⟨rfl, rfl, rfl, rfl⟩) ?_
      refine aTP 11 rfl (by kernel_rfl) rfl (fun D B L => w_move rfl rfl rfl ⟨rfl, rfl, rfl, rfl⟩) ?_
      refine aTk 12 rfl (by kernel_rfl) rfl (q_of fun D => w_ixB rfl rfl Tryz.underlying98 sz9 rfl rfl (by first | omega | (simp; done) | (simp; omega)) (by first | omega | (simp; done) | (simp; omega)) ⟨rfl, rfl, rfl, rfl⟩) ?_
      refine aTk 13 rfl (by kernel_rfl) rfl (q_of fun D => w_load1 rfl rfl lk9 rfl (hc4 _ 0 _ rfl) ⟨rfl, rfl, rfl, rfl⟩) ?_
      refine aTk 14 rfl (by kernel_rfl) rfl (q_of fun D => w_retB rfl rfl en213 rfl (l21Has_c _ _ _ _ _ hr6) ⟨rfl, rfl, rfl, rfl⟩) ?_
      refine aTk 15 rfl (by kernel_rfl) rfl (q_of fun D => w_pickF rfl rfl rfl rfl ⟨rfl, rfl, rfl, rfl⟩) ?_
      refine any_done (by kernel_rfl) (by kernel_rfl) ?_
      refine thn_n ?_
      refine wKp [(0, _), (3, _), (7, _), (25, _)] ⟨rfl, rfl, rfl, rfl, trivial⟩ ?_
      refine wCd rfl (fun g3 => ?_) (fun g3 => ?_)
      · try simp only [sQ1, sQ2, sQ3, sQ4, sQ5, sQ6, sQ7, sQ8, ne_eq] at g3
        refine wSR ?_
        refine xAs ?_
        refine wKp [(0, _), (2, _), (3, _), (7, _), (25, _)] ⟨rfl, rfl, rfl, rfl, rfl, trivial⟩ ?_
        refine w_ret (inB_r (thn_r (rndE_r (inB_r (thn_r ?_)))))
        exact end0 .ret (.inl rfl) [_] ⟨rfl, trivial⟩ ⟨bool_eq (namesOk_bad2 hx (by simpa using g3)), rfl, rfl⟩
      · try simp only [sQ1, sQ2, sQ3, sQ4, sQ5, sQ6, sQ7, sQ8, ne_eq] at g3
        refine w_skip ?_
        refine inB_n (thn_n ?_)
        refine w_region ?_
        refine xMv ?_
        refine oX (w_add rfl rfl rfl rfl (by first | exact wrI64 (by first | omega | (simp; done) | (simp; omega)) (by first | omega | (simp; done) | (simp; omega)) | rfl) ?_)
        refine xAs ?_
        exact rndE_n (k + 1) [] (by first | omega | (simp only []; omega)) ⟨rfl, by omega, all_step2 hx g2 hv, nd_next hx hn (by simpa using g3)⟩ ⟨rfl, rfl, trivial⟩ rfl
  · try simp only [sQ1, sQ2, sQ3, sQ4, sQ5, sQ6, sQ7, sQ8, ne_eq] at g1
    refine w_exit (thn_x (rndE_x (inB_hit (thn_n ?_))))
    refine wSR ?_
    refine xMv ?_
    refine oX (w_lenV rfl rfl Tryz.underlying98 rfl ?_)
    refine oX (w_leq rfl rfl rfl rfl ?_)
    refine xAs ?_
    refine wKp [(0, _), (2, _), (3, _), (7, _)] ⟨rfl, rfl, rfl, rfl, trivial⟩ ?_
    refine w_ret ?_
    exact end0 .ret (.inl rfl) [_] ⟨rfl, trivial⟩ ⟨bool_eq (namesOk_end (by omega) hv hn), rfl, rfl⟩

set_option maxRecDepth 4000 in
set_option maxHeartbeats 400000 in
theorem specLetter_c (q : Option Addr) (cp : Nat) (x : DLetter) (B : Kn) (ha : SlK B q cp 1 StrR x.to_) (h1 : x.fr.length ≤ 2000000) (h2 : x.text.length ≤ 2000000) : RetB (pj J) 126 [.agg #[str x.fr, .slice q x.to_.length cp, str x.text]] B (.bool (letterOk x)) := by
  refine cBB 23 Tryz.func126 rfl rfl rfl (Nat.le_of_ble_eq_true rfl) ?_
  refine wSR ?_
  refine oX (w_box (l := [_, _, _]) rfl rfl rfl rfl (fun b1 => ?_))
  refine xAs ?_
  refine wTd [(0, _), (1, _), (2, _)] [_] ⟨rfl, rfl, rfl, trivial⟩ rfl ?_
  refine wSR ?_
  refine oX (wFA rfl rfl fo138x0 rfl ?_)
  refine oX (w_load1 rfl rfl lk9 rfl (atL 0 rfl rfl rfl) ?_)
  refine oX (w_retB rfl rfl en124 rfl (specName_c _ (by first | assumption | omega | (simp; done) | (simp; omega)) _) ?_)
  refine xMv ?_
  refine r_split (d := 6) rfl (fun g1 => ?_) (fun g1 => ?_)
  · try simp only [sQ1, sQ2, sQ3, sQ4, sQ5, sQ6, sQ7, sQ8, ne_eq] at g1
    refine oX (wFA rfl rfl fo138x1 rfl ?_)
    refine oX (w_load1 rfl rfl lk98 rfl (atL 0 rfl rfl rfl) ?_)
    refine oX (w_retB rfl rfl en180 rfl (l21Names_c _ _ _ _ ha) ?_)
    refine oX (w_pickT rfl rfl rfl rfl ?_)
    refine xMv ?_
    refine r_split (d := 11) rfl (fun g2 => ?_) (fun g2 => ?_)
    · try simp only [sQ1, sQ2, sQ3, sQ4, sQ5, sQ6, sQ7, sQ8, ne_eq] at g2
      refine oX (wFA rfl rfl fo138x1 rfl ?_)
      refine oX (w_load1 rfl rfl lk98 rfl (atL 0 rfl rfl rfl) ?_)
      refine oX (w_lenV rfl rfl Tryz.underlying98 rfl ?_)
      refine oX (w_gtr rfl rfl rfl rfl ?_)
      refine oX (w_pickT rfl rfl rfl rfl ?_)
      refine xMv ?_
      refine r_split (d := 17) rfl (fun g3 => ?_) (fun g3 => ?_)
      · try simp only [sQ1, sQ2, sQ3, sQ4, sQ5, sQ6, sQ7, sQ8, ne_eq] at g3
        refine oX (wFA rfl rfl fo138x2 rfl ?_)
        refine oX (w_load1 rfl rfl lk9 rfl (atL 0 rfl rfl rfl) ?_)
        refine oX (w_lenS rfl rfl Tryz.underlying9 rfl ?_)
        refine oX (w_leq rfl rfl rfl rfl ?_)
        refine oX (w_pickT rfl rfl rfl rfl ?_)
        refine xAs ?_
        refine wKp [(0, _), (1, _), (2, _)] ⟨rfl, rfl, rfl, trivial⟩ ?_
        refine w_ret ?_
        exact end0 .ret (.inl rfl) [_] ⟨rfl, trivial⟩ ⟨bool_eq (by rw [Bool.eq_iff_iff]; simp [letterOk, g1, g2, g3]; try omega), rfl, rfl⟩
      · try simp only [sQ1, sQ2, sQ3, sQ4, sQ5, sQ6, sQ7, sQ8, ne_eq] at g3
        refine oX (w_pass rfl rfl ?_)
        refine oX (w_pass rfl rfl ?_)
        refine oX (w_pass rfl rfl ?_)
        refine oX (w_pass rfl rfl ?_)
        refine oX (w_pickF rfl rfl rfl rfl ?_)
        refine xAs ?_
        refine wKp [(0, _), (1, _), (2, _)] ⟨rfl, rfl, rfl, trivial⟩ ?_
        refine w_ret ?_
        exact end0 .ret (.inl rfl) [_] ⟨rfl, trivial⟩ ⟨bool_eq (by rw [Bool.eq_iff_iff]; simp [letterOk, g1, g2, g3]; try omega), rfl, rfl⟩
    · try simp only [sQ1, sQ2, sQ3, sQ4, sQ5, sQ6, sQ7, sQ8, ne_eq] at g2
      refine oX (w_pass rfl rfl ?_)
      refine oX (w_pass rfl rfl ?_)
      refine oX (w_pass rfl rfl ?_)
      refine oX (w_pass rfl rfl ?_)
      refine oX (w_pickF rfl rfl rfl rfl ?_)
      refine xMv ?_
      refine oX (w_pass rfl rfl ?_)
      refine oX (w_pass rfl rfl ?_)
      refine oX (w_pass rfl rfl ?_)
      refine oX (w_pass rfl rfl ?_)
      refine oX (w_pickF rfl rfl rfl rfl ?_)
      refine xAs ?_
      refine wKp [(0, _), (1, _), (2, _)] ⟨rfl, rfl, rfl, trivial⟩ ?_
      refine w_ret ?_
      exact end0 .ret (.inl rfl) [_] ⟨rfl, trivial⟩ ⟨bool_eq (by rw [Bool.eq_iff_iff]; simp [letterOk, g1, g2]; try omega), rfl, rfl⟩
  · try simp only [sQ1, sQ2, sQ3, sQ4, sQ5, sQ6, sQ7, sQ8, ne_eq] at g1
    refine oX (w_pass rfl rfl ?_)
    refine oX (w_pass rfl rfl ?_)
    refine oX (w_pass rfl rfl ?_)
    refine oX (w_pickF rfl rfl rfl rfl ?_)
    refine xMv ?_
    refine oX (w_pass rfl rfl ?_)
    refine oX (w_pass rfl rfl ?_)
    refine oX (w_pass rfl rfl ?_)
    refine oX (w_pass rfl rfl ?_)
    refine oX (w_pickF rfl rfl rfl rfl ?_)
    refine xMv ?_
    refine oX (w_pass rfl rfl ?_)
    refine oX (w_pass rfl rfl ?_)
    refine oX (w_pass rfl rfl ?_)
    refine oX (w_pass rfl rfl ?_)
    refine oX (w_pickF rfl rfl rfl rfl ?_)
    refine xAs ?_
    refine wKp [(0, _), (1, _), (2, _)] ⟨rfl, rfl, rfl, trivial⟩ ?_
    refine w_ret ?_
    exact end0 .ret (.inl rfl) [_] ⟨rfl, trivial⟩ ⟨bool_eq (by rw [Bool.eq_iff_iff]; simp [letterOk, g1]; try omega), rfl, rfl⟩

set_option maxRecDepth 4000 in
set_option maxHeartbeats 400000 in
theorem index_c (q : Option Addr) (cp : Nat) (xs : List Str) (v : Str) (B : Kn) (ha : SlK B q cp 1 StrR xs) : RetB (pj J) 226 [.slice q xs.length cp, str v] B (.int .i64 (idxS xs v)) := by
  refine cBB 19 Tryz.func226 rfl rfl rfl (Nat.le_of_ble_eq_true rfl) ?_
  have han := ha.len
  refine wSR ?_
  refine xAs ?_
  refine wKp [(0, _), (1, _), (4, _)] ⟨rfl, rfl, rfl, trivial⟩ ?_
  refine w_seq ?_
  refine wSR ?_
  refine xMv ?_
  refine oX (w_lenV rfl rfl Tryz.underlying98 rfl ?_)
  refine xMv ?_
  refine wKp [(0, _), (1, _), (4, _), (7, _), (8, _)] ⟨rfl, rfl, rfl, rfl, rfl, trivial⟩ ?_
  refine w_block ?_
  refine w_loopE (α := Nat) [0, 1, 7] (fun k => [(8, .int .i64 k)]) [] (fun k => []) (fun k Bx => Bx = B ∧ k ≤ xs.length ∧ ∀ x, x ∈ xs.take k → decide (x = v) = false) (fun k => xs.length - k) 0 ⟨rfl, trivial⟩ rfl (⟨rfl, Nat.zero_le _, by simp⟩) (fun k B1 hle1 hI => ?_)
  obtain ⟨rfl, hk, hn⟩ := hI
  refine wTd [(0, _), (1, _), (7, _), (8, _)] [] ⟨rfl, rfl, rfl, rfl, trivial⟩ rfl ?_
  refine wSR ?_
  refine oX (w_lss rfl rfl rfl rfl ?_)
  refine wKp [(0, _), (1, _), (7, _), (8, _), (9, _)] ⟨rfl, rfl, rfl, rfl, rfl, trivial⟩ ?_
  refine w_seq ?_
  refine wCd rfl (fun g1 => ?_) (fun g1 => ?_)
  · try simp only [sQ1, sQ2, sQ3, sQ4, sQ5, sQ6, sQ7, sQ8, ne_eq] at g1
    refine w_skip ?_
    refine thn_n ?_
    refine w_seq ?_
    refine w_block ?_
    refine wSR ?_
    refine xMv ?_
    refine xAs ?_
    refine wKp [(0, _), (1, _), (5, _), (7, _), (8, _), (9, _)] ⟨rfl, rfl, rfl, rfl, rfl, rfl, trivial⟩ ?_
    refine wSR ?_
    refine xMv ?_
    refine xMv ?_
    refine xMv ?_
    obtain ⟨x, hx⟩ := getLt (xs := xs) (i := k) (by first | omega | (simp; done) | (simp; omega))
    obtain ⟨bb3, oo3, rfl⟩ := ha.base hx
    obtain ⟨_, ⟨rfl, hb4⟩, hc4⟩ := ha.elem hx
    refine oX (w_ixB rfl rfl Tryz.underlying98 sz9 rfl rfl (by first | omega | (simp; done) | (simp; omega)) (by first | omega | (simp; done) | (simp; omega)) ?_)
    refine oX (w_load1 rfl rfl lk9 rfl (hc4 _ 0 _ rfl) ?_)
    refine oX (w_eqlS rfl rfl rfl rfl ?_)
    refine wKp [(0, _), (1, _), (5, _), (7, _), (8, _), (9, _), (16, _)] ⟨rfl, rfl, rfl, rfl, rfl, rfl, rfl, trivial⟩ ?_
    refine wCd rfl (fun g2 => ?_) (fun g2 => ?_)
    · try simp only [sQ1, sQ2, sQ3, sQ4, sQ5, sQ6, sQ7, sQ8, ne_eq] at g2
      refine wSR ?_
      refine xMv ?_
      refine xAs ?_
      refine wKp [(0, _), (1, _), (4, _), (5, _), (7, _), (8, _), (9, _), (16, _)] ⟨rfl, rfl, rfl, rfl, rfl, rfl, rfl, rfl, trivial⟩ ?_
      refine w_ret (inB_r (thn_r (rndE_r (inB_r (thn_r ?_)))))
      exact end0 .ret (.inl rfl) [_] ⟨rfl, trivial⟩ ⟨int_eq (idxP_hit hx (by simp [g2]) hn).symm, rfl, rfl⟩
    · try simp only [sQ1, sQ2, sQ3, sQ4, sQ5, sQ6, sQ7, sQ8, ne_eq] at g2
      refine w_skip ?_
      refine inB_n (thn_n ?_)
      refine w_region ?_
      refine oX (w_add rfl rfl rfl rfl (by first | exact wrI64 (by first | omega | (simp; done) | (simp; omega)) (by first | omega | (simp; done) | (simp; omega)) | rfl) ?_)
      refine xMv ?_
      exact rndE_n (k + 1) [] (by first | omega | (simp only []; omega)) ⟨rfl, by omega, all_next hx hn (by simp [Ne.symm g2])⟩ ⟨rfl, rfl, rfl, rfl, trivial⟩ rfl
  · try simp only [sQ1, sQ2, sQ3, sQ4, sQ5, sQ6, sQ7, sQ8, ne_eq] at g1
    refine w_exit (thn_x (rndE_x (inB_hit (thn_n ?_))))
    refine wSR ?_
    refine xAs ?_
    refine wKp [(0, _), (1, _), (4, _), (7, _), (8, _), (9, _)] ⟨rfl, rfl, rfl, rfl, rfl, rfl, trivial⟩ ?_
    refine w_ret ?_
    exact end0 .ret (.inl rfl) [_] ⟨rfl, trivial⟩ ⟨int_eq (idxP_none (take_end (by omega) hn)).symm, rfl, rfl⟩

set_option maxRecDepth 4000 in
set_option maxHeartbeats 400000 in
theorem contains_c (q : Option Addr) (cp : Nat) (xs : List Str) (v : Str) (B : Kn) (ha : SlK B q cp 1 StrR xs) : RetB (pj J) 200 [.slice q xs.length cp, str v] B (.bool (decide (v ∈ xs))) := by
  refine cBB 9 Tryz.func200 rfl rfl rfl (Nat.le_of_ble_eq_true rfl) ?_
  refine wSR ?_
  refine xAs ?_
  refine wKp [(0, _), (1, _), (4, _)] ⟨rfl, rfl, rfl, trivial⟩ ?_
  refine wSR ?_
  refine xMv ?_
  refine xMv ?_
  refine oX (w_retB rfl rfl en226 rfl (index_c _ _ _ _ _ ha) ?_)
  refine oX (w_geq rfl rfl rfl rfl ?_)
  refine xAs ?_
  refine wKp [(0, _), (1, _), (4, _)] ⟨rfl, rfl, rfl, trivial⟩ ?_
  refine w_ret ?_
  exact end0 .ret (.inl rfl) [_] ⟨rfl, trivial⟩ ⟨bool_eq (by rw [Bool.eq_iff_iff]; simp [idxS_mem]), rfl, rfl⟩

set_option maxRecDepth 4000 in
set_option maxHeartbeats 400000 in
theorem receivers_c (q : Option Addr) (cp : Nat) (xs : List Str) (B : Kn) (ha : SlK B q cp 1 StrR xs) : RetB (pj J) 153 [.slice q xs.length cp] B (.bool (decide (1 ≤ xs.length) && namesOk xs)) := by
  refine cBB 31 Tryz.func153 rfl rfl rfl (Nat.le_of_ble_eq_true rfl) ?_
  have han := ha.len
  refine wSR ?_
  refine xAs ?_
  refine wKp [(0, _), (2, _)] ⟨rfl, rfl, trivial⟩ ?_
  refine w_seq ?_
  refine wSR ?_
  refine xMv ?_
  refine oX (w_lenV rfl rfl Tryz.underlying98 rfl ?_)
  refine oX (w_lss rfl rfl rfl rfl ?_)
  refine xMv ?_
  refine r_split (d := 8) rfl (fun g1 => ?_) (fun g1 => ?_)
  · try simp only [sQ1, sQ2, sQ3, sQ4, sQ5, sQ6, sQ7, sQ8, ne_eq] at g1
    refine oX (w_pass rfl rfl ?_)
    refine oX (w_pass rfl rfl ?_)
    refine oX (w_pass rfl rfl ?_)
    refine oX (w_pickT rfl rfl rfl rfl ?_)
    refine wKp [(0, _), (2, _), (12, _)] ⟨rfl, rfl, rfl, trivial⟩ ?_
    refine wCd (t := true) rfl (fun _ => ?_) (fun h => Bool.noConfusion h)
    refine wSR ?_
    refine xAs ?_
    refine wKp [(0, _), (2, _), (12, _)] ⟨rfl, rfl, rfl, trivial⟩ ?_
    refine w_ret (thn_r ?_)
    exact end0 .ret (.inl rfl) [_] ⟨rfl, trivial⟩ ⟨bool_eq (by simp; omega), rfl, rfl⟩
  · try simp only [sQ1, sQ2, sQ3, sQ4, sQ5, sQ6, sQ7, sQ8, ne_eq] at g1
    refine xMv ?_
    refine oX (w_lenV rfl rfl Tryz.underlying98 rfl ?_)
    refine oX (w_gtr rfl rfl rfl rfl ?_)
    refine oX (w_pickF rfl rfl rfl rfl ?_)
    refine wKp [(0, _), (2, _), (12, _)] ⟨rfl, rfl, rfl, trivial⟩ ?_
    refine wCd rfl (fun g2 => ?_) (fun g2 => ?_)
    · try simp only [sQ1, sQ2, sQ3, sQ4, sQ5, sQ6, sQ7, sQ8, ne_eq] at g2
      refine wSR ?_
      refine xAs ?_
      refine wKp [(0, _), (2, _), (12, _)] ⟨rfl, rfl, rfl, trivial⟩ ?_
      refine w_ret (thn_r ?_)
      exact end0 .ret (.inl rfl) [_] ⟨rfl, trivial⟩ ⟨bool_eq (by simp [namesOk]; omega), rfl, rfl⟩
    · try simp only [sQ1, sQ2, sQ3, sQ4, sQ5, sQ6, sQ7, sQ8, ne_eq] at g2
      refine w_skip ?_
      refine thn_n ?_
      refine w_seq ?_
      refine wSR ?_
      refine xMv ?_
      refine oX (w_lenV rfl rfl Tryz.underlying98 rfl ?_)
      refine xMv ?_
      refine wKp [(0, _), (2, _), (12, _), (13, _), (14, _), (15, _)] ⟨rfl, rfl, rfl, rfl, rfl, rfl, trivial⟩ ?_
      refine w_block ?_
      refine w_loopE (α := Nat) [0, 12, 13, 14] (fun k => [(15, .int .i64 k)]) [] (fun k => []) (fun k Bx => Bx = B ∧ k ≤ xs.length ∧ (xs.take k).all nameOk = true ∧ (xs.take k).Nodup) (fun k => xs.length - k) 0 ⟨rfl, trivial⟩ rfl (⟨rfl, Nat.zero_le _, by simp, by simp⟩) (fun k B1 hle1 hI => ?_)
      obtain ⟨rfl, hk, hv, hn⟩ := hI
      refine wTd [(0, _), (12, _), (13, _), (14, _), (15, _)] [] ⟨rfl, rfl, rfl, rfl, rfl, trivial⟩ rfl ?_
      refine wSR ?_
      refine oX (w_lss rfl rfl rfl rfl ?_)
      refine wKp [(0, _), (12, _), (13, _), (14, _), (15, _), (16, _)] ⟨rfl, rfl, rfl, rfl, rfl, rfl, trivial⟩ ?_
      refine w_seq ?_
      refine wCd rfl (fun g3 => ?_) (fun g3 => ?_)
      · try simp only [sQ1, sQ2, sQ3, sQ4, sQ5, sQ6, sQ7, sQ8, ne_eq] at g3
        refine w_skip ?_
        refine thn_n ?_
        refine w_seq ?_
        refine w_block ?_
        refine wSR ?_
        refine xMv ?_
        obtain ⟨x, hx⟩ := getLt (xs := xs) (i := k) (by first | omega | (simp; done) | (simp; omega))
        obtain ⟨bb3, oo3, rfl⟩ := ha.base hx
        obtain ⟨_, ⟨rfl, hb4⟩, hc4⟩ := ha.elem hx
        refine oX (w_ixB rfl rfl Tryz.underlying98 sz9 rfl rfl (by first | omega | (simp; done) | (simp; omega)) (by first | omega | (simp; done) | (simp; omega)) ?_)
        refine oX (w_load1 rfl rfl lk9 rfl (hc4 _ 0 _ rfl) ?_)
        refine xAs ?_
        refine xAs ?_
        refine wKp [(0, _), (3, _), (4, _), (12, _), (13, _), (14, _), (15, _), (16, _)] ⟨rfl, rfl, rfl, rfl, rfl, rfl, rfl, rfl, trivial⟩ ?_
        refine wSR ?_
        refine xMv ?_
        refine oX (w_retB rfl rfl en115 rfl (implName_c _ (by first | assumption | omega | (simp; done) | (simp; omega)) _) ?_)
        refine oX (w_not rfl rfl rfl ?_)
        refine xMv ?_
        refine r_split (d := 23) rfl (fun g4 => ?_) (fun g4 => ?_)
        · try simp only [sQ1, sQ2, sQ3, sQ4, sQ5, sQ6, sQ7, sQ8, ne_eq] at g4
          refine oX (w_pass rfl rfl ?_)
          refine oX (w_pass rfl rfl ?_)
          refine oX (w_pass rfl rfl ?_)
          refine oX (w_pass rfl rfl ?_)
          refine oX (w_pass rfl rfl ?_)
          refine oX (w_pickT rfl rfl rfl rfl ?_)
          refine wKp [(0, _), (3, _), (4, _), (12, _), (13, _), (14, _), (15, _), (16, _), (29, _)] ⟨rfl, rfl, rfl, rfl, rfl, rfl, rfl, rfl, rfl, trivial⟩ ?_
          refine wCd (t := true) rfl (fun _ => ?_) (fun h => Bool.noConfusion h)
          refine wSR ?_
          refine xAs ?_
          refine wKp [(0, _), (2, _), (3, _), (4, _), (12, _), (13, _), (14, _), (15, _), (16, _), (29, _)] ⟨rfl, rfl, rfl, rfl, rfl, rfl, rfl, rfl, rfl, rfl, trivial⟩ ?_
          refine w_ret (inB_r (thn_r (rndE_r (inB_r (thn_r ?_)))))
          exact end0 .ret (.inl rfl) [_] ⟨rfl, trivial⟩ ⟨bool_eq (by rw [← namesOk_bad1 hx g4, Bool.and_false]), rfl, rfl⟩
        · try simp only [sQ1, sQ2, sQ3, sQ4, sQ5, sQ6, sQ7, sQ8, ne_eq] at g4
          refine xMv ?_
          refine xMv ?_
          obtain ⟨hq6, q6, cp6, hv6, hr6⟩ := ha.cutE 0 k (by first | omega | (simp; done) | (simp; omega)) (by first | omega | (simp; done) | (simp; omega))
          have hr6n := hr6.len
          refine oX (w_cutV (a := 0) (b := k) hv6 (by first | omega | (simp; done) | (simp; omega)) hq6 rfl rfl Tryz.underlying98 sz9 rfl rfl ⟨_, _, rfl, by first | omega | (simp; done) | (simp; omega)⟩ ?_)
          refine xMv ?_
          refine oX (w_retB rfl rfl en200 rfl (contains_c _ _ _ _ _ hr6) ?_)
          refine oX (w_pickF rfl rfl rfl rfl ?_)
          refine wKp [(0, _), (3, _), (4, _), (12, _), (13, _), (14, _), (15, _), (16, _), (29, _)] ⟨rfl, rfl, rfl, rfl, rfl, rfl, rfl, rfl, rfl, trivial⟩ ?_
          refine wCd rfl (fun g5 => ?_) (fun g5 => ?_)
          · try simp only [sQ1, sQ2, sQ3, sQ4, sQ5, sQ6, sQ7, sQ8, ne_eq] at g5
            refine wSR ?_
            refine xAs ?_
            refine wKp [(0, _), (2, _), (3, _), (4, _), (12, _), (13, _), (14, _), (15, _), (16, _), (29, _)] ⟨rfl, rfl, rfl, rfl, rfl, rfl, rfl, rfl, rfl, rfl, trivial⟩ ?_
            refine w_ret (inB_r (thn_r (rndE_r (inB_r (thn_r ?_)))))
            exact end0 .ret (.inl rfl) [_] ⟨rfl, trivial⟩ ⟨bool_eq (by rw [← namesOk_bad2 hx (by simpa using g5), Bool.and_false]), rfl, rfl⟩
          · try simp only [sQ1, sQ2, sQ3, sQ4, sQ5, sQ6, sQ7, sQ8, ne_eq] at g5
            refine w_skip ?_
            refine inB_n (thn_n ?_)
            refine w_region ?_
            refine oX (w_add rfl rfl rfl rfl (by first | exact wrI64 (by first | omega | (simp; done) | (simp; omega)) (by first | omega | (simp; done) | (simp; omega)) | rfl) ?_)
            refine xMv ?_
            exact rndE_n (k + 1) [] (by first | omega | (simp only []; omega)) ⟨rfl, by omega, all_step2 hx g4 hv, nd_next hx hn (by simpa using g5)⟩ ⟨rfl, rfl, rfl, rfl, rfl, trivial⟩ rfl
      · try simp only [sQ1, sQ2, sQ3, sQ4, sQ5, sQ6, sQ7, sQ8, ne_eq] at g3
        refine w_exit (thn_x (rndE_x (inB_hit (thn_n ?_))))
        refine wSR ?_
        refine xAs ?_
        refine wKp [(0, _), (2, _), (12, _), (13, _), (14, _), (15, _), (16, _)] ⟨rfl, rfl, rfl, rfl, rfl, rfl, rfl, trivial⟩ ?_
        refine w_ret ?_
        exact end0 .ret (.inl rfl) [_] ⟨rfl, trivial⟩ ⟨bool_eq (by rw [← namesOk_end (by omega) hv hn]; simp; omega), rfl, rfl⟩

set_option maxRecDepth 4000 in
set_option maxHeartbeats 400000 in
theorem implLetter_c (q : Option Addr) (cp : Nat) (x : DLetter) (B : Kn) (ha : SlK B q cp 1 StrR x.to_) (h1 : x.fr.length ≤ 2000000) (h2 : x.text.length ≤ 2000000) : RetB (pj J) 109 [.agg #[str x.fr, .slice q x.to_.length cp, str x.text]] B (.bool (letterOk x)) := by
  refine cBB 17 Tryz.func109 rfl rfl rfl (Nat.le_of_ble_eq_true rfl) ?_
  refine wSR ?_
  refine oX (w_box (l := [_, _, _]) rfl rfl rfl rfl (fun b1 => ?_))
  refine xAs ?_
  refine wTd [(0, _), (1, _), (2, _)] [_] ⟨rfl, rfl, rfl, trivial⟩ rfl ?_
  refine wSR ?_
  refine oX (wFA rfl rfl fo138x0 rfl ?_)
  refine oX (w_load1 rfl rfl lk9 rfl (atL 0 rfl rfl rfl) ?_)
  refine oX (w_retB rfl rfl en115 rfl (implName_c _ (by first | assumption | omega | (simp; done) | (simp; omega)) _) ?_)
  refine xMv ?_
  refine r_split (d := 6) rfl (fun g1 => ?_) (fun g1 => ?_)
  · try simp only [sQ1, sQ2, sQ3, sQ4, sQ5, sQ6, sQ7, sQ8, ne_eq] at g1
    refine oX (wFA rfl rfl fo138x1 rfl ?_)
    refine oX (w_load1 rfl rfl lk98 rfl (atL 0 rfl rfl rfl) ?_)
    refine oX (w_retB rfl rfl en153 rfl (receivers_c _ _ _ _ ha) ?_)
    refine oX (w_pickT rfl rfl rfl rfl ?_)
    refine xMv ?_
    refine r_split (d := 11) rfl (fun g2 => ?_) (fun g2 => ?_)
    · try simp only [sQ1, sQ2, sQ3, sQ4, sQ5, sQ6, sQ7, sQ8, ne_eq] at g2
      refine oX (wFA rfl rfl fo138x2 rfl ?_)
      refine oX (w_load1 rfl rfl lk9 rfl (atL 0 rfl rfl rfl) ?_)
      refine oX (w_lenS rfl rfl Tryz.underlying9 rfl ?_)
      refine oX (w_leq rfl rfl rfl rfl ?_)
      refine oX (w_pickT rfl rfl rfl rfl ?_)
      refine xAs ?_
      refine wKp [(0, _), (1, _), (2, _)] ⟨rfl, rfl, rfl, trivial⟩ ?_
      refine w_ret ?_
      exact end0 .ret (.inl rfl) [_] ⟨rfl, trivial⟩ ⟨bool_eq (by rw [letterOk_alt]; simp [g1, g2]), rfl, rfl⟩
    · try simp only [sQ1, sQ2, sQ3, sQ4, sQ5, sQ6, sQ7, sQ8, ne_eq] at g2
      refine oX (w_pass rfl rfl ?_)
      refine oX (w_pass rfl rfl ?_)
      refine oX (w_pass rfl rfl ?_)
      refine oX (w_pass rfl rfl ?_)
      refine oX (w_pickF rfl rfl rfl rfl ?_)
      refine xAs ?_
      refine wKp [(0, _), (1, _), (2, _)] ⟨rfl, rfl, rfl, trivial⟩ ?_
      refine w_ret ?_
      exact end0 .ret (.inl rfl) [_] ⟨rfl, trivial⟩ ⟨bool_eq (by rw [letterOk_alt]; simp [g1, g2]), rfl, rfl⟩
  · try simp only [sQ1, sQ2, sQ3, sQ4, sQ5, sQ6, sQ7, sQ8, ne_eq] at g1
    refine oX (w_pass rfl rfl ?_)
    refine oX (w_pass rfl rfl ?_)
    refine oX (w_pass rfl rfl ?_)
    refine oX (w_pickF rfl rfl rfl rfl ?_)
    refine xMv ?_
    refine oX (w_pass rfl rfl ?_)
    refine oX (w_pass rfl rfl ?_)
    refine oX (w_pass rfl rfl ?_)
    refine oX (w_pass rfl rfl ?_)
    refine oX (w_pickF rfl rfl rfl rfl ?_)
    refine xAs ?_
    refine wKp [(0, _), (1, _), (2, _)] ⟨rfl, rfl, rfl, trivial⟩ ?_
    refine w_ret ?_
    exact end0 .ret (.inl rfl) [_] ⟨rfl, trivial⟩ ⟨bool_eq (by rw [letterOk_alt]; simp [g1]), rfl, rfl⟩

set_option maxRecDepth 4000 in
set_option maxHeartbeats 400000 in
theorem l91Domain_c (b : Nat) (q : Option Addr) (m cp p : Nat) (hp : p ≤ 900000000000) (hm : m ≤ 2000) (B : Kn) (hbm : BytesAt B q m) : Ex1 (pj J) 44 [ptr ⟨b, 0, none⟩] B (rd b q m cp p) (fun v s => ∃ x : Str, v = str x ∧ x.length ≤ 40 ∧ s = rd b q m cp (p + 2)) := by
  refine cBB 12 Tryz.func44 rfl rfl rfl (Nat.le_of_ble_eq_true rfl) ?_
  refine wSR ?_
  refine xAs ?_
  refine wKp [(0, _), (2, _)] ⟨rfl, rfl, trivial⟩ ?_
  refine w_seq ?_
  refine wSR ?_
  refine xMv ?_
  refine oX (w_ex1 0 rfl rfl rfl en99 rfl (pick_c _ _ _ _ _ _ (by omega) (by omega) (by omega) hm _ hbm) ?_)
  rintro _ _ ⟨r1, rfl, r1a, r1b, rfl⟩
  refine oX (w_eqlI rfl rfl rfl rfl ?_)
  refine wTd [(0, _), (2, _), (5, _)] [_] ⟨rfl, rfl, rfl, trivial⟩ rfl ?_
  refine wCd rfl (fun g1 => ?_) (fun g1 => ?_)
  · try simp only [sQ1, sQ2, sQ3, sQ4, sQ5, sQ6, sQ7, sQ8, ne_eq] at g1
    refine wSR ?_
    refine xMv ?_
    refine oX (wBS (parts := [(0, _), (1, _), (2, _), (3, _), (4, _), (5, _), (6, _), (7, _), (8, _)]) [_, _, _, _, _, _, _, _, _] rfl rfl Tryz.underlying98 sz9 zo9 rfl rfl rfl rfl rfl (fun b2 => ?_))
    refine oX (w_callN [0, 1] rfl rfl rfl rfl en100 rfl (of_c _ _ _ _ _ _ ([[], [46], [97, 46, 46, 98], [97, 46, 98, 46, 99, 46, 100], [97, 46, 98, 46, 99], [97, 98, 99, 100, 101, 102, 103, 104, 46, 97, 98, 99, 100, 101, 102, 103, 104, 46, 97, 98, 99], [97, 98, 99, 100, 101, 102, 103, 104, 46, 97, 98, 99, 100, 101, 102, 103, 104, 46, 97, 98], [104, 111, 115, 116, 46], [72, 111, 115, 116, 46, 111, 114, 103]] : List Str) (by omega) (by decide) (by decide) hm _ hbm) ?_)
    rintro _ _ _ hle3 ⟨rfl, x3, hx3, rfl, rfl⟩
    replace hx3 := (show ∀ y ∈ ( ([[], [46], [97, 46, 46, 98], [97, 46, 98, 46, 99, 46, 100], [97, 46, 98, 46, 99], [97, 98, 99, 100, 101, 102, 103, 104, 46, 97, 98, 99, 100, 101, 102, 103, 104, 46, 97, 98, 99], [97, 98, 99, 100, 101, 102, 103, 104, 46, 97, 98, 99, 100, 101, 102, 103, 104, 46, 97, 98], [104, 111, 115, 116, 46], [72, 111, 115, 116, 46, 111, 114, 103]] : List Str) : List Str), y.length ≤ 40 from by decide) _ hx3
    refine xAs ?_
    refine wTd [(0, _), (2, _), (5, _)] [_, _] ⟨rfl, rfl, rfl, trivial⟩ rfl ?_
    refine w_ret (thn_r ?_)
    exact end1 .ret (.inl rfl) [_] 0 rfl ⟨rfl, trivial⟩ ⟨rfl, _, rfl, _, rfl, hx3, rfl⟩
  · try simp only [sQ1, sQ2, sQ3, sQ4, sQ5, sQ6, sQ7, sQ8, ne_eq] at g1
    refine w_skip ?_
    refine thn_n ?_
    refine wSR ?_
    refine xMv ?_
    refine oX (wBS (parts := [(0, _), (1, _), (2, _), (3, _)]) [_, _, _, _] rfl rfl Tryz.underlying98 sz9 zo9 rfl rfl rfl rfl rfl (fun b4 => ?_))
    refine oX (w_callN [0, 1] rfl rfl rfl rfl en100 rfl (of_c _ _ _ _ _ _ ([[104, 111, 115, 116, 46, 111, 114, 103], [104, 111, 115, 116], [97, 46, 98, 46, 99], [111, 116, 104, 101, 114, 46, 110, 101, 116]] : List Str) (by omega) (by decide) (by decide) hm _ hbm) ?_)
    rintro _ _ _ hle5 ⟨rfl, x5, hx5, rfl, rfl⟩
    replace hx5 := (show ∀ y ∈ ( ([[104, 111, 115, 116, 46, 111, 114, 103], [104, 111, 115, 116], [97, 46, 98, 46, 99], [111, 116, 104, 101, 114, 46, 110, 101, 116]] : List Str) : List Str), y.length ≤ 40 from by decide) _ hx5
    refine xAs ?_
    refine wTd [(0, _), (2, _), (5, _)] [_, _] ⟨rfl, rfl, rfl, trivial⟩ rfl ?_
    refine w_ret ?_
    exact end1 .ret (.inl rfl) [_] 0 rfl ⟨rfl, trivial⟩ ⟨rfl, _, rfl, _, rfl, hx5, rfl⟩

set_option maxRecDepth 4000 in
set_option maxHeartbeats 400000 in
theorem sameQueue_c (aa : Option Addr) (ca : Nat) (a : DQueue) (ab : Option Addr) (cb : Nat) (b : DQueue) (B : Kn) (ha : SlK B aa ca 4 ItemR a.items) (hb : SlK B ab cb 4 ItemR b.items) : RetB (pj J) 51 [.agg #[.int .i64 a.next, .slice aa a.items.length ca], .agg #[.int .i64 b.next, .slice ab b.items.length cb]] B (.bool (decide (a = b))) := by
  refine cBB 66 Tryz.func51 rfl rfl rfl (Nat.le_of_ble_eq_true rfl) ?_
  have han := ha.len
  have hbn := hb.len
  refine wSR ?_
  refine oX (w_box (l := [_, _]) rfl rfl rfl rfl (fun b1 => ?_))
  refine oX (w_box (l := [_, _]) rfl rfl rfl rfl (fun b2 => ?_))
  refine xAs ?_
  refine wTd [(0, _), (1, _), (2, _), (3, _), (4, _)] [_, _] ⟨rfl, rfl, rfl, rfl, rfl, trivial⟩ rfl ?_
  refine w_seq ?_
  refine wSR ?_
  refine oX (wFA rfl rfl fo29x0 rfl ?_)
  refine oX (w_load1 rfl rfl lk3 rfl (atL 0 rfl rfl rfl) ?_)
  refine oX (wFA rfl rfl fo29x0 rfl ?_)
  refine oX (w_load1 rfl rfl lk3 rfl (atL 1 rfl rfl rfl) ?_)
  refine oX (w_neqI rfl rfl rfl rfl ?_)
  refine xMv ?_
  refine r_split (d := 13) rfl (fun g1 => ?_) (fun g1 => ?_)
  · try simp only [sQ1, sQ2, sQ3, sQ4, sQ5, sQ6, sQ7, sQ8, ne_eq] at g1
    refine oX (w_pass rfl rfl ?_)
    refine oX (w_pass rfl rfl ?_)
    refine oX (w_pass rfl rfl ?_)
    refine oX (w_pass rfl rfl ?_)
    refine oX (w_pass rfl rfl ?_)
    refine oX (w_pass rfl rfl ?_)
    refine oX (w_pass rfl rfl ?_)
    refine oX (w_pickT rfl rfl rfl rfl ?_)
    refine wKp [(0, _), (1, _), (2, _), (3, _), (4, _), (21, _)] ⟨rfl, rfl, rfl, rfl, rfl, rfl, trivial⟩ ?_
    refine wCd (t := true) rfl (fun _ => ?_) (fun h => Bool.noConfusion h)
    refine wSR ?_
    refine xAs ?_
    refine wKp [(0, _), (1, _), (2, _), (3, _), (4, _), (21, _)] ⟨rfl, rfl, rfl, rfl, rfl, rfl, trivial⟩ ?_
    refine w_ret (thn_r ?_)
    exact end0 .ret (.inl rfl) [_] ⟨rfl, trivial⟩ ⟨bool_eq (by symm; rw [decide_eq_false_iff_not]; rintro rfl; exact g1 rfl), rfl, rfl⟩
  · try simp only [sQ1, sQ2, sQ3, sQ4, sQ5, sQ6, sQ7, sQ8, ne_eq] at g1
    refine oX (wFA rfl rfl fo29x1 rfl ?_)
    refine oX (w_load1 rfl rfl lk27 rfl (atL 0 rfl rfl rfl) ?_)
    refine oX (w_lenV rfl rfl Tryz.underlying27 rfl ?_)
    refine oX (wFA rfl rfl fo29x1 rfl ?_)
    refine oX (w_load1 rfl rfl lk27 rfl (atL 1 rfl rfl rfl) ?_)
    refine oX (w_lenV rfl rfl Tryz.underlying27 rfl ?_)
    refine oX (w_neqI rfl rfl rfl rfl ?_)
    refine oX (w_pickF rfl rfl rfl rfl ?_)
    refine wKp [(0, _), (1, _), (2, _), (3, _), (4, _), (21, _)] ⟨rfl, rfl, rfl, rfl, rfl, rfl, trivial⟩ ?_
    refine wCd rfl (fun g2 => ?_) (fun g2 => ?_)
    · try simp only [sQ1, sQ2, sQ3, sQ4, sQ5, sQ6, sQ7, sQ8, ne_eq] at g2
      refine wSR ?_
      refine xAs ?_
      refine wKp [(0, _), (1, _), (2, _), (3, _), (4, _), (21, _)] ⟨rfl, rfl, rfl, rfl, rfl, rfl, trivial⟩ ?_
      refine w_ret (thn_r ?_)
      exact end0 .ret (.inl rfl) [_] ⟨rfl, trivial⟩ ⟨bool_eq (by symm; rw [decide_eq_false_iff_not]; rintro rfl; exact g2 rfl), rfl, rfl⟩
    · try simp only [sQ1, sQ2, sQ3, sQ4, sQ5, sQ6, sQ7, sQ8, ne_eq] at g2
      refine w_skip ?_
      refine thn_n ?_
      refine w_seq ?_
      refine wSR ?_
      refine xAs ?_
      refine wKp [(0, _), (1, _), (2, _), (3, _), (4, _), (5, _), (21, _)] ⟨rfl, rfl, rfl, rfl, rfl, rfl, rfl, trivial⟩ ?_
      refine w_block ?_
      refine w_loopE (α := Nat) [0, 1, 2, 3, 21] (fun k => [(5, .int .i64 k)]) [] (fun k => []) (fun k Bx => Bx = B ∧ k ≤ a.items.length ∧ a.items.take k = b.items.take k) (fun k => a.items.length - k) 0 ⟨rfl, trivial⟩ rfl (⟨rfl, Nat.zero_le _, by simp⟩) (fun k B3 hle3 hI => ?_)
      obtain ⟨rfl, hk, he⟩ := hI
      refine wTd [(0, _), (1, _), (2, _), (3, _), (5, _), (21, _)] [_, _] ⟨rfl, rfl, rfl, rfl, rfl, rfl, trivial⟩ rfl ?_
      refine w_seq ?_
      refine wSR ?_
      refine xMv ?_
      refine oX (wFA rfl rfl fo29x1 rfl ?_)
      refine oX (w_load1 rfl rfl lk27 rfl (atL 0 rfl rfl rfl) ?_)
      refine oX (w_lenV rfl rfl Tryz.underlying27 rfl ?_)
      refine oX (w_lss rfl rfl rfl rfl ?_)
      refine wKp [(0, _), (1, _), (2, _), (3, _), (5, _), (21, _), (26, _)] ⟨rfl, rfl, rfl, rfl, rfl, rfl, rfl, trivial⟩ ?_
      refine wCd rfl (fun g3 => ?_) (fun g3 => ?_)
      · try simp only [sQ1, sQ2, sQ3, sQ4, sQ5, sQ6, sQ7, sQ8, ne_eq] at g3
        refine w_skip ?_
        refine thn_n ?_
        refine w_seq ?_
        refine w_block ?_
        refine wSR ?_
        refine oX (wFA rfl rfl fo29x1 rfl ?_)
        refine oX (w_load1 rfl rfl lk27 rfl (atL 0 rfl rfl rfl) ?_)
        refine xMv ?_
        obtain ⟨x, hx⟩ := getLt (xs := a.items) (i := k) (by first | omega | (simp; done) | (simp; omega))
        obtain ⟨bb5, oo5, rfl⟩ := ha.base hx
        obtain ⟨_, ⟨qi6, ci6, rfl, hi6, hb6, hb6b⟩, hc6⟩ := ha.elem hx
        have hi6n := hi6.len
        refine oX (w_ixB rfl rfl Tryz.underlying27 sz100 rfl rfl (by first | omega | (simp; done) | (simp; omega)) (by first | omega | (simp; done) | (simp; omega)) ?_)
        refine oX (w_loadN [_, _, _, _] rfl rfl lk100 rfl (rowK hc6 0 rfl rfl) ?_)
        refine oX (w_alloc (l := [_, _, _, _]) rfl rfl zo100 rfl (fun b7 => ?_))
        refine oX (w_store [_, _, _, _] 2 [_, _, _, _] rfl rfl sz100 rfl rfl rfl rfl rfl rfl rfl rfl ?_)
        refine wTd [(0, _), (1, _), (2, _), (3, _), (5, _), (6, _), (21, _), (26, _)] [_, _, _] ⟨rfl, rfl, rfl, rfl, rfl, rfl, rfl, rfl, trivial⟩ rfl ?_
        refine wSR ?_
        refine oX (wFA rfl rfl fo29x1 rfl ?_)
        refine oX (w_load1 rfl rfl lk27 rfl (atL 1 rfl rfl rfl) ?_)
        refine xMv ?_
        obtain ⟨y, hy⟩ := getLt (xs := b.items) (i := k) (by first | omega | (simp; done) | (simp; omega))
        obtain ⟨bb9, oo9, rfl⟩ := hb.base hy
        obtain ⟨_, ⟨qi10, ci10, rfl, hi10, hb10, hb10b⟩, hc10⟩ := hb.elem hy
        have hi10n := hi10.len
        refine oX (w_ixB rfl rfl Tryz.underlying27 sz100 rfl rfl (by first | omega | (simp; done) | (simp; omega)) (by first | omega | (simp; done) | (simp; omega)) ?_)
        refine oX (w_loadN [_, _, _, _] rfl rfl lk100 rfl (rowK hc10 0 rfl rfl) ?_)
        refine oX (w_alloc (l := [_, _, _, _]) rfl rfl zo100 rfl (fun b11 => ?_))
        refine oX (w_store [_, _, _, _] 3 [_, _, _, _] rfl rfl sz100 rfl rfl rfl rfl rfl rfl rfl rfl ?_)
        refine wTd [(0, _), (1, _), (2, _), (3, _), (5, _), (6, _), (7, _), (21, _), (26, _)] [_, _, _, _] ⟨rfl, rfl, rfl, rfl, rfl, rfl, rfl, rfl, rfl, trivial⟩ rfl ?_
        refine wSR ?_
        refine oX (wFA rfl rfl fo100x0 rfl ?_)
        refine oX (w_load1 rfl rfl lk3 rfl (atL 2 rfl rfl rfl) ?_)
        refine oX (wFA rfl rfl fo100x0 rfl ?_)
        refine oX (w_load1 rfl rfl lk3 rfl (atL 3 rfl rfl rfl) ?_)
        refine oX (w_neqI rfl rfl rfl rfl ?_)
        refine xMv ?_
        refine r_split (d := 44) rfl (fun g4 => ?_) (fun g4 => ?_)
        · try simp only [sQ1, sQ2, sQ3, sQ4, sQ5, sQ6, sQ7, sQ8, ne_eq] at g4
          refine oX (w_pass rfl rfl ?_)
          refine oX (w_pass rfl rfl ?_)
          refine oX (w_pass rfl rfl ?_)
          refine oX (w_pass rfl rfl ?_)
          refine oX (w_pass rfl rfl ?_)
          refine oX (w_pickT rfl rfl rfl rfl ?_)
          refine xMv ?_
          refine oX (w_pass rfl rfl ?_)
          refine oX (w_pass rfl rfl ?_)
          refine oX (w_pass rfl rfl ?_)
          refine oX (w_pass rfl rfl ?_)
          refine oX (w_pass rfl rfl ?_)
          refine oX (w_pickT rfl rfl rfl rfl ?_)
          refine xMv ?_
          refine oX (w_pass rfl rfl ?_)
          refine oX (w_pass rfl rfl ?_)
          refine oX (w_pass rfl rfl ?_)
          refine oX (w_pass rfl rfl ?_)
          refine oX (w_pass rfl rfl ?_)
          refine oX (w_pass rfl rfl ?_)
          refine oX (w_pickT rfl rfl rfl rfl ?_)
          refine wKp [(0, _), (1, _), (2, _), (3, _), (5, _), (6, _), (7, _), (21, _), (26, _), (65, _)] ⟨rfl, rfl, rfl, rfl, rfl, rfl, rfl, rfl, rfl, rfl, trivial⟩ ?_
          refine wCd (t := true) rfl (fun _ => ?_) (fun h => Bool.noConfusion h)
          refine wSR ?_
          refine xAs ?_
          refine wKp [(0, _), (1, _), (2, _), (3, _), (4, _), (5, _), (6, _), (7, _), (21, _), (26, _), (65, _)] ⟨rfl, rfl, rfl, rfl, rfl, rfl, rfl, rfl, rfl, rfl, rfl, trivial⟩ ?_
          refine w_ret (inB_r (thn_r (rndE_r (inB_r (thn_r ?_)))))
          exact end0 .ret (.inl rfl) [_] ⟨rfl, trivial⟩ ⟨bool_eq (sameQ_no hx hy (fun e => g4 (by rw [e]))), rfl, rfl⟩
        · try simp only [sQ1, sQ2, sQ3, sQ4, sQ5, sQ6, sQ7, sQ8, ne_eq] at g4
          refine oX (wFA rfl rfl fo100x1 rfl ?_)
          refine oX (w_load1 rfl rfl lk9 rfl (atL 2 rfl rfl rfl) ?_)
          refine oX (wFA rfl rfl fo100x1 rfl ?_)
          refine oX (w_load1 rfl rfl lk9 rfl (atL 3 rfl rfl rfl) ?_)
          refine oX (w_neqS rfl rfl rfl rfl ?_)
          refine oX (w_pickF rfl rfl rfl rfl ?_)
          refine xMv ?_
          refine r_split (d := 51) rfl (fun g5 => ?_) (fun g5 => ?_)
          · try simp only [sQ1, sQ2, sQ3, sQ4, sQ5, sQ6, sQ7, sQ8, ne_eq] at g5
            refine oX (w_pass rfl rfl ?_)
            refine oX (w_pass rfl rfl ?_)
            refine oX (w_pass rfl rfl ?_)
            refine oX (w_pass rfl rfl ?_)
            refine oX (w_pass rfl rfl ?_)
            refine oX (w_pickT rfl rfl rfl rfl ?_)
            refine xMv ?_
            refine oX (w_pass rfl rfl ?_)
            refine oX (w_pass rfl rfl ?_)
            refine oX (w_pass rfl rfl ?_)
            refine oX (w_pass rfl rfl ?_)
            refine oX (w_pass rfl rfl ?_)
            refine oX (w_pass rfl rfl ?_)
            refine oX (w_pickT rfl rfl rfl rfl ?_)
            refine wKp [(0, _), (1, _), (2, _), (3, _), (5, _), (6, _), (7, _), (21, _), (26, _), (65, _)] ⟨rfl, rfl, rfl, rfl, rfl, rfl, rfl, rfl, rfl, rfl, trivial⟩ ?_
            refine wCd (t := true) rfl (fun _ => ?_) (fun h => Bool.noConfusion h)
            refine wSR ?_
            refine xAs ?_
            refine wKp [(0, _), (1, _), (2, _), (3, _), (4, _), (5, _), (6, _), (7, _), (21, _), (26, _), (65, _)] ⟨rfl, rfl, rfl, rfl, rfl, rfl, rfl, rfl, rfl, rfl, rfl, trivial⟩ ?_
            refine w_ret (inB_r (thn_r (rndE_r (inB_r (thn_r ?_)))))
            exact end0 .ret (.inl rfl) [_] ⟨rfl, trivial⟩ ⟨bool_eq (sameQ_no hx hy (fun e => g5 (by rw [e]))), rfl, rfl⟩
          · try simp only [sQ1, sQ2, sQ3, sQ4, sQ5, sQ6, sQ7, sQ8, ne_eq] at g5
            refine oX (wFA rfl rfl fo100x2 rfl ?_)
            refine oX (w_load1 rfl rfl lk9 rfl (atL 2 rfl rfl rfl) ?_)
            refine oX (wFA rfl rfl fo100x2 rfl ?_)
            refine oX (w_load1 rfl rfl lk9 rfl (atL 3 rfl rfl rfl) ?_)
            refine oX (w_neqS rfl rfl rfl rfl ?_)
            refine oX (w_pickF rfl rfl rfl rfl ?_)
            refine xMv ?_
            refine r_split (d := 58) rfl (fun g6 => ?_) (fun g6 => ?_)
            · try simp only [sQ1, sQ2, sQ3, sQ4, sQ5, sQ6, sQ7, sQ8, ne_eq] at g6
              refine oX (w_pass rfl rfl ?_)
              refine oX (w_pass rfl rfl ?_)
              refine oX (w_pass rfl rfl ?_)
              refine oX (w_pass rfl rfl ?_)
              refine oX (w_pass rfl rfl ?_)
              refine oX (w_pass rfl rfl ?_)
              refine oX (w_pickT rfl rfl rfl rfl ?_)
              refine wKp [(0, _), (1, _), (2, _), (3, _), (5, _), (6, _), (7, _), (21, _), (26, _), (65, _)] ⟨rfl, rfl, rfl, rfl, rfl, rfl, rfl, rfl, rfl, rfl, trivial⟩ ?_
              refine wCd (t := true) rfl (fun _ => ?_) (fun h => Bool.noConfusion h)
              refine wSR ?_
              refine xAs ?_
              refine wKp [(0, _), (1, _), (2, _), (3, _), (4, _), (5, _), (6, _), (7, _), (21, _), (26, _), (65, _)] ⟨rfl, rfl, rfl, rfl, rfl, rfl, rfl, rfl, rfl, rfl, rfl, trivial⟩ ?_
              refine w_ret (inB_r (thn_r (rndE_r (inB_r (thn_r ?_)))))
              exact end0 .ret (.inl rfl) [_] ⟨rfl, trivial⟩ ⟨bool_eq (sameQ_no hx hy (fun e => g6 (by rw [e]))), rfl, rfl⟩
            · try simp only [sQ1, sQ2, sQ3, sQ4, sQ5, sQ6, sQ7, sQ8, ne_eq] at g6
              refine oX (wFA rfl rfl fo100x3 rfl ?_)
              refine oX (w_load1 rfl rfl lk98 rfl (atL 2 rfl rfl rfl) ?_)
              refine oX (wFA rfl rfl fo100x3 rfl ?_)
              refine oX (w_load1 rfl rfl lk98 rfl (atL 3 rfl rfl rfl) ?_)
              refine oX (w_retB rfl rfl en105 rfl (sameNames_c _ _ _ _ _ _ _ hi6 hi10) ?_)
              refine oX (w_not rfl rfl rfl ?_)
              refine oX (w_pickF rfl rfl rfl rfl ?_)
              refine wKp [(0, _), (1, _), (2, _), (3, _), (5, _), (6, _), (7, _), (21, _), (26, _), (65, _)] ⟨rfl, rfl, rfl, rfl, rfl, rfl, rfl, rfl, rfl, rfl, trivial⟩ ?_
              refine wCd rfl (fun g7 => ?_) (fun g7 => ?_)
              · try simp only [sQ1, sQ2, sQ3, sQ4, sQ5, sQ6, sQ7, sQ8, ne_eq] at g7
                refine wSR ?_
                refine xAs ?_
                refine wKp [(0, _), (1, _), (2, _), (3, _), (4, _), (5, _), (6, _), (7, _), (21, _), (26, _), (65, _)] ⟨rfl, rfl, rfl, rfl, rfl, rfl, rfl, rfl, rfl, rfl, rfl, trivial⟩ ?_
                refine w_ret (inB_r (thn_r (rndE_r (inB_r (thn_r ?_)))))
                exact end0 .ret (.inl rfl) [_] ⟨rfl, trivial⟩ ⟨bool_eq (sameQ_no hx hy (fun e => g7 (by rw [e]))), rfl, rfl⟩
              · try simp only [sQ1, sQ2, sQ3, sQ4, sQ5, sQ6, sQ7, sQ8, ne_eq] at g7
                refine w_skip ?_
                refine inB_n (thn_n ?_)
                refine w_region ?_
                refine xMv ?_
                refine oX (w_add rfl rfl rfl rfl (by first | exact wrI64 (by first | omega | (simp; done) | (simp; omega)) (by first | omega | (simp; done) | (simp; omega)) | rfl) ?_)
                refine xAs ?_
                exact rndE_n (k + 1) [0, 1] (by first | omega | (simp only []; omega)) ⟨rfl, by omega, take_eq_next hx hy (by cases x; cases y; simp_all) he⟩ ⟨rfl, rfl, rfl, rfl, rfl, rfl, trivial⟩ rfl
      · try simp only [sQ1, sQ2, sQ3, sQ4, sQ5, sQ6, sQ7, sQ8, ne_eq] at g3
        refine w_exit (thn_x (rndE_x (inB_hit (thn_n ?_))))
        refine wSR ?_
        refine xAs ?_
        refine wKp [(0, _), (1, _), (2, _), (3, _), (4, _), (5, _), (21, _), (26, _)] ⟨rfl, rfl, rfl, rfl, rfl, rfl, rfl, rfl, trivial⟩ ?_
        refine w_ret ?_
        exact end0 .ret (.inl rfl) [_] ⟨rfl, trivial⟩ ⟨bool_eq (by symm; rw [decide_eq_true_eq]; cases a; cases b; rw [DQueue.mk.injEq]; exact ⟨g1, by have := eqT (inst := Classical.propDecidable _) (by omega) (by omega) he; simpa using this.symm⟩), rfl, rfl⟩

set_option maxRecDepth 4000 in
set_option maxHeartbeats 400000 in
theorem specQueue_c (aq : Option Addr) (cq : Nat) (q : DQueue) (B : Kn) (hq : SlK B aq cq 4 ItemR q.items) : RetB (pj J) 66 [.agg #[.int .i64 q.next, .slice aq q.items.length cq]] B (.bool (queueOk q)) := by
  refine cBB 48 Tryz.func66 rfl rfl rfl (Nat.le_of_ble_eq_true rfl) ?_
  have hqn := hq.len
  refine wSR ?_
  refine oX (w_box (l := [_, _]) rfl rfl rfl rfl (fun b1 => ?_))
  refine xAs ?_
  refine wTd [(0, _), (1, _), (2, _)] [_] ⟨rfl, rfl, rfl, trivial⟩ rfl ?_
  refine wSR ?_
  refine xAs ?_
  refine wKp [(0, _), (1, _), (2, _), (3, _)] ⟨rfl, rfl, rfl, rfl, trivial⟩ ?_
  refine w_seq ?_
  refine wSR ?_
  refine xAs ?_
  refine wKp [(0, _), (1, _), (2, _), (3, _), (4, _)] ⟨rfl, rfl, rfl, rfl, rfl, trivial⟩ ?_
  refine w_block ?_
  refine w_loopE (α := Nat × Int) [0, 1] (fun p => [(3, .int .i64 p.2), (4, .int .i64 p.1)]) [] (fun p => []) (fun p Bx => Bx = B ∧ p.1 ≤ q.items.length ∧ scanQ 0 q.items = scanQ p.2 (q.items.drop p.1) ∧ 0 ≤ p.2 ∧ p.2 ≤ 99) (fun p => q.items.length - p.1) (0, 0) ⟨rfl, rfl, trivial⟩ rfl (⟨rfl, Nat.zero_le _, rfl, by decide, by decide⟩) (fun p B2 hle2 hI => ?_)
  obtain ⟨rfl, hk, hs, hl0, hl1⟩ := hI
  refine wTd [(0, _), (1, _), (3, _), (4, _)] [_] ⟨rfl, rfl, rfl, rfl, trivial⟩ rfl ?_
  refine w_seq ?_
  refine wSR ?_
  refine xMv ?_
  refine oX (wFA rfl rfl fo29x1 rfl ?_)
  refine oX (w_load1 rfl rfl lk27 rfl (atL 0 rfl rfl rfl) ?_)
  refine oX (w_lenV rfl rfl Tryz.underlying27 rfl ?_)
  refine oX (w_lss rfl rfl rfl rfl ?_)
  refine wKp [(0, _), (1, _), (3, _), (4, _), (10, _)] ⟨rfl, rfl, rfl, rfl, rfl, trivial⟩ ?_
  refine wCd rfl (fun g1 => ?_) (fun g1 => ?_)
  · try simp only [sQ1, sQ2, sQ3, sQ4, sQ5, sQ6, sQ7, sQ8, ne_eq] at g1
    refine w_skip ?_
    refine thn_n ?_
    refine w_seq ?_
    refine w_block ?_
    refine wSR ?_
    refine oX (wFA rfl rfl fo29x1 rfl ?_)
    refine oX (w_load1 rfl rfl lk27 rfl (atL 0 rfl rfl rfl) ?_)
    refine xMv ?_
    obtain ⟨x, hx⟩ := getLt (xs := q.items) (i := p.1) (by first | omega | (simp; done) | (simp; omega))
    obtain ⟨bb4, oo4, rfl⟩ := hq.base hx
    obtain ⟨_, ⟨qi5, ci5, rfl, hi5, hb5, hb5b⟩, hc5⟩ := hq.elem hx
    have hi5n := hi5.len
    refine oX (w_ixB rfl rfl Tryz.underlying27 sz100 rfl rfl (by first | omega | (simp; done) | (simp; omega)) (by first | omega | (simp; done) | (simp; omega)) ?_)
    replace hs := scan_step hs hx
    refine oX (w_loadN [_, _, _, _] rfl rfl lk100 rfl (rowK hc5 0 rfl rfl) ?_)
    refine oX (w_alloc (l := [_, _, _, _]) rfl rfl zo100 rfl (fun b6 => ?_))
    refine oX (w_store [_, _, _, _] 1 [_, _, _, _] rfl rfl sz100 rfl rfl rfl rfl rfl rfl rfl rfl ?_)
    refine wTd [(0, _), (1, _), (3, _), (4, _), (5, _), (10, _)] [_, _] ⟨rfl, rfl, rfl, rfl, rfl, rfl, trivial⟩ rfl ?_
    refine w_seq ?_
    refine wSR ?_
    refine oX (wFA rfl rfl fo100x0 rfl ?_)
    refine oX (w_load1 rfl rfl lk3 rfl (atL 1 rfl rfl rfl) ?_)
    refine xMv ?_
    refine oX (w_add rfl rfl rfl rfl (by first | exact wrI64 (by first | omega | (simp; done) | (simp; omega)) (by first | omega | (simp; done) | (simp; omega)) | rfl) ?_)
    refine oX (w_retB rfl rfl en125 rfl (l6In_c _ _ _ _) ?_)
    refine oX (w_not rfl rfl rfl ?_)
    refine xMv ?_
    refine r_split (d := 24) rfl (fun g2 => ?_) (fun g2 => ?_)
    · try simp only [sQ1, sQ2, sQ3, sQ4, sQ5, sQ6, sQ7, sQ8, ne_eq] at g2
      refine oX (w_pass rfl rfl ?_)
      refine oX (w_pass rfl rfl ?_)
      refine oX (w_pass rfl rfl ?_)
      refine oX (w_pass rfl rfl ?_)
      refine oX (w_pass rfl rfl ?_)
      refine oX (w_pass rfl rfl ?_)
      refine oX (w_pass rfl rfl ?_)
      refine oX (w_pass rfl rfl ?_)
      refine oX (w_pass rfl rfl ?_)
      refine oX (w_pickT rfl rfl rfl rfl ?_)
      refine wKp [(0, _), (1, _), (3, _), (4, _), (5, _), (10, _), (34, _)] ⟨rfl, rfl, rfl, rfl, rfl, rfl, rfl, trivial⟩ ?_
      refine wCd (t := true) rfl (fun _ => ?_) (fun h => Bool.noConfusion h)
      refine wSR ?_
      refine xAs ?_
      refine wKp [(0, _), (1, _), (2, _), (3, _), (4, _), (5, _), (10, _), (34, _)] ⟨rfl, rfl, rfl, rfl, rfl, rfl, rfl, rfl, trivial⟩ ?_
      refine w_ret (thn_r (inB_r (thn_r (rndE_r (inB_r (thn_r ?_))))))
      exact end0 .ret (.inl rfl) [_] ⟨rfl, trivial⟩ ⟨bool_eq (queueBad (by rw [hs, if_neg]; intro h; simp [h.1] at g2)), rfl, rfl⟩
    · try simp only [sQ1, sQ2, sQ3, sQ4, sQ5, sQ6, sQ7, sQ8, ne_eq] at g2
      simp only [Bool.and_eq_true, decide_eq_true_eq] at g2
      refine oX (wFA rfl rfl fo100x1 rfl ?_)
      refine oX (w_load1 rfl rfl lk9 rfl (atL 1 rfl rfl rfl) ?_)
      refine oX (wFA rfl rfl fo100x3 rfl ?_)
      refine oX (w_load1 rfl rfl lk98 rfl (atL 1 rfl rfl rfl) ?_)
      refine oX (wFA rfl rfl fo100x2 rfl ?_)
      refine oX (w_load1 rfl rfl lk9 rfl (atL 1 rfl rfl rfl) ?_)
      refine oX (w_build (parts := [(0, _), (1, _), (2, _)]) [_, _, _] [_, _, _] rfl rfl pl138 zo138 rfl rfl rfl ?_)
      refine oX (w_retB rfl rfl en126 rfl (specLetter_c _ _ ⟨x.fr, x.left, x.text⟩ _ hi5 (by first | assumption | omega) (by first | assumption | omega)) ?_)
      refine oX (w_not rfl rfl rfl ?_)
      refine oX (w_pickF rfl rfl rfl rfl ?_)
      refine wKp [(0, _), (1, _), (3, _), (4, _), (5, _), (10, _), (34, _)] ⟨rfl, rfl, rfl, rfl, rfl, rfl, rfl, trivial⟩ ?_
      refine wCd rfl (fun g3 => ?_) (fun g3 => ?_)
      · try simp only [sQ1, sQ2, sQ3, sQ4, sQ5, sQ6, sQ7, sQ8, ne_eq] at g3
        refine wSR ?_
        refine xAs ?_
        refine wKp [(0, _), (1, _), (2, _), (3, _), (4, _), (5, _), (10, _), (34, _)] ⟨rfl, rfl, rfl, rfl, rfl, rfl, rfl, rfl, trivial⟩ ?_
        refine w_ret (thn_r (inB_r (thn_r (rndE_r (inB_r (thn_r ?_))))))
        exact end0 .ret (.inl rfl) [_] ⟨rfl, trivial⟩ ⟨bool_eq (queueBad (by rw [hs, if_neg]; intro h; rw [itemOk, g3] at h; cases h.2)), rfl, rfl⟩
      · try simp only [sQ1, sQ2, sQ3, sQ4, sQ5, sQ6, sQ7, sQ8, ne_eq] at g3
        refine w_skip ?_
        refine thn_n ?_
        refine w_region ?_
        refine oX (wFA rfl rfl fo100x0 rfl ?_)
        refine oX (w_load1 rfl rfl lk3 rfl (atL 1 rfl rfl rfl) ?_)
        refine xAs ?_
        refine inB_n (thn_n ?_)
        refine w_region ?_
        refine xMv ?_
        refine oX (w_add rfl rfl rfl rfl (by first | exact wrI64 (by first | omega | (simp; done) | (simp; omega)) (by first | omega | (simp; done) | (simp; omega)) | rfl) ?_)
        refine xAs ?_
        exact rndE_n (p.1 + 1, x.id) [0] (by first | omega | (simp only []; omega)) ⟨rfl, by simp only []; omega, by rw [hs, if_pos ⟨g2, g3⟩], by simp only []; omega, by simp only []; omega⟩ ⟨rfl, rfl, rfl, rfl, trivial⟩ rfl
  · try simp only [sQ1, sQ2, sQ3, sQ4, sQ5, sQ6, sQ7, sQ8, ne_eq] at g1
    rw [dropEnd (by omega), scanQ] at hs
    refine w_exit (thn_x (rndE_x (inB_hit (thn_n ?_))))
    refine wSR ?_
    refine oX (wFA rfl rfl fo29x0 rfl ?_)
    refine oX (w_load1 rfl rfl lk3 rfl (atL 0 rfl rfl rfl) ?_)
    refine xMv ?_
    refine oX (w_add rfl rfl rfl rfl (by first | exact wrI64 (by first | omega | (simp; done) | (simp; omega)) (by first | omega | (simp; done) | (simp; omega)) | rfl) ?_)
    refine oX (w_retB rfl rfl en125 rfl (l6In_c _ _ _ _) ?_)
    refine xMv ?_
    refine r_split (d := 42) rfl (fun g1 => ?_) (fun g1 => ?_)
    · try simp only [sQ1, sQ2, sQ3, sQ4, sQ5, sQ6, sQ7, sQ8, ne_eq] at g1
      refine oX (wFA rfl rfl fo29x1 rfl ?_)
      refine oX (w_load1 rfl rfl lk27 rfl (atL 0 rfl rfl rfl) ?_)
      refine oX (w_lenV rfl rfl Tryz.underlying27 rfl ?_)
      refine oX (w_leq rfl rfl rfl rfl ?_)
      refine oX (w_pickT rfl rfl rfl rfl ?_)
      refine xAs ?_
      refine wKp [(0, _), (1, _), (2, _), (3, _), (4, _), (10, _)] ⟨rfl, rfl, rfl, rfl, rfl, rfl, trivial⟩ ?_
      refine w_ret ?_
      exact end0 .ret (.inl rfl) [_] ⟨rfl, trivial⟩ ⟨bool_eq (by rw [← queueEnd hs, Bool.eq_iff_iff]; simp [g1, g1]; try omega), rfl, rfl⟩
    · try simp only [sQ1, sQ2, sQ3, sQ4, sQ5, sQ6, sQ7, sQ8, ne_eq] at g1
      refine oX (w_pass rfl rfl ?_)
      refine oX (w_pass rfl rfl ?_)
      refine oX (w_pass rfl rfl ?_)
      refine oX (w_pass rfl rfl ?_)
      refine oX (w_pickF rfl rfl rfl rfl ?_)
      refine xAs ?_
      refine wKp [(0, _), (1, _), (2, _), (3, _), (4, _), (10, _)] ⟨rfl, rfl, rfl, rfl, rfl, rfl, trivial⟩ ?_
      refine w_ret ?_
      exact end0 .ret (.inl rfl) [_] ⟨rfl, trivial⟩ ⟨bool_eq (by rw [← queueEnd hs, Bool.eq_iff_iff]; simp [g1, g1]; try omega), rfl, rfl⟩

set_option maxRecDepth 4000 in
set_option maxHeartbeats 400000 in
theorem idLen_c (q : Option Addr) (m cp : Nat) (B : Kn) : RetB (pj J) 268 [.slice q m cp] B (.int .i64 m) := by
  refine cBB 5 Tryz.func268 rfl rfl rfl (Nat.le_of_ble_eq_true rfl) ?_
  refine wSR ?_
  refine xAs ?_
  refine wKp [(0, _), (2, _)] ⟨rfl, rfl, trivial⟩ ?_
  refine wSR ?_
  refine xMv ?_
  refine oX (w_lenV rfl rfl Tryz.underlying188 rfl ?_)
  refine xAs ?_
  refine wKp [(0, _), (2, _)] ⟨rfl, rfl, trivial⟩ ?_
  refine w_ret ?_
  exact end0 .ret (.inl rfl) [_] ⟨rfl, trivial⟩ ⟨rfl, rfl, rfl⟩

set_option maxRecDepth 4000 in
set_option maxHeartbeats 400000 in
theorem idLess_c (q : Option Addr) (cp : Nat) (xs : List Int) (i j : Nat) (a b : Int) (hi : xs[i]? = some a) (hj : xs[j]? = some b) (B : Kn) (hx : SlK B q cp 1 IntR xs) : RetB (pj J) 269 [.slice q xs.length cp, .int .i64 i, .int .i64 j] B (.bool (decide (a < b))) := by
  refine cBB 16 Tryz.func269 rfl rfl rfl (Nat.le_of_ble_eq_true rfl) ?_
  have hil := lt_of_get hi
  have hjl := lt_of_get hj
  refine wSR ?_
  refine xAs ?_
  refine wKp [(0, _), (1, _), (2, _), (6, _)] ⟨rfl, rfl, rfl, rfl, trivial⟩ ?_
  refine w_seq ?_
  refine w_draw (same _ _) mo (by kernel_rfl) ⟨rfl, rfl⟩ (fun _ _ => ?_)
  refine aTP 0 rfl (by kernel_rfl) rfl (fun D B L => w_move rfl rfl rfl ⟨rfl, rfl, rfl, rfl⟩) ?_
  refine aTP 1 rfl (by kernel_rfl) rfl (fun D B L => w_move rfl rfl rfl ⟨rfl, rfl, rfl, rfl⟩) ?_
  obtain ⟨z, hz⟩ := getLt (xs := xs) (i := i) (by first | omega | (simp; done) | (simp; omega))
  obtain ⟨bb2, oo2, rfl⟩ := hx.base hz
  obtain ⟨_, rfl, hc3⟩ := hx.elem hz
  refine aTk 2 rfl (by kernel_rfl) rfl (q_of fun D => w_ixB rfl rfl Tryz.underlying126 sz3 rfl rfl (by first | omega | (simp; done) | (simp; omega)) (by first | omega | (simp; done) | (simp; omega)) ⟨rfl, rfl, rfl, rfl⟩) ?_
  refine aTk 3 rfl (by kernel_rfl) rfl (q_of fun D => w_load1 rfl rfl lk3 rfl (hc3 _ 0 _ rfl) ⟨rfl, rfl, rfl, rfl⟩) ?_
  refine aTP 4 rfl (by kernel_rfl) rfl (fun D B L => w_move rfl rfl rfl ⟨rfl, rfl, rfl, rfl⟩) ?_
  refine aTP 5 rfl (by kernel_rfl) rfl (fun D B L => w_move rfl rfl rfl ⟨rfl, rfl, rfl, rfl⟩) ?_
  obtain ⟨w, hw⟩ := getLt (xs := xs) (i := j) (by first | omega | (simp; done) | (simp; omega))
  obtain ⟨_, rfl, hc5⟩ := hx.elem hw
  refine aTk 6 rfl (by kernel_rfl) rfl (q_of fun D => w_ixB rfl rfl Tryz.underlying126 sz3 rfl rfl (by first | omega | (simp; done) | (simp; omega)) (by first | omega | (simp; done) | (simp; omega)) ⟨rfl, rfl, rfl, rfl⟩) ?_
  rw [hi] at hz
  cases hz
  rw [hj] at hw
  cases hw
  refine aTk 7 rfl (by kernel_rfl) rfl (q_of fun D => w_load1 rfl rfl lk3 rfl (hc5 _ 0 _ rfl) ⟨rfl, rfl, rfl, rfl⟩) ?_
  refine aTk 8 rfl (by kernel_rfl) rfl (q_of fun D => w_lss rfl rfl rfl rfl ⟨rfl, rfl, rfl, rfl⟩) ?_
  refine aTP 9 rfl (by kernel_rfl) rfl (fun D B L => w_assign rfl rfl rfl ⟨rfl, rfl, rfl, rfl⟩) ?_
  refine any_done (by kernel_rfl) (by kernel_rfl) ?_
  refine thn_n ?_
  refine wKp [(0, _), (1, _), (2, _), (6, _)] ⟨rfl, rfl, rfl, rfl, trivial⟩ ?_
  refine w_ret ?_
  exact end0 .ret (.inl rfl) [_] ⟨rfl, trivial⟩ ⟨rfl, rfl, rfl⟩

set_option maxRecDepth 4000 in
set_option maxHeartbeats 400000 in
theorem idPush_c (b : Nat) (q : Option Addr) (cp : Nat) (xs : List Int) (l : Cells) (z : Int) (hn : xs.length ≤ 2000000) (B : Kn) (hv : VecR B l q cp 3 1 IntR xs) : CallsB (pj J) 271 [ptr ⟨b, 0, none⟩, .iface 3 (.int .i64 z)] B [box1 b [.slice q xs.length cp] 188, l] (fun v B' Ls => B' = B ∧ ∃ q' c' l', Ls = [box1 b [.slice q' (xs ++ [z]).length c'] 188, l'] ∧ VecR B l' q' c' 3 1 IntR (xs ++ [z])) := by
  refine cBB 13 Tryz.func271 rfl rfl rfl (Nat.le_of_ble_eq_true rfl) ?_
  refine w_draw (keeps _ [0] _) mo (by kernel_rfl) ⟨Kn.le.refl _, keepsL.refl _ _⟩ (fun _ _ => ?_)
  refine aTP 0 rfl (by kernel_rfl) rfl (fun D B L => w_move rfl rfl rfl ⟨rfl, rfl, rfl, rfl⟩) ?_
  refine aTP 1 rfl (by kernel_rfl) rfl (fun D B L => w_move rfl rfl rfl ⟨rfl, rfl, rfl, rfl⟩) ?_
  refine aTk 2 rfl (by kernel_rfl) rfl (q_ofI fun D B L hI => w_nilCheck rfl rfl rfl ⟨rfl, rfl, rfl, rfl⟩) ?_
  refine aTk 3 rfl (by kernel_rfl) rfl (q_ofI fun D B L hI => w_load1 rfl rfl lk188 rfl (atL 0 (hI.2.1.trans rfl) rfl rfl) ⟨rfl, rfl, rfl, rfl⟩) ?_
  refine aTP 4 rfl (by kernel_rfl) rfl (fun D B L => w_move rfl rfl rfl ⟨rfl, rfl, rfl, rfl⟩) ?_
  refine aTk 5 rfl (by kernel_rfl) rfl (q_ofI fun D B L hI => w_assertT rfl rfl Tryz.underlying3 rfl rfl ⟨rfl, rfl, rfl, rfl⟩) ?_
  refine aOne 6 (by kernel_rfl) rfl (by kernel_rfl) (wBS (parts := [(0, _)]) [_] rfl rfl Tryz.underlying126 sz3 zo3 rfl rfl rfl rfl rfl (fun b1 => ?_))
  refine ⟨⟨Kn.le.refl _, ⟨rfl, trivial⟩⟩, ?_⟩
  refine aOne 7 (by kernel_rfl) rfl (by kernel_rfl) (w_app1 (z := z) (R := IntR) 1 rfl hv rfl rfl rfl eo188 su188 rfl rfl (SrcAt.box 2 rfl) rfl rfl (rfl) (by first | omega | (simp; done) | (simp; omega)) (fun l2 p2 c2 hv2 => ?_))
  refine ⟨⟨Kn.le.refl _, ⟨rfl, trivial⟩⟩, ?_⟩
  refine aTk 8 rfl (by kernel_rfl) rfl (q_ofI fun D B L hI => w_nilCheck rfl rfl rfl ⟨rfl, rfl, rfl, rfl⟩) ?_
  refine any_fin 9 (by kernel_rfl) rfl (by kernel_rfl) (by kernel_rfl) (by kernel_rfl) (w_store [_] 0 [_] rfl rfl sz188 rfl rfl rfl rfl rfl rfl rfl rfl ?_)
  exact endN .normal (.inr rfl) [] [0, 1] rfl trivial ⟨rfl, _, _, _, rfl, hv2⟩

set_option maxRecDepth 4000 in
set_option maxHeartbeats 400000 in
theorem idPop_c (b : Nat) (q : Option Addr) (cp : Nat) (xs : List Int) (l : Cells) (z : Int) (hz : xs[xs.length - 1]? = some z) (hn : xs.length ≤ 2000000) (B : Kn) (hv : VecR B l q cp 3 1 IntR xs) : CallsB (pj J) 270 [ptr ⟨b, 0, none⟩] B [box1 b [.slice q xs.length cp] 188, l] (fun v B' Ls => B' = B ∧ v = .iface 3 (.int .i64 z) ∧ Ls = [box1 b [.slice q (xs.length - 1) cp] 188, l] ∧ VecR B l q cp 3 1 IntR (xs.take (xs.length - 1))) := by
  refine cBB 25 Tryz.func270 rfl rfl rfl (Nat.le_of_ble_eq_true rfl) ?_
  have hl1 := lt_of_get hz
  have hcp := hv.cap
  have hv9 := hv.take (k := xs.length - 1) (by omega)
  have hs0 := hv.slice0 (sz := 1)
  refine wSR ?_
  refine xAs ?_
  refine wKp [(0, _), (2, _)] ⟨rfl, rfl, trivial⟩ ?_
  refine wSR ?_
  refine xMv ?_
  refine oX (w_nilCheck rfl rfl rfl ?_)
  refine oX (w_load1 rfl rfl lk188 rfl (atL 0 rfl rfl rfl) ?_)
  refine oX (w_lenV rfl rfl Tryz.underlying188 rfl ?_)
  refine oX (w_sub (r := ((xs.length - 1 : Nat) : Int)) rfl rfl rfl rfl (by rw [show ((xs.length : Int) - 1) = ((xs.length - 1 : Nat) : Int) from by omega]; exact wrI64 (by omega) (by omega)) ?_)
  refine xAs ?_
  refine wKp [(0, _), (2, _), (3, _)] ⟨rfl, rfl, rfl, trivial⟩ ?_
  refine wSR ?_
  refine xMv ?_
  refine oX (w_nilCheck rfl rfl rfl ?_)
  refine oX (w_load1 rfl rfl lk188 rfl (atL 0 rfl rfl rfl) ?_)
  refine xMv ?_
  obtain ⟨w, hw⟩ := getLt (xs := xs) (i := (xs.length - 1)) (by first | omega | (simp; done) | (simp; omega))
  obtain ⟨bb2, _, hp2, rfl, hw2, hc2⟩ := hv.row hw
  refine oX (w_ixP hp2 rfl rfl Tryz.underlying126 sz3 rfl rfl (by first | omega | (simp; done) | (simp; omega)) (by first | omega | (simp; done) | (simp; omega)) ?_)
  rw [hz] at hw
  cases hw
  refine oX (w_load1 rfl rfl lk3 rfl (hc2 _ 1 rfl 0 _ rfl) ?_)
  refine xAs ?_
  refine wKp [(0, _), (2, _), (3, _), (4, _)] ⟨rfl, rfl, rfl, rfl, trivial⟩ ?_
  refine wSR ?_
  refine xMv ?_
  refine xMv ?_
  refine oX (w_nilCheck rfl rfl rfl ?_)
  refine oX (w_load1 rfl rfl lk188 rfl (atL 0 rfl rfl rfl) ?_)
  refine xMv ?_
  refine oX (w_sliceV rfl rfl Tryz.underlying126 sz3 rfl (a := 0) (b := xs.length - 1) rfl ⟨_, _, rfl, rfl⟩ (by omega) (by omega) ?_)
  rw [hs0]
  refine oX (w_nilCheck rfl rfl rfl ?_)
  refine oX (w_store [_] 0 [_] rfl rfl sz188 rfl rfl rfl rfl rfl rfl rfl rfl ?_)
  refine wTd [(0, _), (2, _), (3, _), (4, _)] [_, _] ⟨rfl, rfl, rfl, rfl, trivial⟩ rfl ?_
  refine wSR ?_
  refine xMv ?_
  refine oX (w_makeIface rfl rfl Tryz.underlying3 rfl rfl ?_)
  refine xAs ?_
  refine wKp [(0, _), (2, _), (3, _), (4, _)] ⟨rfl, rfl, rfl, rfl, trivial⟩ ?_
  refine w_ret ?_
  exact endN .ret (.inl rfl) [_] [0, 1] rfl ⟨rfl, trivial⟩ ⟨rfl, rfl, rfl, hv9⟩

set_option maxRecDepth 4000 in
set_option maxHeartbeats 400000 in
theorem idSwap_c (q : Option Addr) (cp : Nat) (xs : List Int) (l : Cells) (i j : Nat) (a b : Int) (hi : xs[i]? = some a) (hj : xs[j]? = some b) (hn : xs.length ≤ 2000000) (B : Kn) (hv : VecR B l q cp 3 1 IntR xs) : CallsB (pj J) 272 [.slice q xs.length cp, .int .i64 i, .int .i64 j] B [l] (fun v B' Ls => B' = B ∧ ∃ l', Ls = [l'] ∧ VecR B l' q cp 3 1 IntR ((xs.set i b).set j a)) := by
  refine cBB 20 Tryz.func272 rfl rfl rfl (Nat.le_of_ble_eq_true rfl) ?_
  have hil := lt_of_get hi
  have hjl := lt_of_get hj
  refine w_draw (keeps _ [0] _) mo (by kernel_rfl) ⟨Kn.le.refl _, keepsL.refl _ _⟩ (fun _ _ => ?_)
  refine aTP 0 rfl (by kernel_rfl) rfl (fun D B L => w_move rfl rfl rfl ⟨rfl, rfl, rfl, rfl⟩) ?_
  refine aTP 1 rfl (by kernel_rfl) rfl (fun D B L => w_move rfl rfl rfl ⟨rfl, rfl, rfl, rfl⟩) ?_
  refine aTP 2 rfl (by kernel_rfl) rfl (fun D B L => w_move rfl rfl rfl ⟨rfl, rfl, rfl, rfl⟩) ?_
  refine aTP 3 rfl (by kernel_rfl) rfl (fun D B L => w_move rfl rfl rfl ⟨rfl, rfl, rfl, rfl⟩) ?_
  refine aTP 4 rfl (by kernel_rfl) rfl (fun D B L => w_move rfl rfl rfl ⟨rfl, rfl, rfl, rfl⟩) ?_
  refine aTP 5 rfl (by kernel_rfl) rfl (fun D B L => w_move rfl rfl rfl ⟨rfl, rfl, rfl, rfl⟩) ?_
  obtain ⟨y, hy⟩ := getLt (xs := xs) (i := j) (by first | omega | (simp; done) | (simp; omega))
  obtain ⟨bb2, _, hp2, rfl, hw2, hc2⟩ := hv.row hy
  refine aTk 6 rfl (by kernel_rfl) rfl (q_ofI fun D B L hI => w_ixP hp2 rfl rfl Tryz.underlying126 sz3 rfl rfl (by first | omega | (simp; done) | (simp; omega)) (by first | omega | (simp; done) | (simp; omega)) ⟨rfl, rfl, rfl, rfl⟩) ?_
  refine aTk 7 rfl (by kernel_rfl) rfl (q_ofI fun D B L hI => w_load1 rfl rfl lk3 rfl (hc2 _ 0 (hI.2.1.trans rfl) 0 _ rfl) ⟨rfl, rfl, rfl, rfl⟩) ?_
  refine aTP 8 rfl (by kernel_rfl) rfl (fun D B L => w_move rfl rfl rfl ⟨rfl, rfl, rfl, rfl⟩) ?_
  refine aTP 9 rfl (by kernel_rfl) rfl (fun D B L => w_move rfl rfl rfl ⟨rfl, rfl, rfl, rfl⟩) ?_
  obtain ⟨x, hx⟩ := getLt (xs := xs) (i := i) (by first | omega | (simp; done) | (simp; omega))
  obtain ⟨bb4, _, hp4, rfl, hw4, hc4⟩ := hv.row hx
  refine aTk 10 rfl (by kernel_rfl) rfl (q_ofI fun D B L hI => w_ixP hp4 rfl rfl Tryz.underlying126 sz3 rfl rfl (by first | omega | (simp; done) | (simp; omega)) (by first | omega | (simp; done) | (simp; omega)) ⟨rfl, rfl, rfl, rfl⟩) ?_
  refine aTk 11 rfl (by kernel_rfl) rfl (q_ofI fun D B L hI => w_load1 rfl rfl lk3 rfl (hc4 _ 0 (hI.2.1.trans rfl) 0 _ rfl) ⟨rfl, rfl, rfl, rfl⟩) ?_
  obtain ⟨bb5, _, hp5, rfl, hw5, hc5⟩ := hv.row hx
  refine aTk 12 rfl (by kernel_rfl) rfl (q_ofI fun D B L hI => w_ixP hp5 rfl rfl Tryz.underlying126 sz3 rfl rfl (by first | omega | (simp; done) | (simp; omega)) (by first | omega | (simp; done) | (simp; omega)) ⟨rfl, rfl, rfl, rfl⟩) ?_
  refine any_sto 13 (by kernel_rfl) rfl (by kernel_rfl) (by kernel_rfl) (w_stO (k := i) (off := 0) (y) [_] 0 hv hp5 hx rfl rfl sz3 rfl rfl rfl rfl rfl rfl ((fun row h => by cases h; rfl)) (fun l6 hv6 => ?_))
  obtain ⟨w, hw⟩ := getLt (xs := (xs.set i (y))) (i := j) (by first | omega | (simp; done) | (simp; omega))
  obtain ⟨bb8, _, hp8, rfl, hw8, hc8⟩ := hv6.row hw
  refine aTk 14 rfl (by kernel_rfl) rfl (q_ofI fun D B L hI => w_ixP hp8 rfl rfl Tryz.underlying126 sz3 rfl rfl (by first | omega | (simp; done) | (simp; omega)) (by first | omega | (simp; done) | (simp; omega)) ⟨rfl, rfl, rfl, rfl⟩) ?_
  refine any_fin 15 (by kernel_rfl) rfl (by kernel_rfl) (by kernel_rfl) (by kernel_rfl) (w_stO (k := j) (off := 0) (x) [_] 0 hv6 hp8 hw rfl rfl sz3 rfl rfl rfl rfl rfl rfl ((fun row h => by cases h; rfl)) (fun l9 hv9 => ?_))
  rw [hi] at hx
  cases hx
  rw [hj] at hy
  cases hy
  exact endN .normal (.inr rfl) [] [0] rfl trivial ⟨rfl, _, rfl, hv9⟩

set_option maxRecDepth 4000 in
set_option maxHeartbeats 400000 in
theorem heapUp_c (b : Nat) (q : Option Addr) (cp : Nat) (xs : List Int) (l : Cells) (j : Nat) (hj : j < xs.length) (hn : xs.length ≤ 2000000) (hh : HeapBut xs j) (B : Kn) (hv : VecR B l q cp 3 1 IntR xs) : CallsB (pj J) 201 [.iface 187 (ptr ⟨b, 0, none⟩), .int .i64 j] B [box1 b [.slice q xs.length cp] 188, l] (fun v B' Ls => B' = B ∧ ∃ ys l', Ls = [box1 b [.slice q ys.length cp] 188, l'] ∧ VecR B l' q cp 3 1 IntR ys ∧ ys.Perm xs ∧ IsHeap ys) := by
  refine cBB 23 Tryz.func201 rfl rfl rfl (Nat.le_of_ble_eq_true rfl) ?_
  refine w_block ?_
  refine w_loopE (α := Nat × List Int × Cells) [0] (fun g => [(1, .int .i64 g.1)]) [0, 1] (fun g => [box1 b [.slice q g.2.1.length cp] 188, g.2.2]) (fun g Bx => Bx = B ∧ g.1 < g.2.1.length ∧ g.2.1.Perm xs ∧ HeapBut g.2.1 g.1 ∧ VecR B g.2.2 q cp 3 1 IntR g.2.1) (fun g => g.1) (j, xs, l) ⟨rfl, trivial⟩ rfl (⟨rfl, hj, .refl _, hh, hv⟩) (fun g B1 hle1 hI => ?_)
  obtain ⟨rfl, hk, hp, hb, hv⟩ := hI
  have hpl := hp.length_eq
  refine wTd [(0, _), (1, _)] [_, _] ⟨rfl, rfl, trivial⟩ rfl ?_
  refine w_block ?_
  refine wSR ?_
  refine xMv ?_
  refine oX (w_sub rfl rfl rfl rfl (wrI64 (by omega) (by omega)) ?_)
  refine oX (w_quo (r := (((g.1 - 1) / 2 : Nat) : Int)) rfl rfl rfl rfl (by omega) (by rw [show Int.tdiv ((g.1 : Int) - 1) 2 = (((g.1 - 1) / 2 : Nat) : Int) from tdivP g.1]; exact wrI64 (by omega) (by omega)) ?_)
  refine xAs ?_
  refine wKp [(0, _), (1, _), (4, _)] ⟨rfl, rfl, rfl, trivial⟩ ?_
  refine w_seq ?_
  refine wSR ?_
  refine xMv ?_
  refine xMv ?_
  refine oX (w_eqlI rfl rfl rfl rfl ?_)
  refine xMv ?_
  refine r_split (d := 11) rfl (fun g1 => ?_) (fun g1 => ?_)
  · try simp only [sQ1, sQ2, sQ3, sQ4, sQ5, sQ6, sQ7, sQ8, ne_eq] at g1
    refine oX (w_pass rfl rfl ?_)
    refine oX (w_pass rfl rfl ?_)
    refine oX (w_pass rfl rfl ?_)
    refine oX (w_pass rfl rfl ?_)
    refine oX (w_pass rfl rfl ?_)
    refine oX (w_pickT rfl rfl rfl rfl ?_)
    refine wKp [(0, _), (1, _), (4, _), (17, _)] ⟨rfl, rfl, rfl, rfl, trivial⟩ ?_
    refine wCd (t := true) rfl (fun _ => ?_) (fun h => Bool.noConfusion h)
    refine w_exit (thn_x (inB_miss rfl (rndE_x (inB_hit ?_))))
    exact endN .normal (.inr rfl) [] [0, 1] rfl trivial ⟨rfl, _, _, rfl, hv, hp, up_zero (by rw [show g.1 = 0 from by omega] at hb; exact hb)⟩
  · try simp only [sQ1, sQ2, sQ3, sQ4, sQ5, sQ6, sQ7, sQ8, ne_eq] at g1
    refine xMv ?_
    refine xMv ?_
    refine xMv ?_
    refine oX (w_invR1 1 rfl rfl rfl en269 rfl rfl (found_val mth187Less Tryz.underlying187 lk188 (atL 0 rfl rfl rfl)) (RetB.borrow fun hm2 => idLess_c _ _ _ _ _ _ _ (get_hat (by omega)) (get_hat (by omega)) _ (hv.lend IntR.mono hm2 (by first | omega | (simp; done) | (simp; omega)))) ?_)
    refine oX (w_not rfl rfl rfl ?_)
    refine oX (w_pickF rfl rfl rfl rfl ?_)
    refine wKp [(0, _), (1, _), (4, _), (17, _)] ⟨rfl, rfl, rfl, rfl, trivial⟩ ?_
    refine wCd rfl (fun g2 => ?_) (fun g2 => ?_)
    · try simp only [sQ1, sQ2, sQ3, sQ4, sQ5, sQ6, sQ7, sQ8, ne_eq] at g2
      refine w_exit (thn_x (inB_miss rfl (rndE_x (inB_hit ?_))))
      exact endN .normal (.inr rfl) [] [0, 1] rfl trivial ⟨rfl, _, _, rfl, hv, hp, up_done hb (by simpa using g2)⟩
    · try simp only [sQ1, sQ2, sQ3, sQ4, sQ5, sQ6, sQ7, sQ8, ne_eq] at g2
      refine w_skip ?_
      refine thn_n ?_
      refine wSR ?_
      refine xMv ?_
      refine xMv ?_
      refine xMv ?_
      refine oX (w_invN [1] rfl rfl rfl rfl en272 rfl rfl (found_val mth187Swap Tryz.underlying187 lk188 (atL 0 rfl rfl rfl)) (idSwap_c _ _ _ _ _ _ _ _ (get_hat (by omega)) (get_hat (by omega)) (by omega) _ hv) ?_)
      rintro _ _ _ hle3 ⟨rfl, l3, rfl, hv3⟩
      refine wTd [(0, _), (1, _), (4, _), (17, _)] [_, _] ⟨rfl, rfl, rfl, rfl, trivial⟩ rfl ?_
      refine w_region ?_
      refine xMv ?_
      refine xAs ?_
      refine inB_n ?_
      rw [← swp_len g.2.1 ((g.1 - 1) / 2) g.1]
      exact rndE_n ((g.1 - 1) / 2, (swp g.2.1 ((g.1 - 1) / 2) g.1), l3) [0, 1] (by simp only []; omega) ⟨rfl, by have := swp_len g.2.1 ((g.1 - 1) / 2) g.1; simp only []; omega, (swp_perm (by omega) (by omega)).trans hp, up_step (by omega) (by omega) hb (by simpa using g2), hv3⟩ ⟨rfl, rfl, trivial⟩ rfl

set_option maxRecDepth 4000 in
set_option maxHeartbeats 400000 in
theorem heapPush_c (b : Nat) (q : Option Addr) (cp : Nat) (xs : List Int) (l : Cells) (z : Int) (hn : xs.length < 2000000) (hh : IsHeap xs) (B : Kn) (hv : VecR B l q cp 3 1 IntR xs) : CallsB (pj J) 154 [.iface 187 (ptr ⟨b, 0, none⟩), .iface 3 (.int .i64 z)] B [box1 b [.slice q xs.length cp] 188, l] (fun v B' Ls => B' = B ∧ ∃ q' c' ys l', Ls = [box1 b [.slice q' ys.length c'] 188, l'] ∧ VecR B l' q' c' 3 1 IntR ys ∧ ys.Perm (xs ++ [z]) ∧ IsHeap ys) := by
  refine cBB 12 Tryz.func154 rfl rfl rfl (Nat.le_of_ble_eq_true rfl) ?_
  refine wSR ?_
  refine xMv ?_
  refine xMv ?_
  refine oX (w_invN [0, 1] rfl rfl rfl rfl en271 rfl rfl (found_ptr mth187Push Tryz.underlying187) (idPush_c _ _ _ _ _ _ (by omega) _ hv) ?_)
  rintro _ _ _ hle1 ⟨rfl, q1, c1, l1, rfl, hv1⟩
  refine wTd [(0, _), (1, _)] [_, _] ⟨rfl, rfl, trivial⟩ rfl ?_
  refine w_region ?_
  refine xMv ?_
  refine xMv ?_
  refine oX (w_invR1 1 rfl rfl rfl en268 rfl rfl (found_val mth187Len Tryz.underlying187 lk188 (atL 0 rfl rfl rfl)) (RetB.borrow fun hm2 => idLen_c _ _ _ _) ?_)
  refine oX (w_sub (r := ((xs.length : Nat) : Int)) rfl rfl rfl rfl ((congrArg _ (show _ = ((xs.length : Nat) : Int) from by rw [List.length_append, List.length_singleton]; omega)).trans (wrI64 (by omega) (by omega))) ?_)
  refine oX (w_callN [0, 1] rfl rfl rfl rfl en201 rfl (heapUp_c _ _ _ _ _ _ (by simp) (by simp; omega) (push_but hh) _ hv1) ?_)
  rintro _ _ _ hleu ⟨rfl, ysu, lu, rfl, hvu, hpu, hhu⟩
  exact endN .normal (.inr rfl) [] [0, 1] rfl trivial ⟨rfl, _, _, _, _, rfl, hvu, hpu, hhu⟩

end Go.Proofs.YtgbecfimpgknnaaGreat
