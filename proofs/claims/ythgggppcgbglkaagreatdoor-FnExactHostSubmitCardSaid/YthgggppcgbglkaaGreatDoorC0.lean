/-
  WHAT THE FUNCTIONS THAT THE LAWS REACH COMPUTE: each function's contract, proved off its printed body (the text is written by program). No condition beyond those that each theorem states.
-/
import Derived.Test.YthgggppcgbglkaaGreatDoorRows
import Derived.Test.YthgggppcgbglkaaGreatDoorL0
import Derived.KernelRfl
namespace Go.Proofs.YthgggppcgbglkaaGreatDoor
open Go Go.BL
set_option linter.unusedVariables false
set_option linter.unusedSimpArgs false
noncomputable abbrev pj (J : JoinT) : PJ := ⟨Tryz.prog, J⟩
noncomputable abbrev wgL : Go.Conc.Lib.WgLink := { add := 184, done := 186, wait := 188, relMerge := 206, disable := 207, enable := 208, inBubble := 209, associate := 210, fatal := 211, uOr := 212, uAdd := 213, raceRead := 214, uLoad := 215, uStore := 216, disassociate := 217, semrelease := 218, acquire := 219, isAssociated := 220, uCas := 221, raceWrite := 222, semacquire := 223, orU64 := 231, addU64 := 232, loadU64 := 233, storeU64 := 234, casU64 := 235, tWg := 245, tUP := 268, tAssoc := 269, tAU := 242, tU64 := 240, tUint := 273, tU32 := 243, tNoCopy := 237, tANoCopy := 238, tAlign64 := 239, tWgP := 266, tPU32 := 274, tPAU := 295, tPU64 := 297 }
theorem ZjP : Go.Conc.Lib.WgLib Tryz.prog wgL :=
  ⟨Tryz.func184, Tryz.func186, Tryz.func188, Tryz.func206, Tryz.func207, Tryz.func208, Tryz.func209, Tryz.func210, Tryz.func211, Tryz.func212, Tryz.func213, Tryz.func214, Tryz.func215, Tryz.func216, Tryz.func217, Tryz.func218, Tryz.func219, Tryz.func220, Tryz.func221, Tryz.func222, Tryz.func223, Tryz.func231, Tryz.func232, Tryz.func233, Tryz.func234, Tryz.func235, Tryz.underlying266, Tryz.runUnderlying266, Tryz.sizeOf266, Tryz.isAgg266, Tryz.zeroValue266, Tryz.underlying268, Tryz.runUnderlying268, Tryz.sizeOf268, Tryz.isAgg268, Tryz.zeroValue268, Tryz.underlying269, Tryz.runUnderlying269, Tryz.sizeOf269, Tryz.isAgg269, Tryz.zeroValue269, Tryz.underlying245, Tryz.runUnderlying245, Tryz.sizeOf245, Tryz.isAgg245, Tryz.zeroValue245, Tryz.underlying242, Tryz.runUnderlying242, Tryz.sizeOf242, Tryz.isAgg242, Tryz.zeroValue242, Tryz.underlying240, Tryz.runUnderlying240, Tryz.sizeOf240, Tryz.isAgg240, Tryz.zeroValue240, Tryz.underlying273, Tryz.runUnderlying273, Tryz.sizeOf273, Tryz.isAgg273, Tryz.zeroValue273, Tryz.underlying243, Tryz.runUnderlying243, Tryz.sizeOf243, Tryz.isAgg243, Tryz.zeroValue243, Tryz.underlying274, Tryz.runUnderlying274, Tryz.sizeOf274, Tryz.isAgg274, Tryz.zeroValue274, Tryz.underlying295, Tryz.runUnderlying295, Tryz.sizeOf295, Tryz.isAgg295, Tryz.zeroValue295, Tryz.underlying297, Tryz.runUnderlying297, Tryz.sizeOf297, Tryz.isAgg297, Tryz.zeroValue297, Tryz.underlying0, Tryz.runUnderlying0, Tryz.sizeOf0, Tryz.isAgg0, Tryz.zeroValue0, Tryz.underlying3, Tryz.runUnderlying3, Tryz.sizeOf3, Tryz.isAgg3, Tryz.zeroValue3, Tryz.underlying4, Tryz.runUnderlying4, Tryz.sizeOf4, Tryz.isAgg4, Tryz.zeroValue4, Tryz.underlying9, Tryz.runUnderlying9, Tryz.sizeOf9, Tryz.isAgg9, Tryz.zeroValue9, Tryz.underlying20, Tryz.runUnderlying20, Tryz.sizeOf20, Tryz.isAgg20, Tryz.zeroValue20, Tryz.underlying21, Tryz.runUnderlying21, Tryz.sizeOf21, Tryz.isAgg21, Tryz.zeroValue21, (by kernel_rfl), (by kernel_rfl)⟩
theorem ZpO : enters Tryz.prog 90 = true := by kernel_rfl
theorem mo : Tryz.prog.follows .mixedOrders = true := by kernel_rfl
theorem ZbP : ZH Tryz.prog 158 1 = some 1 := by kernel_rfl
theorem lk3 : lk Tryz.prog 3 = some none := by kernel_rfl
theorem ZfY : ZH Tryz.prog 158 0 = some 0 := by kernel_rfl
theorem lk9 : lk Tryz.prog 9 = some none := by kernel_rfl
theorem ZpP : enters Tryz.prog 124 = true := by kernel_rfl
theorem sz3 : Z6 Tryz.prog 3 = some 1 := by kernel_rfl
theorem ZuZ : enters Tryz.prog 172 = true := by kernel_rfl
theorem ZrP : enters Tryz.prog 123 = true := by kernel_rfl
theorem ZuB : enters Tryz.prog 205 = true := by kernel_rfl
theorem ZsI : Zb2 Tryz.prog 158 = some [(0, 1), (1, 1)] := by kernel_rfl
theorem ZoJ : ZaB Tryz.prog 158 = some (.agg #[.string ⟨#[]⟩, .int .i64 0]) := by kernel_rfl
theorem ZsC : Z6 Tryz.prog 158 = some 2 := by kernel_rfl
theorem sz9 : Z6 Tryz.prog 9 = some 1 := by kernel_rfl
theorem zo9 : ZaB Tryz.prog 9 = some (.string ⟨#[]⟩) := by kernel_rfl
theorem ZrL : ZcH Tryz.prog 43 9 1 16 = true := by kernel_rfl
theorem Zr0 : (match Program.underlying Tryz.prog 43 with | some (.slice _) => true | _ => false) = true := by kernel_rfl
theorem Zvl : enters Tryz.prog 141 = true := by kernel_rfl
theorem ZrO : enters Tryz.prog 70 = true := by kernel_rfl
theorem Zbs : Z6 Tryz.prog 123 = some 3 := by kernel_rfl
theorem Zbe : ZH Tryz.prog 123 0 = some 0 := by kernel_rfl
theorem Zvt : enters Tryz.prog 130 = true := by kernel_rfl
theorem Zfz : ZH Tryz.prog 48 0 = some 0 := by kernel_rfl
theorem Zeo : ZH Tryz.prog 48 1 = some 1 := by kernel_rfl
theorem Zgs : lk Tryz.prog 43 = some none := by kernel_rfl
theorem Zvy : enters Tryz.prog 115 = true := by kernel_rfl
theorem Zg9 : ZH Tryz.prog 48 2 = some 2 := by kernel_rfl
theorem Zvr : enters Tryz.prog 133 = true := by kernel_rfl
theorem Zr2 : enters Tryz.prog 72 = true := by kernel_rfl
theorem Zu3 : enters Tryz.prog 164 = true := by kernel_rfl
theorem Zvx : enters Tryz.prog 116 = true := by kernel_rfl
theorem Zba : ZH Tryz.prog 34 1 = some 1 := by kernel_rfl
theorem Zgt : lk Tryz.prog 32 = some none := by kernel_rfl
theorem Zbl : Z6 Tryz.prog 126 = some 4 := by kernel_rfl
theorem Zd4 : lk Tryz.prog 126 = some (some 4) := by kernel_rfl
theorem Zde : ZaB Tryz.prog 126 = some (.agg #[.int .i64 0, .string ⟨#[]⟩, .string ⟨#[]⟩, .slice none 0 0]) := by kernel_rfl
theorem ZdX : ZH Tryz.prog 126 0 = some 0 := by kernel_rfl
theorem ZdW : ZH Tryz.prog 126 1 = some 1 := by kernel_rfl
theorem Zcj : ZH Tryz.prog 126 3 = some 3 := by kernel_rfl
theorem Ze8 : ZH Tryz.prog 126 2 = some 2 := by kernel_rfl
theorem ZvS : Zb2 Tryz.prog 48 = some [(0, 1), (1, 1), (2, 1)] := by kernel_rfl
theorem Zp9 : ZaB Tryz.prog 48 = some (.agg #[.string ⟨#[]⟩, .slice none 0 0, .string ⟨#[]⟩]) := by kernel_rfl
theorem Zuu : enters Tryz.prog 56 = true := by kernel_rfl
theorem Zcw : ZH Tryz.prog 34 0 = some 0 := by kernel_rfl
theorem Zhp : ZaB Tryz.prog 34 = some (.agg #[.int .i64 0, .slice none 0 0]) := by kernel_rfl
theorem Zr1 : Zb2 Tryz.prog 34 = some [(0, 1), (1, 1)] := by kernel_rfl
theorem ZfM : Z6 Tryz.prog 34 = some 2 := by kernel_rfl
theorem ZtC : Z6 Tryz.prog 43 = some 1 := by kernel_rfl
theorem Ztd : ZcH Tryz.prog 32 126 4 64 = true := by kernel_rfl
theorem ZtD : (match Program.underlying Tryz.prog 32 with | some (.slice _) => true | _ => false) = true := by kernel_rfl
theorem Zsx : Z6 Tryz.prog 32 = some 1 := by kernel_rfl
theorem Zdg : lk Tryz.prog 34 = some (some 2) := by kernel_rfl
theorem ZvY : enters Tryz.prog 87 = true := by kernel_rfl
theorem ZhQ : lk Tryz.prog 48 = some (some 3) := by kernel_rfl
theorem ZhZ : enters Tryz.prog 91 = true := by kernel_rfl
theorem ZsJ : Zb2 Tryz.prog 126 = some [(0, 1), (1, 1), (2, 1), (3, 1)] := by kernel_rfl
theorem ZtV : ZaB Tryz.prog 167 = some (.pointer none) := by kernel_rfl
theorem ZuX : enters Tryz.prog 175 = true := by kernel_rfl
theorem ZuE : enters Tryz.prog 202 = true := by kernel_rfl
theorem Zri : lk Tryz.prog 167 = some none := by kernel_rfl
theorem Ztj : enters Tryz.prog 119 = true := by kernel_rfl
theorem Zue : Zb2 Tryz.prog 171 = some [(0, 4), (4, 1)] := by kernel_rfl
theorem ZtU : ZaB Tryz.prog 171 = some (.agg #[.int .i64 0, .string ⟨#[]⟩, .string ⟨#[]⟩, .slice none 0 0, .pointer none]) := by kernel_rfl
theorem Zuc : Z6 Tryz.prog 167 = some 1 := by kernel_rfl
theorem ZrA : ZH Tryz.prog 171 0 = some 0 := by kernel_rfl
theorem Zrz : ZH Tryz.prog 171 1 = some 4 := by kernel_rfl
theorem Zvs : enters Tryz.prog 132 = true := by kernel_rfl
theorem Zvq : enters Tryz.prog 135 = true := by kernel_rfl
theorem ZeJ : lk Tryz.prog 253 = some none := by kernel_rfl
theorem zo3 : ZaB Tryz.prog 3 = some (.int .i64 0) := by kernel_rfl
theorem Zuq : ZcH Tryz.prog 253 3 1 8 = true := by kernel_rfl
theorem Zud : (match Program.underlying Tryz.prog 253 with | some (.slice _) => true | _ => false) = true := by kernel_rfl
theorem Zsz : Z6 Tryz.prog 253 = some 1 := by kernel_rfl
theorem Zdv : Zil Tryz.prog 251 "Less" 284 false = true := by kernel_rfl
theorem Zop : enters Tryz.prog 284 = true := by kernel_rfl
theorem Zdu : Zil Tryz.prog 251 "Swap" 287 false = true := by kernel_rfl
theorem Zoo : enters Tryz.prog 287 = true := by kernel_rfl
theorem ZlZ : Zil Tryz.prog 251 "Push" 286 true = true := by kernel_rfl
theorem Zuv : enters Tryz.prog 286 = true := by kernel_rfl
theorem Zi8 : Zil Tryz.prog 251 "Len" 283 false = true := by kernel_rfl
theorem Ztf : enters Tryz.prog 283 = true := by kernel_rfl
theorem Zuy : enters Tryz.prog 229 = true := by kernel_rfl
theorem Zux : enters Tryz.prog 230 = true := by kernel_rfl
theorem Znx : Zil Tryz.prog 251 "Pop" 285 true = true := by kernel_rfl
theorem Zuw : enters Tryz.prog 285 = true := by kernel_rfl
theorem ZuI : enters Tryz.prog 196 = true := by kernel_rfl
theorem ZuH : enters Tryz.prog 197 = true := by kernel_rfl
theorem Zut : enters Tryz.prog 60 = true := by kernel_rfl
theorem Zu2 : enters Tryz.prog 165 = true := by kernel_rfl
theorem Ztl : enters Tryz.prog 117 = true := by kernel_rfl
theorem Ztk : enters Tryz.prog 118 = true := by kernel_rfl
theorem ZcA : ZH Tryz.prog 205 0 = some 0 := by kernel_rfl
theorem Ze7 : ZH Tryz.prog 205 1 = some 1 := by kernel_rfl
theorem Zwx : enters Tryz.prog 65 = true := by kernel_rfl
theorem ZdU : ZH Tryz.prog 205 2 = some 2 := by kernel_rfl
theorem Zww : enters Tryz.prog 67 = true := by kernel_rfl
theorem Zb8 : ZH Tryz.prog 73 1 = some 1 := by kernel_rfl
theorem ZjN : lk Tryz.prog 71 = some none := by kernel_rfl
theorem Zdf : Z6 Tryz.prog 205 = some 3 := by kernel_rfl
theorem Zjg : lk Tryz.prog 205 = some (some 3) := by kernel_rfl
theorem ZuU : enters Tryz.prog 178 = true := by kernel_rfl
theorem Zfy : ZH Tryz.prog 73 0 = some 0 := by kernel_rfl
theorem ZjO : ZaB Tryz.prog 205 = some (.agg #[.int .i64 0, .int .i64 0, .string ⟨#[]⟩]) := by kernel_rfl
theorem ZuF : enters Tryz.prog 199 = true := by kernel_rfl
theorem Zlh : lk Tryz.prog 73 = some (some 2) := by kernel_rfl
theorem Ztg : enters Tryz.prog 167 = true := by kernel_rfl
theorem Ze9 : ZH Tryz.prog 123 1 = some 1 := by kernel_rfl
theorem Zdi : ZH Tryz.prog 123 2 = some 2 := by kernel_rfl
theorem ZeK : lk Tryz.prog 123 = some (some 3) := by kernel_rfl
theorem ZdF : ZaB Tryz.prog 123 = some (.agg #[.string ⟨#[]⟩, .string ⟨#[]⟩, .int .i64 0]) := by kernel_rfl
theorem ZuQ : enters Tryz.prog 183 = true := by kernel_rfl
theorem Zth : enters Tryz.prog 150 = true := by kernel_rfl
theorem Zuf : Zb2 Tryz.prog 123 = some [(0, 1), (1, 1), (2, 1)] := by kernel_rfl
theorem Zu9 : enters Tryz.prog 156 = true := by kernel_rfl
theorem Zu8 : enters Tryz.prog 157 = true := by kernel_rfl
theorem ZbW : ZH Tryz.prog 36 1 = some 1 := by kernel_rfl
theorem Zio : lk Tryz.prog 30 = some none := by kernel_rfl
theorem Ztm : enters Tryz.prog 102 = true := by kernel_rfl
theorem Za5 : ZH Tryz.prog 36 2 = some 2 := by kernel_rfl
theorem Zgf : lk Tryz.prog 31 = some none := by kernel_rfl
theorem Zcr : Z6 Tryz.prog 75 = some 5 := by kernel_rfl
theorem Zcv : ZH Tryz.prog 75 0 = some 0 := by kernel_rfl
theorem Zdy : ZH Tryz.prog 75 1 = some 1 := by kernel_rfl
theorem ZhP : lk Tryz.prog 75 = some (some 5) := by kernel_rfl
theorem Zvv : enters Tryz.prog 125 = true := by kernel_rfl
theorem Zvu : enters Tryz.prog 126 = true := by kernel_rfl
theorem Zb9 : ZH Tryz.prog 36 3 = some 3 := by kernel_rfl
theorem ZtJ : enters Tryz.prog 44 = true := by kernel_rfl
theorem Zec : Z6 Tryz.prog 133 = some 2 := by kernel_rfl
theorem ZcB : ZH Tryz.prog 133 0 = some 0 := by kernel_rfl
theorem ZdV : ZH Tryz.prog 133 1 = some 1 := by kernel_rfl
theorem ZtK : enters Tryz.prog 35 = true := by kernel_rfl
theorem ZcX : ZH Tryz.prog 75 3 = some 3 := by kernel_rfl
theorem Zvj : enters Tryz.prog 143 = true := by kernel_rfl
theorem ZfG : ZaB Tryz.prog 75 = some (.agg #[.string ⟨#[]⟩, .string ⟨#[]⟩, .slice none 0 0, .int .i64 0, .slice none 0 0]) := by kernel_rfl
theorem Zen : ZH Tryz.prog 75 2 = some 2 := by kernel_rfl
theorem Zqr : lk Tryz.prog 68 = some none := by kernel_rfl
theorem Zwk : enters Tryz.prog 94 = true := by kernel_rfl
theorem Zvk : enters Tryz.prog 142 = true := by kernel_rfl
theorem Zwv : enters Tryz.prog 71 = true := by kernel_rfl
theorem Zha : ZH Tryz.prog 36 0 = some 0 := by kernel_rfl
theorem Zwp : enters Tryz.prog 85 = true := by kernel_rfl
theorem Zwo : enters Tryz.prog 86 = true := by kernel_rfl
theorem Zaz : lk Tryz.prog 36 = some (some 5) := by kernel_rfl
theorem Zwn : enters Tryz.prog 88 = true := by kernel_rfl
theorem ZwO : enters Tryz.prog 33 = true := by kernel_rfl
theorem Zwm : enters Tryz.prog 89 = true := by kernel_rfl
theorem Zv2 : enters Tryz.prog 57 = true := by kernel_rfl
theorem ZnC : lk Tryz.prog 133 = some (some 2) := by kernel_rfl
theorem ZlB : ZaB Tryz.prog 133 = some (.agg #[.string ⟨#[]⟩, .int .i64 0]) := by kernel_rfl
theorem ZwJ : enters Tryz.prog 41 = true := by kernel_rfl
theorem ZvI : enters Tryz.prog 103 = true := by kernel_rfl
theorem Zs6 : Extern.findNext Tryz.f200 = none := by kernel_rfl
theorem Zs7 : Extern.find Tryz.f200 = some Extern.BytealgCompare.compare := by kernel_rfl
theorem ZuY : enters Tryz.prog 173 = true := by kernel_rfl
theorem Zti : enters Tryz.prog 127 = true := by kernel_rfl
theorem ZuG : enters Tryz.prog 198 = true := by kernel_rfl
theorem Zu1 : enters Tryz.prog 166 = true := by kernel_rfl
theorem Zwu : enters Tryz.prog 74 = true := by kernel_rfl
theorem Zvw : enters Tryz.prog 121 = true := by kernel_rfl
theorem sz4 : Z6 Tryz.prog 4 = some 1 := by kernel_rfl
theorem lk4 : lk Tryz.prog 4 = some none := by kernel_rfl
theorem ZuA : enters Tryz.prog 224 = true := by kernel_rfl
theorem ZuR : enters Tryz.prog 182 = true := by kernel_rfl
theorem ZsQ : lk Tryz.prog 235 = some none := by kernel_rfl
theorem Zuh : lk Tryz.prog 80 = some none := by kernel_rfl
theorem ZuO : enters Tryz.prog 187 = true := by kernel_rfl
theorem ZtP : ZaB Tryz.prog 245 = some (.agg #[.int .u64 0, .int .u32 0]) := by kernel_rfl
theorem Zur : ZcH Tryz.prog 235 4 1 1 = true := by kernel_rfl
theorem zo4 : ZaB Tryz.prog 4 = some (.bool false) := by kernel_rfl
theorem ZtQ : ZaB Tryz.prog 235 = some (.slice none 0 0) := by kernel_rfl
theorem Zub : Z6 Tryz.prog 235 = some 1 := by kernel_rfl
theorem ZuP : enters Tryz.prog 184 = true := by kernel_rfl
theorem ZuN : enters Tryz.prog 188 = true := by kernel_rfl
theorem ZuM : enters Tryz.prog 189 = true := by kernel_rfl
theorem Zve : enters Tryz.prog 149 = true := by kernel_rfl
theorem Zwt : enters Tryz.prog 75 = true := by kernel_rfl
theorem Zvd : enters Tryz.prog 151 = true := by kernel_rfl
theorem Zvc : enters Tryz.prog 152 = true := by kernel_rfl
theorem Zvb : enters Tryz.prog 153 = true := by kernel_rfl
theorem Zob : ZH Tryz.prog 112 0 = some 0 := by kernel_rfl
theorem Zoa : ZH Tryz.prog 112 1 = some 1 := by kernel_rfl
theorem Zn1 : ZH Tryz.prog 229 0 = some 0 := by kernel_rfl
theorem Zn0 : ZH Tryz.prog 264 2 = some 2 := by kernel_rfl
theorem ZsE : Z6 Tryz.prog 112 = some 3 := by kernel_rfl
theorem ZsX : lk Tryz.prog 112 = some (some 3) := by kernel_rfl
theorem Zws : enters Tryz.prog 82 = true := by kernel_rfl
theorem ZsA : Z6 Tryz.prog 229 = some 2 := by kernel_rfl
theorem ZsR : lk Tryz.prog 229 = some (some 2) := by kernel_rfl
theorem ZuW : enters Tryz.prog 176 = true := by kernel_rfl
theorem Zsy : Z6 Tryz.prog 264 = some 3 := by kernel_rfl
theorem ZsP : lk Tryz.prog 264 = some (some 3) := by kernel_rfl
theorem ZuD : enters Tryz.prog 203 = true := by kernel_rfl
theorem Zn4 : ZH Tryz.prog 183 1 = some 1 := by kernel_rfl
theorem Zn3 : ZH Tryz.prog 183 2 = some 2 := by kernel_rfl
theorem Zn2 : ZH Tryz.prog 183 3 = some 3 := by kernel_rfl
theorem Zv3 : enters Tryz.prog 55 = true := by kernel_rfl
theorem ZsB : Z6 Tryz.prog 183 = some 4 := by kernel_rfl
theorem ZsS : lk Tryz.prog 183 = some (some 4) := by kernel_rfl
theorem Zvm : enters Tryz.prog 140 = true := by kernel_rfl
theorem Zn9 : ZH Tryz.prog 117 1 = some 1 := by kernel_rfl
theorem ZsV : lk Tryz.prog 115 = some none := by kernel_rfl
theorem ZuV : enters Tryz.prog 177 = true := by kernel_rfl
theorem ZqB : ZH Tryz.prog 26 1 = some 1 := by kernel_rfl
theorem ZvV : lk Tryz.prog 24 = some none := by kernel_rfl
theorem Zwq : enters Tryz.prog 84 = true := by kernel_rfl
theorem Zn8 : ZH Tryz.prog 119 0 = some 0 := by kernel_rfl
theorem Zn7 : ZH Tryz.prog 119 1 = some 1 := by kernel_rfl
theorem Zn6 : ZH Tryz.prog 119 2 = some 2 := by kernel_rfl
theorem ZsW : lk Tryz.prog 114 = some none := by kernel_rfl
theorem Zvo : enters Tryz.prog 138 = true := by kernel_rfl
theorem Zn5 : ZH Tryz.prog 119 3 = some 3 := by kernel_rfl
theorem ZsU : lk Tryz.prog 117 = some (some 2) := by kernel_rfl
theorem Zvn : enters Tryz.prog 139 = true := by kernel_rfl
theorem ZsD : Z6 Tryz.prog 119 = some 5 := by kernel_rfl
theorem ZsT : lk Tryz.prog 119 = some (some 5) := by kernel_rfl
theorem Zwr : enters Tryz.prog 83 = true := by kernel_rfl
theorem ZqA : ZH Tryz.prog 28 0 = some 0 := by kernel_rfl
theorem Zqz : ZH Tryz.prog 28 1 = some 1 := by kernel_rfl
theorem ZvX : lk Tryz.prog 22 = some none := by kernel_rfl
theorem ZwT : enters Tryz.prog 27 = true := by kernel_rfl
theorem Zqy : ZH Tryz.prog 28 2 = some 2 := by kernel_rfl
theorem ZvW : lk Tryz.prog 23 = some none := by kernel_rfl
theorem ZwS : enters Tryz.prog 28 = true := by kernel_rfl
theorem Zqx : ZH Tryz.prog 28 3 = some 3 := by kernel_rfl
theorem ZvU : lk Tryz.prog 26 = some (some 2) := by kernel_rfl
theorem ZwR : enters Tryz.prog 29 = true := by kernel_rfl
theorem ZrC : ZH Tryz.prog 112 2 = some 2 := by kernel_rfl
theorem Zrx : ZH Tryz.prog 229 1 = some 1 := by kernel_rfl
theorem Zrw : ZH Tryz.prog 264 0 = some 0 := by kernel_rfl
theorem Zrv : ZH Tryz.prog 264 1 = some 1 := by kernel_rfl
theorem Zml : ZcH Tryz.prog 30 123 3 40 = true := by kernel_rfl
theorem Zwj : enters Tryz.prog 95 = true := by kernel_rfl
theorem Zup : ZcH Tryz.prog 68 133 2 24 = true := by kernel_rfl
theorem ZuT : enters Tryz.prog 180 = true := by kernel_rfl
theorem Zuo : ZcH Tryz.prog 71 205 3 32 = true := by kernel_rfl
theorem ZuC : enters Tryz.prog 204 = true := by kernel_rfl
theorem Zry : ZH Tryz.prog 183 0 = some 0 := by kernel_rfl
theorem Zv1 : enters Tryz.prog 59 = true := by kernel_rfl
theorem Zvf : enters Tryz.prog 148 = true := by kernel_rfl
theorem Zs4 : ZH Tryz.prog 26 0 = some 0 := by kernel_rfl
theorem Zwh : enters Tryz.prog 97 = true := by kernel_rfl
theorem Zr4 : ZaB Tryz.prog 73 = some (.agg #[.int .i64 0, .slice none 0 0]) := by kernel_rfl
theorem ZrB : ZH Tryz.prog 117 0 = some 0 := by kernel_rfl
theorem ZuS : enters Tryz.prog 181 = true := by kernel_rfl
theorem ZvN : Z6 Tryz.prog 71 = some 1 := by kernel_rfl
theorem ZrZ : Z6 Tryz.prog 73 = some 2 := by kernel_rfl
theorem Zvh : enters Tryz.prog 146 = true := by kernel_rfl
theorem Zua : Z6 Tryz.prog 68 = some 1 := by kernel_rfl
theorem Zvg : enters Tryz.prog 147 = true := by kernel_rfl
theorem ZtH : ZcH Tryz.prog 31 75 5 88 = true := by kernel_rfl
theorem Zwi : enters Tryz.prog 96 = true := by kernel_rfl
theorem Zbj : ZaB Tryz.prog 36 = some (.agg #[.string ⟨#[]⟩, .slice none 0 0, .slice none 0 0, .int .i64 0, .slice none 0 0]) := by kernel_rfl
theorem ZwN : enters Tryz.prog 37 = true := by kernel_rfl
theorem Zv8 : Z6 Tryz.prog 30 = some 1 := by kernel_rfl
theorem ZwM : enters Tryz.prog 38 = true := by kernel_rfl
theorem ZvO : Z6 Tryz.prog 31 = some 1 := by kernel_rfl
theorem ZwL : enters Tryz.prog 39 = true := by kernel_rfl
theorem ZbN : Z6 Tryz.prog 36 = some 5 := by kernel_rfl
theorem ZvH : enters Tryz.prog 105 = true := by kernel_rfl
theorem ZuK : enters Tryz.prog 194 = true := by kernel_rfl
theorem Zuz : enters Tryz.prog 228 = true := by kernel_rfl
theorem Zv0 : enters Tryz.prog 63 = true := by kernel_rfl
theorem Zu5 : enters Tryz.prog 162 = true := by kernel_rfl
theorem ZvF : enters Tryz.prog 107 = true := by kernel_rfl
theorem ZuJ : enters Tryz.prog 195 = true := by kernel_rfl
theorem Zu7 : enters Tryz.prog 160 = true := by kernel_rfl
theorem Zu6 : enters Tryz.prog 161 = true := by kernel_rfl
theorem ZvG : enters Tryz.prog 106 = true := by kernel_rfl
theorem ZwI : enters Tryz.prog 46 = true := by kernel_rfl
theorem ZwH : enters Tryz.prog 47 = true := by kernel_rfl
theorem ZwG : enters Tryz.prog 48 = true := by kernel_rfl
theorem ZvP : (match Program.underlying Tryz.prog 71 with | some (.slice _) => true | _ => false) = true := by kernel_rfl
theorem Zwa : Zb2 Tryz.prog 73 = some [(0, 1), (1, 1)] := by kernel_rfl
theorem ZvQ : (match Program.underlying Tryz.prog 68 with | some (.slice _) => true | _ => false) = true := by kernel_rfl
theorem Zu0 : enters Tryz.prog 168 = true := by kernel_rfl
theorem sz5 : Z6 Tryz.prog 5 = some 1 := by kernel_rfl
theorem zo5 : ZaB Tryz.prog 5 = some (.int .u8 0) := by kernel_rfl
theorem Zd7 : enters Tryz.prog 108 = true := by kernel_rfl
theorem Zvi : enters Tryz.prog 144 = true := by kernel_rfl
theorem Zmx : (match Program.underlying Tryz.prog 30 with | some (.slice _) => true | _ => false) = true := by kernel_rfl
theorem Zgm : Zb2 Tryz.prog 36 = some [(0, 1), (1, 1), (2, 1), (3, 2)] := by kernel_rfl
theorem Zwl : enters Tryz.prog 92 = true := by kernel_rfl
theorem ZvR : (match Program.underlying Tryz.prog 31 with | some (.slice _) => true | _ => false) = true := by kernel_rfl
theorem ZwP : enters Tryz.prog 32 = true := by kernel_rfl
theorem ZwQ : enters Tryz.prog 30 = true := by kernel_rfl
theorem Zwz : enters Tryz.prog 58 = true := by kernel_rfl
theorem Zqw : ZH Tryz.prog 45 0 = some 0 := by kernel_rfl
theorem Zqv : ZH Tryz.prog 45 1 = some 1 := by kernel_rfl
theorem Zqu : ZH Tryz.prog 45 2 = some 2 := by kernel_rfl
theorem Zsv : Z6 Tryz.prog 48 = some 3 := by kernel_rfl
theorem ZvZ : enters Tryz.prog 64 = true := by kernel_rfl
theorem ZvE : enters Tryz.prog 109 = true := by kernel_rfl
theorem ZvD : enters Tryz.prog 110 = true := by kernel_rfl
theorem ZvC : enters Tryz.prog 111 = true := by kernel_rfl
theorem ZwF : enters Tryz.prog 49 = true := by kernel_rfl
theorem ZwE : enters Tryz.prog 50 = true := by kernel_rfl
theorem ZwD : enters Tryz.prog 51 = true := by kernel_rfl
theorem ZvB : enters Tryz.prog 112 = true := by kernel_rfl
theorem ZvA : enters Tryz.prog 113 = true := by kernel_rfl
theorem Zu4 : enters Tryz.prog 163 = true := by kernel_rfl
theorem Zvz : enters Tryz.prog 114 = true := by kernel_rfl
theorem ZwC : enters Tryz.prog 52 = true := by kernel_rfl
theorem ZwB : enters Tryz.prog 53 = true := by kernel_rfl
theorem ZwA : enters Tryz.prog 54 = true := by kernel_rfl
theorem Zv4 : (Tryz.prog.info? 321).map (·.comparable) = some true := by kernel_rfl
theorem Zsw : Z6 Tryz.prog 345 = some 1 := by kernel_rfl
theorem ZtT : ZaB Tryz.prog 220 = some (.nilIface) := by kernel_rfl
theorem ZtS : ZaB Tryz.prog 223 = some (.nilIface) := by kernel_rfl
theorem ZtR : ZaB Tryz.prog 225 = some (.nilIface) := by kernel_rfl
theorem Zvp : enters Tryz.prog 137 = true := by kernel_rfl
theorem Zqq : lk Tryz.prog 82 = some none := by kernel_rfl
theorem ZtI : enters Tryz.prog 81 = true := by kernel_rfl
theorem ZuL : enters Tryz.prog 190 = true := by kernel_rfl
theorem Zva : enters Tryz.prog 154 = true := by kernel_rfl
theorem Zwg : enters Tryz.prog 98 = true := by kernel_rfl
theorem Zwf : enters Tryz.prog 99 = true := by kernel_rfl
theorem ZvJ : enters Tryz.prog 100 = true := by kernel_rfl
theorem Zus : enters Tryz.prog 62 = true := by kernel_rfl
theorem Zwy : enters Tryz.prog 61 = true := by kernel_rfl
theorem ZwK : enters Tryz.prog 40 = true := by kernel_rfl
theorem Zlj : lk Tryz.prog 28 = some (some 5) := by kernel_rfl
theorem en8 : enters Tryz.prog 8 = true := by kernel_rfl
theorem Zli : lk Tryz.prog 45 = some (some 3) := by kernel_rfl
theorem ZwU : enters Tryz.prog 15 = true := by kernel_rfl
theorem ZiJ : enters Tryz.prog 10 = true := by kernel_rfl
theorem Zhg : enters Tryz.prog 17 = true := by kernel_rfl
theorem ZtN : enters Tryz.prog 16 = true := by kernel_rfl
theorem Zh0 : enters Tryz.prog 18 = true := by kernel_rfl
theorem ZfH : enters Tryz.prog 12 = true := by kernel_rfl
theorem ZtM : enters Tryz.prog 19 = true := by kernel_rfl
theorem ZqC : enters Tryz.prog 13 = true := by kernel_rfl
theorem ZtL : enters Tryz.prog 20 = true := by kernel_rfl
theorem Zh1 : enters Tryz.prog 14 = true := by kernel_rfl
set_option maxRecDepth 4000
variable {J : JoinT}
abbrev cur (b : Nat) (l : List UInt8) (i : Nat) : Cells := ZaE b [str l, .int .i64 i] 158
set_option maxHeartbeats 400000 in
theorem Zft (n lo hi:Int) (B:Kn):Z8 (pj J) 90 [.int .i64 n,.int .i64 lo,.int .i64 hi] B (.bool (decide (lo≤n) && decide (n≤hi))):=by
 refine Zd 15 Tryz.func90 rfl rfl rfl (Nat.le_of_ble_eq_true rfl) ?_
 refine Za (xA (h:=Zab [(0,_),(1,_),(2,_),(6,_)] t4 (Za (xM (h:=xM (h:=Zd9 (h:=xM (h:=ZC (d:=10) rfl (fun g1=>?_) (fun g1=>?_)))))))))
 try simp only [sQ,ne_eq] at g1
 refine xM (h:=xM (h:=Zca (h:=xT (h:=xA (h:=Zab [(0,_),(1,_),(2,_),(6,_)] t4 (Zj ?_))))))
 exact ZK .ret (.inl rfl) [_] t1 ⟨by exact Zk (by rw [Bool.eq_iff_iff];simp [];omega),rfl,rfl⟩
 try simp only [sQ,ne_eq] at g1
 refine xP (h:=xP (h:=xP (h:=xF (h:=xA (h:=Zab [(0,_),(1,_),(2,_),(6,_)] t4 (Zj ?_))))))
 exact ZK .ret (.inl rfl) [_] t1 ⟨by exact Zk (by rw [Bool.eq_iff_iff];simp [];omega),rfl,rfl⟩

set_option maxHeartbeats 400000 in
theorem ZlY (c:UInt8) (B:Kn):Z8 (pj J) 172 [.int .u8 c.toNat] B (.bool (Zbm c)):=by
 refine Zd 17 Tryz.func172 rfl rfl rfl (Nat.le_of_ble_eq_true rfl) ?_
 refine Za (xA (h:=Zab [(0,_),(2,_)] t2 (Za (xM (h:=Zd9 (h:=xM (h:=ZC (d:=5) rfl (fun g1=>?_) (fun g1=>?_))))))))
 try simp only [sQ,ne_eq] at g1
 refine xM (h:=Zca (h:=xT (h:=xM (h:=ZC (d:=9) rfl (fun g2=>?_) (fun g2=>?_)))))
 try simp only [sQ,ne_eq] at g2
 refine xP (h:=xP (h:=xP (h:=xP (h:=xP (h:=xP (h:=xT (h:=xA (h:=Zab [(0,_),(2,_)] t2 (Zj ?_)))))))))
 exact ZK .ret (.inl rfl) [_] t1 ⟨by exact Zk (by rw [Bool.eq_iff_iff];simp [Zbm];omega),rfl,rfl⟩
 try simp only [sQ,ne_eq] at g2
 refine xM (h:=Zd9 (h:=xM (h:=ZC (d:=12) rfl (fun g3=>?_) (fun g3=>?_))))
 try simp only [sQ,ne_eq] at g3
 refine xM (h:=Zca (h:=xT (h:=xF (h:=xA (h:=Zab [(0,_),(2,_)] t2 (Zj ?_))))))
 exact ZK .ret (.inl rfl) [_] t1 ⟨by exact Zk (by rw [Bool.eq_iff_iff];simp [Zbm];omega),rfl,rfl⟩
 try simp only [sQ,ne_eq] at g3
 refine xP (h:=xP (h:=xF (h:=xF (h:=xA (h:=Zab [(0,_),(2,_)] t2 (Zj ?_))))))
 exact ZK .ret (.inl rfl) [_] t1 ⟨by exact Zk (by rw [Bool.eq_iff_iff];simp [Zbm];omega),rfl,rfl⟩
 try simp only [sQ,ne_eq] at g1
 refine xP (h:=xP (h:=xF (h:=xM (h:=xM (h:=Zd9 (h:=xM (h:=ZC (d:=12) rfl (fun g4=>?_) (fun g4=>?_))))))))
 try simp only [sQ,ne_eq] at g4
 refine xM (h:=Zca (h:=xT (h:=xF (h:=xA (h:=Zab [(0,_),(2,_)] t2 (Zj ?_))))))
 exact ZK .ret (.inl rfl) [_] t1 ⟨by exact Zk (by rw [Bool.eq_iff_iff];simp [Zbm];omega),rfl,rfl⟩
 try simp only [sQ,ne_eq] at g4
 refine xP (h:=xP (h:=xF (h:=xF (h:=xA (h:=Zab [(0,_),(2,_)] t2 (Zj ?_))))))
 exact ZK .ret (.inl rfl) [_] t1 ⟨by exact Zk (by rw [Bool.eq_iff_iff];simp [Zbm];omega),rfl,rfl⟩

set_option maxHeartbeats 400000 in
theorem Zcc (l:List UInt8) (hl:l.length≤2000000) (B:Kn):Z8 (pj J) 70 [str l] B (.bool (ZaV l)):=by
 refine Zd 37 Tryz.func70 rfl rfl rfl (Nat.le_of_ble_eq_true rfl) ?_
 refine Za (xA (h:=Zab [(0,_),(2,_)] t2 (Zh (Za (xA (h:=Zab [(0,_),(2,_),(3,_)] t3 (Zm (ZiL (α:=Nat) (fun k=>[(0,str l),(3,.int .i64 k)]) (fun k=>[]) (fun k Bx=>Bx=B∧k≤l.length∧(l.take k).all Zbm=true) (fun k=>l.length - k) 0 t2 rfl (⟨rfl,Nat.zero_le _,by simp⟩) (fun k B1 hle1 hI=>?_)))))))))
 obtain ⟨rfl,hk,ha⟩:=hI
 refine Zh (Za (xM (h:=xM (h:=xVs Tryz.underlying9 (h:=ZM (h:=Zab [(0,_),(3,_),(7,_)] t3 (Ze rfl (fun g1=>?_) (fun g1=>?_))))))))
 try simp only [sQ,ne_eq] at g1
 obtain ⟨c,hc⟩ :∃c,l[k]? = some c:=⟨_,List.getElem?_eq_getElem oz⟩
 refine Zg (Zf (Zh (Zm (ZlE 33 (!(Zbm c)) [0,3,7] ?_ ?_))))
 refine xM (h:=xM (h:=Zq (ZdH rfl rfl Tryz.underlying9 rfl rfl oz (by simpa using hc) ?_)))
 refine Zd9 (h:=xM (h:=ZC (d:=14) rfl (fun g1=>?_) (fun g1=>?_)))
 try simp only [sQ,ne_eq] at g1
 refine xM (h:=xM (h:=Zq (ZdH rfl rfl Tryz.underlying9 rfl rfl oz (by simpa using hc) ?_)))
 refine Zca (h:=xT (h:=xN (h:=xM (h:=ZC (d:=21) rfl (fun g2=>?_) (fun g2=>?_)))))
 try simp only [sQ,ne_eq] at g2
 refine xM (h:=xM (h:=Zq (ZdH rfl rfl Tryz.underlying9 rfl rfl oz (by simpa using hc) ?_)))
 refine Zd9 (h:=xM (h:=ZC (d:=26) rfl (fun g3=>?_) (fun g3=>?_)))
 try simp only [sQ,ne_eq] at g3
 refine xM (h:=xM (h:=Zq (ZdH rfl rfl Tryz.underlying9 rfl rfl oz (by simpa using hc) ?_)))
 refine Zca (h:=xT (h:=xN (h:=xT (h:=?_))))
 exact ⟨rfl,rfl,rfl,Ziq rfl (by rw [Bool.eq_iff_iff];simp [Zbm,];omega),t3⟩
 try simp only [sQ,ne_eq] at g3
 refine xP (h:=xP (h:=xP (h:=xP (h:=xF (h:=xN (h:=xT (h:=?_)))))))
 exact ⟨rfl,rfl,rfl,Ziq rfl (by rw [Bool.eq_iff_iff];simp [Zbm,];omega),t3⟩
 try simp only [sQ,ne_eq] at g2
 refine xP (h:=xP (h:=xP (h:=xP (h:=xP (h:=xP (h:=xP (h:=xP (h:=xP (h:=xP (h:=xP (h:=xF (h:=?_))))))))))))
 exact ⟨rfl,rfl,rfl,Ziq rfl (by rw [Bool.eq_iff_iff];simp [Zbm,];omega),t3⟩
 try simp only [sQ,ne_eq] at g1
 refine xP (h:=xP (h:=xP (h:=xP (h:=xF (h:=xN (h:=xM (h:=xM (h:=xM (h:=Zq (ZdH rfl rfl Tryz.underlying9 rfl rfl oz (by simpa using hc) ?_))))))))))
 refine Zd9 (h:=xM (h:=ZC (d:=26) rfl (fun g4=>?_) (fun g4=>?_)))
 try simp only [sQ,ne_eq] at g4
 refine xM (h:=xM (h:=Zq (ZdH rfl rfl Tryz.underlying9 rfl rfl oz (by simpa using hc) ?_)))
 refine Zca (h:=xT (h:=xN (h:=xT (h:=?_))))
 exact ⟨rfl,rfl,rfl,Ziq rfl (by rw [Bool.eq_iff_iff];simp [Zbm,];omega),t3⟩
 try simp only [sQ,ne_eq] at g4
 refine xP (h:=xP (h:=xP (h:=xP (h:=xF (h:=xN (h:=xT (h:=?_)))))))
 exact ⟨rfl,rfl,rfl,Ziq rfl (by rw [Bool.eq_iff_iff];simp [Zbm,];omega),t3⟩
 refine Zab [(0,_),(3,_),(7,_),(33,_)] t4 (Ze rfl (fun g9=>?_) (fun g9=>?_))
 try simp only [sQ,ne_eq] at g9
 refine Za (xA (h:=Zab [(0,_),(2,_),(3,_),(7,_),(33,_)] t5 (Zj (ZN (Zt (Zq4 (ZN (Zt ?_))))))))
 exact ZK .ret (.inl rfl) [_] t1 ⟨Zk (by simp [ZaV,ZpZ hc g9]),rfl,rfl⟩
 try simp only [sQ,ne_eq] at g9
 refine Zg (Z7 (Zf (Zn (xM (h:=Zq (Zgl rfl rfl rfl rfl (by first | exact Zcp oz oz | rfl) ?_))))))
 refine xA (h:=?_)
 exact ZlR (k+1) oz ⟨rfl,oz,ZlA hc g9 ha⟩ t2 rfl
 try simp only [sQ,ne_eq] at g1
 refine ZS (Zaf (ZlQ (ZG (Zf (Za (xM (h:=xVs Tryz.underlying9 (h:=xR ZpO rfl (Zft _ _ _ _) (h:=xA (h:=Zab [(0,_),(2,_),(3,_),(7,_)] t4 (Zj ?_)))))))))))
 exact ZK .ret (.inl rfl) [_] t1 ⟨Zk (by (obtain rfl:k=l.length:=oz);rw [List.take_length] at ha;rw [Bool.eq_iff_iff];simp [ZaV,ha];omega),rfl,rfl⟩

set_option maxHeartbeats 400000 in
theorem Zlw (b:Nat) (l:List UInt8) (i:Nat) (hi:i≤l.length) (hl:l.length≤2000000) (B:Kn):ZqG (pj J) 124 [ptr ⟨b,0,none⟩] B (cur b l i) (.bool (decide (i=l.length))) (cur b l i):=by
 refine Zd 13 Tryz.func124 rfl rfl rfl (Nat.le_of_ble_eq_true rfl) ?_
 refine Za (xA (h:=Zab [(0,_),(2,_)] t2 (Zh (Zac (same _ _) mo kr ⟨rfl,rfl⟩ (fun _ _=>?_)))))
 refine aM 0 rfl (h:=aNc 1 rfl (h:=aW 2 rfl ZbP (h:=aT 3 rfl (ZaA fun D=>Zx rfl rfl lk3 rfl (atL 0 rfl rfl rfl) r4) (h:=aM 4 rfl (h:=aNc 5 rfl (h:=aW 6 rfl ZfY (h:=aT 7 rfl (ZaA fun D=>Zx rfl rfl lk9 rfl (atL 0 rfl rfl rfl) r4) (h:=aT 8 rfl (ZaA fun D=>Zqi rfl rfl Tryz.underlying9 rfl r4) (h:=ZtA 9 rfl (h:=aA 10 rfl (h:=ZB kr kr ?_)))))))))))
 refine Zf (Zab [(0,_),(2,_)] t2 (Zj ?_))
 exact ZpN .ret (.inl rfl) [_] 0 rfl t1 ⟨Zk (by rw [Bool.eq_iff_iff];simp;omega),rfl,rfl⟩

set_option maxHeartbeats 400000 in
theorem Zss (b:Nat) (l:List UInt8) (i:Nat) (hi:i≤l.length) (hl:l.length≤2000000) (x:UInt8) (B:Kn):ZqG (pj J) 205 [ptr ⟨b,0,none⟩,.int .u8 x.toNat] B (cur b l i) (.bool (decide (l[i]? = some x))) (cur b l (if l[i]? = some x then i+1 else i)):=by
 refine Zd 27 Tryz.func205 rfl rfl rfl (Nat.le_of_ble_eq_true rfl) ?_
 refine Za (xA (h:=Zab [(0,_),(1,_),(4,_)] t3 (Zh (ZgA 19 (decide (l[i]?≠some x)) [0,1,4] (same _ _) mo kr ⟨rfl,rfl⟩ (fun _ _=>?_) ?_))))
 refine aM 0 rfl (h:=aT 1 rfl (ZaA fun D=>Zfi 0 rfl rfl rfl ZpP rfl (Zlw _ _ _ oz oz _) r4) (h:=?_))
 refine aM 2 rfl (h:=Za0 (d:=7) rfl (fun g1=>?_) (fun g1=>?_))
 try simp only [sQ,ne_eq] at g1
 refine aZ 3 rfl (h:=aZ 4 rfl (h:=aZ 5 rfl (h:=aZ 6 rfl (h:=aZ 7 rfl (h:=aZ 8 rfl (h:=aZ 9 rfl (h:=aZ 10 rfl (h:=aZ 11 rfl (h:=aZ 12 rfl (h:=aZ 13 rfl (h:=aPT 14 rfl (h:=ZB kr kr ?_))))))))))))
 exact ⟨rfl,rfl,rfl,Ziq rfl (by first | (simp [g1];done) | (rw [Bool.eq_iff_iff];simp [hc,← UInt8.toNat_inj];omega)),t3⟩
 try simp only [sQ,ne_eq] at g1
 obtain ⟨c,hc⟩ :∃c,l[i]? = some c:=⟨_,List.getElem?_eq_getElem oz⟩
 refine aM 3 rfl (h:=aNc 4 rfl (h:=aW 5 rfl ZfY (h:=aT 6 rfl (ZaA fun D=>Zx rfl rfl lk9 rfl (atL 0 rfl rfl rfl) r4) (h:=aM 7 rfl (h:=aNc 8 rfl (h:=aW 9 rfl ZbP (h:=aT 10 rfl (ZaA fun D=>Zx rfl rfl lk3 rfl (atL 0 rfl rfl rfl) r4) (h:=aT 11 rfl (ZaA fun D=>ZdH rfl rfl Tryz.underlying9 rfl rfl oz (by simpa using hc) r4) (h:=?_)))))))))
 refine aM 12 rfl (h:=Zty 13 rfl (h:=aPF 14 rfl (h:=ZB kr kr ?_)))
 exact ⟨rfl,rfl,rfl,Ziq rfl (by first | (simp [g1];done) | (rw [Bool.eq_iff_iff];simp [hc,← UInt8.toNat_inj];omega)),t3⟩
 refine Zab [(0,_),(1,_),(4,_),(19,_)] t4 (Ze rfl (fun g2=>?_) (fun g2=>?_))
 try simp only [sQ,ne_eq] at g2
 refine Za (xA (h:=Zab [(0,_),(1,_),(4,_),(19,_)] t4 (Zj (Zt ?_))))
 exact ZpN .ret (.inl rfl) [_] 0 rfl t1 ⟨Zk (by simp [g2]),rfl,by rw [if_neg g2]⟩
 try simp only [sQ,ne_eq] at g2
 refine Zg (Zf (Za (xM (h:=xNc (h:=xW ZbP (h:=x1 lk3 0 (h:=Zq (Zgl rfl rfl rfl rfl (by first | exact Zcp oz oz | rfl) ?_))))))))
 refine xNc (h:=xW ZbP (h:=xS [_] 0 [_,_] sz3 (h:=ZR [(0,_),(1,_),(4,_),(19,_)] [_] t4 rfl (Za (xA (h:=Zab [(0,_),(1,_),(4,_),(19,_)] t4 (Zj ?_)))))))
 exact ZpN .ret (.inl rfl) [_] 0 rfl t1 ⟨Zk (by simp [g2]),rfl,by rw [if_pos g2];rfl⟩

set_option maxHeartbeats 400000 in
theorem Znu (b:Nat) (l:List UInt8) (i:Nat) (hi:i≤l.length) (hl:l.length≤2000000) (B:Kn):ZqG (pj J) 123 [ptr ⟨b,0,none⟩] B (cur b l i) (.tuple #[str (word l i),.bool (Zc3 (word l i))]) (cur b l (i+(word l i).length)):=by
 refine Zd 54 Tryz.func123 rfl rfl rfl (Nat.le_of_ble_eq_true rfl) ?_
 refine Za (xA (h:=xA (h:=Zab [(0,_),(2,_),(3,_)] t3 (Za (xM (h:=xNc (h:=xW ZbP (h:=x1 lk3 0 (h:=xA (h:=Zab [(0,_),(2,_),(3,_),(4,_)] t4 (Zh (Zm ?_))))))))))))
 refine ZiL (α:=Nat) (fun k=>[(0,ptr ⟨b,0,none⟩),(4,.int .i64 i)]) (fun k=>[cur b l (i+k)]) (fun k Bx=>Bx=B∧i+k≤l.length∧((l.drop i).take k).all Zbm=true) (fun k=>l.length - i - k) 0 t2 rfl (⟨rfl,oz,by simp⟩) (fun k B1 hle1 hI=>?_)
 obtain ⟨rfl,hk,ha⟩:=hI
 refine Zh (ZgA 24 (match l[i+k]? with | some c=>Zbm c | none=>false) [0,4] (same _ _) mo kr ⟨rfl,rfl⟩ (fun _ _=>?_) ?_)
 refine aM 0 rfl (h:=aT 1 rfl (ZaA fun D=>Zfi 0 rfl rfl rfl ZpP rfl (Zlw _ _ _ oz oz _) r4) (h:=?_))
 refine aN 2 rfl (h:=aM 3 rfl (h:=Za0 (d:=13) rfl (fun g1=>?_) (fun g1=>?_)))
 try simp only [sQ,ne_eq] at g1
 obtain ⟨c,hc⟩ :∃c,l[i+k]? = some c:=⟨_,List.getElem?_eq_getElem oz⟩
 refine aM 4 rfl (h:=aNc 5 rfl (h:=aW 6 rfl ZfY (h:=aT 7 rfl (ZaA fun D=>Zx rfl rfl lk9 rfl (atL 0 rfl rfl rfl) r4) (h:=aM 8 rfl (h:=aNc 9 rfl (h:=aW 10 rfl ZbP (h:=aT 11 rfl (ZaA fun D=>Zx rfl rfl lk3 rfl (atL 0 rfl rfl rfl) r4) (h:=aT 12 rfl (ZaA fun D=>ZdH rfl rfl Tryz.underlying9 rfl rfl oz hc r4) (h:=?_)))))))))
 refine aT 13 rfl (ZaA fun D=>Zay rfl rfl ZuZ rfl (ZlY _ _) r4) (h:=aPT 14 rfl (h:=ZB kr kr ?_))
 exact ⟨rfl,rfl,rfl,Ziq rfl (by first | (rw [hc];done) | (rw [List.getElem?_eq_none oz])),t2⟩
 try simp only [sQ,ne_eq] at g1
 refine aZ 4 rfl (h:=aZ 5 rfl (h:=aZ 6 rfl (h:=aZ 7 rfl (h:=aZ 8 rfl (h:=aZ 9 rfl (h:=aZ 10 rfl (h:=aZ 11 rfl (h:=aZ 12 rfl (h:=aZ 13 rfl (h:=aPF 14 rfl (h:=ZB kr kr ?_)))))))))))
 exact ⟨rfl,rfl,rfl,Ziq rfl (by first | (rw [hc];done) | (rw [List.getElem?_eq_none oz])),t2⟩
 refine Zab [(0,_),(4,_),(24,_)] t3 (Ze rfl (fun g2=>?_) (fun g2=>?_))
 try simp only [sQ,ne_eq] at g2
 refine Zg (Zf (Zm (Zn (xM (h:=xNc (h:=xW ZbP (h:=x1 lk3 0 (h:=Zq (Zgl rfl rfl rfl rfl (by first | exact Zcp oz oz | rfl) ?_)))))))))
 refine xNc (h:=xW ZbP (h:=xS [_] 0 [_,_] sz3 (h:=Z7 ?_)))
 obtain ⟨c,hc,hn⟩:=Znc g2
 exact ZlR (k+1) (by have:=ZbH hc;omega) ⟨rfl,by have:=ZbH hc;omega,ZlA (by simpa using hc) hn ha⟩ t2 rfl
 try simp only [sQ,ne_eq] at g2
 have hw:word l i=(l.drop i).take k:=ZoK ha (fun c hc=>by rw [hc] at g2;exact g2)
 have hwl:(word l i).length=k:=by rw [hw,List.length_take,List.length_drop];omega
 refine ZS (Zaf (ZlQ (ZG (Zf (Za (xM (h:=xNc (h:=xW ZbP (h:=x1 lk3 0 (h:=xM (h:=Zq (Zh8 rfl rfl rfl rfl (by first | exact Zcp oz oz | rfl) ?_))))))))))))
 refine xA (h:=Zab [(0,_),(4,_),(5,_),(24,_)] t4 (Zh (Zac (same _ _) mo kr ⟨rfl,rfl⟩ (fun _ _=>?_))))
 refine aM 0 rfl (h:=aNc 1 rfl (h:=aW 2 rfl ZfY (h:=aT 3 rfl (ZaA fun D=>Zx rfl rfl lk9 rfl (atL 0 rfl rfl rfl) r4) (h:=aM 4 rfl (h:=aM 5 rfl (h:=aNc 6 rfl (h:=aW 7 rfl ZbP (h:=aT 8 rfl (ZaA fun D=>Zx rfl rfl lk3 rfl (atL 0 rfl rfl rfl) r4) (h:=aT 9 rfl (ZaA fun D=>Zfh rfl rfl Tryz.underlying9 rfl (a:=i) (b:=i+k) ⟨_,_,rfl,rfl⟩ ⟨_,_,rfl,oz⟩ oz oz r4) (h:=?_))))))))))
 refine aM 10 rfl (h:=ZvM 11 rfl (h:=aM 12 rfl (h:=Za0 (d:=50) rfl (fun g1=>?_) (fun g1=>?_))))
 try simp only [sQ,ne_eq] at g1
 refine aM 13 rfl (h:=ZrW 14 rfl (h:=aPT 15 rfl (h:=aA 16 rfl (h:=aA 17 rfl (h:=ZB kr kr ?_)))))
 refine Zf (Zab [(0,_),(2,_),(3,_),(4,_),(5,_),(24,_)] t6 (Zj ?_))
 exact ZpN .ret (.inl rfl) [_,_] 0 rfl t2 ⟨ZhE (by rw [ZeP,hw]) (Zk (by rw [Bool.eq_iff_iff];simp [Zc3,hwl];omega)),rfl,by rw [hwl]⟩
 try simp only [sQ,ne_eq] at g1
 refine aZ 13 rfl (h:=aZ 14 rfl (h:=aPF 15 rfl (h:=aA 16 rfl (h:=aA 17 rfl (h:=ZB kr kr ?_)))))
 refine Zf (Zab [(0,_),(2,_),(3,_),(4,_),(5,_),(24,_)] t6 (Zj ?_))
 exact ZpN .ret (.inl rfl) [_,_] 0 rfl t2 ⟨ZhE (by rw [ZeP,hw]) (Zk (by rw [Bool.eq_iff_iff];simp [Zc3,hwl];omega)),rfl,by rw [hwl]⟩

set_option maxHeartbeats 400000 in
theorem ZpQ (b:Nat) (l:List UInt8) (i:Nat) (hi:i≤l.length) (hl:l.length≤2000000) (B:Kn):ZqG (pj J) 182 [ptr ⟨b,0,none⟩] B (cur b l i) (.tuple #[str (Zhj l i),.bool (ZkD l i)]) (cur b l (dom l i).2):=by
 refine Zd 53 Tryz.func182 rfl rfl rfl (Nat.le_of_ble_eq_true rfl) ?_
 refine Za (xA (h:=xA (h:=Zab [(0,_),(2,_),(3,_)] t3 (Za (xM (h:=xNc (h:=xW ZbP (h:=x1 lk3 0 (h:=xA (h:=Zab [(0,_),(2,_),(3,_),(4,_)] t4 (Zh (Za ?_))))))))))))
 refine xM (h:=Zq (Zhz 0 rfl rfl rfl ZrP rfl (Znu _ _ _ oz oz _) ?_))
 refine xM (h:=xE (h:=xE (h:=xA (h:=xA (h:=ZR [(0,_),(2,_),(3,_),(4,_),(6,_)] [_] t5 rfl (Za (xM (h:=xN (h:=Zab [(0,_),(2,_),(3,_),(4,_),(6,_),(20,_)] t6 (Ze rfl (fun g1=>?_) (fun g1=>?_)))))))))))
 try simp only [sQ,ne_eq] at g1
 refine Za (xA (h:=xA (h:=Zab [(0,_),(2,_),(3,_),(4,_),(6,_),(20,_)] t6 (Zj (Zt ?_)))))
 exact ZpN .ret (.inl rfl) [_,_] 0 rfl t2 ⟨ZhE (by simp [Zhj,ZkC g1]) (Zk (by simp [ZkD,ZkC g1])),rfl,by rw [ZkC g1]⟩
 try simp only [sQ,ne_eq] at g1
 refine Zg (Zf (Zh (Za (xA (h:=Zab [(0,_),(2,_),(3,_),(4,_),(6,_),(7,_),(20,_)] t7 (Zm (ZiL (α:=Nat × Nat) (fun x=>[(0,ptr ⟨b,0,none⟩),(4,.int .i64 i),(7,.int .i64 x.1)]) (fun x=>[cur b l x.2]) (fun x Bx=>Bx=B∧1≤x.1∧x.1≤3∧i≤x.2∧x.2≤l.length∧dom l i=more (3 - x.1) l x.2) (fun x=>3 - x.1) (1,i+(word l i).length) t3 rfl (⟨rfl,oz,oz,oz,Zgy hi,ZpR g1⟩) (fun x B1 hle1 hI=>?_))))))))
 obtain ⟨rfl,hk1,hk3,hix,hxl,hd⟩:=hI
 refine Zh (Za (xM (h:=ZM (h:=xM (h:=ZC (d:=23) rfl (fun g2=>?_) (fun g2=>?_))))))
 try simp only [sQ,ne_eq] at g2
 refine xM (h:=Zq (Zhz 0 rfl rfl rfl ZuB rfl (Zss _ _ _ oz oz 46 _) ?_))
 refine xT (h:=ZR [(0,_),(4,_),(7,_),(26,_)] [_] t4 rfl (Ze rfl (fun g3=>?_) (fun g3=>?_)))
 try simp only [sQ,ne_eq] at g3
 rw [if_pos g3]
 have hx2:=ZbH g3
 refine Zg (Zf (Zh (Zm (Za (xM (h:=Zq (Zhz 0 rfl rfl rfl ZrP rfl (Znu _ _ _ oz oz _) ?_)))))))
 refine xM (h:=xE (h:=xE (h:=xA (h:=xA (h:=ZR [(0,_),(4,_),(7,_),(9,_),(26,_)] [_] t5 rfl (Za (xM (h:=xN (h:=Zab [(0,_),(4,_),(7,_),(9,_),(26,_),(35,_)] t6 (Ze rfl (fun g4=>?_) (fun g4=>?_)))))))))))
 try simp only [sQ,ne_eq] at g4
 refine Za (xA (h:=xA (h:=Zab [(0,_),(2,_),(3,_),(4,_),(7,_),(9,_),(26,_),(35,_)] t8 (Zj (ZN (Zt (Zq4 (ZN (Zt ?_)))))))))
 have hdd:=hd.trans (Zpm oz g3 g4)
 exact ZpN .ret (.inl rfl) [_,_] 0 rfl t2 ⟨ZhE (by simp [Zhj,hdd]) (Zk (by simp [ZkD,hdd])),rfl,by rw [hdd]⟩
 try simp only [sQ,ne_eq] at g4
 refine Zg (Z7 (Zf (Zn (xM (h:=Zq (Zgl rfl rfl rfl rfl (by first | exact Zcp oz oz | rfl) ?_))))))
 refine xA (h:=?_)
 exact ZlR (x.1+1,x.2+1+(word l (x.2+1)).length) (so) ⟨rfl,so,so,so,Zgy oz,by rw [hd,Znz oz g3 g4];rw [show 3 - (x.1+1)=3 - x.1 - 1 from by omega]⟩ t3 rfl
 try simp only [sQ,ne_eq] at g3
 rw [if_neg g3]
 replace hd:=hd.trans (ZgU g3)
 refine ZS (Zaf (ZlQ (ZG (Zf (Zh (Zac (same _ _) mo kr ⟨rfl,rfl⟩ (fun _ _=>?_)))))))
 refine aM 0 rfl (h:=aNc 1 rfl (h:=aW 2 rfl ZfY (h:=aT 3 rfl (ZaA fun D=>Zx rfl rfl lk9 rfl (atL 0 rfl rfl rfl) r4) (h:=aM 4 rfl (h:=aM 5 rfl (h:=aNc 6 rfl (h:=aW 7 rfl ZbP (h:=aT 8 rfl (ZaA fun D=>Zx rfl rfl lk3 rfl (atL 0 rfl rfl rfl) r4) (h:=aT 9 rfl (ZaA fun D=>Zfh rfl rfl Tryz.underlying9 rfl (a:=i) (b:=x.2) ⟨_,_,rfl,rfl⟩ ⟨_,_,rfl,rfl⟩ oz oz r4) (h:=?_))))))))))
 refine aM 10 rfl (h:=aNc 11 rfl (h:=aW 12 rfl ZbP (h:=aT 13 rfl (ZaA fun D=>Zx rfl rfl lk3 rfl (atL 0 rfl rfl rfl) r4) (h:=aM 14 rfl (h:=aT 15 rfl (ZaA fun D=>Zh8 rfl rfl rfl rfl (by first | exact Zcp oz oz | rfl) r4) (h:=?_))))))
 refine ZrW 16 rfl (h:=aA 17 rfl (h:=aA 18 rfl (h:=ZB kr kr ?_)))
 refine Zf (Zab [(0,_),(2,_),(3,_),(4,_),(7,_),(26,_)] t6 (Zj ?_))
 exact ZpN .ret (.inl rfl) [_,_] 0 rfl t2 ⟨ZhE (by simp [Zhj,hd]) (Zk (by rw [Bool.eq_iff_iff];simp [ZkD,hd];omega)),rfl,by rw [hd]⟩
 try simp only [sQ,ne_eq] at g2
 replace hd:dom l i=(true,x.2):=hd.trans (by rw [show 3 - x.1=0 from by omega];rfl)
 refine xP (h:=xP (h:=xF (h:=Zab [(0,_),(4,_),(7,_),(26,_)] t4 (Ze (t:=false) rfl (fun h=>Bool.noConfusion h) (fun _=>ZS (Zaf (ZlQ (ZG (Zf (Zh (Zac (same _ _) mo kr ⟨rfl,rfl⟩ (fun _ _=>?_))))))))))))
 refine aM 0 rfl (h:=aNc 1 rfl (h:=aW 2 rfl ZfY (h:=aT 3 rfl (ZaA fun D=>Zx rfl rfl lk9 rfl (atL 0 rfl rfl rfl) r4) (h:=aM 4 rfl (h:=aM 5 rfl (h:=aNc 6 rfl (h:=aW 7 rfl ZbP (h:=aT 8 rfl (ZaA fun D=>Zx rfl rfl lk3 rfl (atL 0 rfl rfl rfl) r4) (h:=aT 9 rfl (ZaA fun D=>Zfh rfl rfl Tryz.underlying9 rfl (a:=i) (b:=x.2) ⟨_,_,rfl,rfl⟩ ⟨_,_,rfl,rfl⟩ oz oz r4) (h:=?_))))))))))
 refine aM 10 rfl (h:=aNc 11 rfl (h:=aW 12 rfl ZbP (h:=aT 13 rfl (ZaA fun D=>Zx rfl rfl lk3 rfl (atL 0 rfl rfl rfl) r4) (h:=aM 14 rfl (h:=aT 15 rfl (ZaA fun D=>Zh8 rfl rfl rfl rfl (by first | exact Zcp oz oz | rfl) r4) (h:=?_))))))
 refine ZrW 16 rfl (h:=aA 17 rfl (h:=aA 18 rfl (h:=ZB kr kr ?_)))
 refine Zf (Zab [(0,_),(2,_),(3,_),(4,_),(7,_),(26,_)] t6 (Zj ?_))
 exact ZpN .ret (.inl rfl) [_,_] 0 rfl t2 ⟨ZhE (by simp [Zhj,hd]) (Zk (by rw [Bool.eq_iff_iff];simp [ZkD,hd];omega)),rfl,by rw [hd]⟩

set_option maxHeartbeats 400000 in
theorem ZcN (l:List UInt8) (hl:l.length≤2000000) (B:Kn):Z8 (pj J) 72 [str l] B (.bool (ZaV l)):=by
 refine Zd 16 Tryz.func72 rfl rfl rfl (Nat.le_of_ble_eq_true rfl) ?_
 refine Za (xA (h:=Zab [(0,_),(2,_)] t2 (Za (xM (h:=xB [(0,_)] [_,_] [_,_] ZsI ZoJ (h:=xAl [_,_] ZoJ (h:=fun b0=>xS [_,_] 0 [_,_] ZsC (h:=ZR [(0,_),(2,_),(3,_)] [_] t3 rfl (Za (Zq (Zhz 0 rfl rfl rfl ZrP rfl (Znu _ _ 0 oz hl _) ?_)))))))))))
 refine xM (h:=xE (h:=xE (h:=xA (h:=xA (h:=ZR [(0,_),(2,_),(3,_),(5,_)] [_] t4 rfl (Za (xM (h:=xM (h:=ZC (d:=13) rfl (fun g1=>?_) (fun g1=>?_))))))))))
 try simp only [sQ,ne_eq] at g1
 refine Zq (Zfi 0 rfl rfl rfl ZpP rfl (Zlw _ _ (0+(word l 0).length) (Zgy (Nat.zero_le _)) oz _) ?_)
 refine xT (h:=xA (h:=Zab [(0,_),(2,_),(3,_),(5,_)] t4 (Zj ?_)))
 exact ZK .ret (.inl rfl) [_] t1 ⟨Zk (by rw [ZcU];simp [g1];try omega),rfl,rfl⟩
 try simp only [sQ,ne_eq] at g1
 refine xP (h:=xF (h:=xA (h:=Zab [(0,_),(2,_),(3,_),(5,_)] t4 (Zj ?_))))
 exact ZK .ret (.inl rfl) [_] t1 ⟨Zk (by rw [ZcU];simp [g1];try omega),rfl,rfl⟩

abbrev ZtO (s : Cells) (q : Option Addr) (m cp : Nat) (ls : List (List UInt8)) : Prop := Zgx s q m cp 9 1 (ls.map str)
theorem ZiO {s:Cells} {q:Option Addr} {m cp:Nat} {ls:List (List UInt8)} {a:List UInt8} (h:Zgx s q m cp 9 1 (ls.map str ++ [str a])):ZtO s q m cp (ls ++ [a]):=by
 unfold ZtO
 rw [List.map_append]
 exact h
set_option maxHeartbeats 400000 in
theorem Zrj (l:List UInt8) (hl:l.length≤2000000) (x0:UInt8) (B:Kn):Zv6 (pj J) 141 [str l,.int .u8 x0.toNat] B (fun v s=>∃q cp,v = .slice q (cut x0 l).length cp∧ZtO s q (cut x0 l).length cp (cut x0 l)):=by
 refine Zd 35 Tryz.func141 rfl rfl rfl (Nat.le_of_ble_eq_true rfl) ?_
 refine Za (xA (h:=Zab [(0,_),(1,_),(4,_)] t3 (Za (xBs [] [] Tryz.underlying43 sz9 zo9 (h:=fun b0=>xA (h:=ZR [(0,_),(1,_),(4,_),(5,_)] [_] t4 rfl (Za (xA (h:=Zab [(0,_),(1,_),(4,_),(5,_),(6,_)] t5 (Zh (Za (xA (h:=?_)))))))))))))
 refine Zab [(0,_),(1,_),(4,_),(5,_),(6,_),(7,_)] t6 (Zm (ZiL (α:=CutSt) (fun x=>[(0,str l),(1,.int .u8 x0.toNat),(5,.slice x.q x.m x.cp),(6,.int .i64 x.f),(7,.int .i64 x.i)]) (fun x=>[x.s]) (fun x Bx=>Bx=B∧x.f≤x.i∧x.i≤l.length∧x.m≤x.i∧x.m=x.ps.length∧ZtO x.s x.q x.m x.cp x.ps∧cut x0 l=x.ps ++ glue ((l.take x.i).drop x.f) (cut x0 (l.drop x.i))) (fun x=>l.length - x.i) ⟨0,0,0,[],some ⟨b0,0,none⟩,0,ZaE b0 [] 9⟩ t5 rfl (⟨rfl,Nat.le_refl _,Nat.zero_le _,Nat.le_refl _,rfl,Zgx.lit rfl,by simp [Zlq (Zlz x0 l)]⟩) (fun x B1 hle1 hI=>?_)))
 obtain ⟨rfl,hf,hi,hn,hm,hv,hc⟩:=hI
 refine Zh (Za (xM (h:=xM (h:=xVs Tryz.underlying9 (h:=ZM (h:=Zab [(0,_),(1,_),(5,_),(6,_),(7,_),(12,_)] t6 (Ze rfl (fun g1=>?_) (fun g1=>?_))))))))
 try simp only [sQ,ne_eq] at g1
 obtain ⟨c,hx⟩ :∃c,l[x.i]? = some c:=⟨_,List.getElem?_eq_getElem oz⟩
 refine Zg (Zf (Zh (Zm (Za (xM (h:=xM (h:=Zq (ZdH rfl rfl Tryz.underlying9 rfl rfl oz hx ?_))))))))
 refine xM (h:=ZmB (h:=Zab [(0,_),(1,_),(5,_),(6,_),(7,_),(12,_),(19,_)] t7 (Ze rfl (fun g2=>?_) (fun g2=>?_))))
 try simp only [sQ,ne_eq] at g2
 refine Za (xM (h:=xM (h:=xM (h:=xM (h:=Zq (Zfh rfl rfl Tryz.underlying9 rfl (a:=x.f) (b:=x.i) ⟨_,_,rfl,rfl⟩ ⟨_,_,rfl,rfl⟩ oz oz ?_))))))
 refine xBs [(0,_)] [_] Tryz.underlying43 sz9 zo9 (h:=fun b1=>Zq (Zeu 0 rfl (hv) rfl rfl ZrL Zr0 rfl rfl (Zcm.box 1 rfl) rfl rfl oz (fun l1 p1 c1 hv1=>?_)))
 refine xA (h:=ZR [(0,_),(1,_),(5,_),(6,_),(7,_),(12,_),(19,_)] [_,_] t7 rfl (ZmF [0] rfl (Zn (xM (h:=Zq (Zgl rfl rfl rfl rfl (by first | exact Zcp oz oz | rfl) ?_))))))
 refine xA (h:=Z7 (Zf (Zn (xM (h:=Zq (Zgl rfl rfl rfl rfl (by first | exact Zcp oz oz | rfl) ?_))))))
 refine xA (h:=?_)
 exact ZlR ⟨x.i+1,x.i+1,x.m+1,x.ps ++ [(l.take x.i).drop x.f],p1,c1,l1⟩ (so) ⟨rfl,Nat.le_refl _,so,so,by simp [hm],ZiO hv1,by rw [hc,ZrT hx (Zt4 g2),List.append_assoc];simp [ZpH,Zlq (Zlz x0 _)]⟩ t5 rfl
 try simp only [sQ,ne_eq] at g2
 refine Zg (Z7 (Zf (Zn (xM (h:=Zq (Zgl rfl rfl rfl rfl (by first | exact Zcp oz oz | rfl) ?_))))))
 refine xA (h:=?_)
 exact ZlR ⟨x.i+1,x.f,x.m,x.ps,x.q,x.cp,x.s⟩ (so) ⟨rfl,so,so,so,hm,hv,by rw [hc,ZpT hx (Zt3 g2),ZnX,ZmX hx hf]⟩ t5 rfl
 try simp only [sQ,ne_eq] at g1
 obtain hie:x.i=l.length:=by omega
 rw [hie,List.take_length,List.drop_length] at hc
 refine ZS (Zaf (ZlQ (ZG (Zf (Za (xM (h:=xM (h:=xM (h:=Zq (Zfh rfl rfl Tryz.underlying9 rfl (a:=x.f) (b:=l.length) ⟨_,_,rfl,rfl⟩ rfl oz oz ?_))))))))))
 refine xBs [(0,_)] [_] Tryz.underlying43 sz9 zo9 (h:=fun b1=>Zq (Zeu 0 rfl (hv) rfl rfl ZrL Zr0 rfl rfl (Zcm.box 1 rfl) rfl rfl oz (fun l2 p2 c2 hv2=>?_)))
 refine xA (h:=ZR [(0,_),(1,_),(4,_),(5,_),(6,_),(7,_),(12,_)] [_,_] t7 rfl (Zj ?_))
 have he:cut x0 l=x.ps ++ [l.drop x.f]:=by rw [hc];simp [cut,glue]
 have hlen:(cut x0 l).length=x.m+1:=by rw [he];simp [hm]
 exact Zbw .ret (.inl rfl) [_] [0] rfl t1 ⟨rfl,_,rfl,p2,c2,by rw [hlen];rfl,by rw [hlen,he];rw [List.take_length] at hv2;exact ZiO hv2⟩

set_option maxHeartbeats 400000 in
theorem ZiY (l:List UInt8) (hl:l.length≤2000000) (B:Kn):Z8 (pj J) 85 [str l] B (.bool (Zcy l)):=by
 refine Zd 27 Tryz.func85 rfl rfl rfl (Nat.le_of_ble_eq_true rfl) ?_
 refine Za (xA (h:=Zab [(0,_),(2,_)] t2 (Za (xM (h:=Zq (Zsb rfl rfl Zvl rfl (Zrj _ hl 46 _) ?_))))))
 rintro _ s ⟨q,cp,rfl,hv⟩
 refine xA (h:=ZR [(0,_),(2,_),(3,_)] [_] t3 rfl (Zh (Za (xA (h:=Zab [(0,_),(2,_),(3,_),(4,_)] t4 (Zm (ZiL (α:=Nat) (fun k=>[(0,str l),(3,.slice q (cut 46 l).length cp),(4,.int .i64 k)]) (fun k=>[s]) (fun k Bx=>Bx=B∧k≤(cut 46 l).length∧((cut 46 l).take k).all ZaV=true) (fun k=>(cut 46 l).length - k) 0 t3 rfl (⟨rfl,Nat.zero_le _,by simp⟩) (fun k B1 hle1 hI=>?_))))))))
 obtain ⟨rfl,hk,ha⟩:=hI
 have hcc:=Zjz 46 l
 refine Zh (Za (xM (h:=xM (h:=xV Tryz.underlying43 (h:=ZM (h:=Zab [(0,_),(3,_),(4,_),(10,_)] t4 (Ze rfl (fun g1=>?_) (fun g1=>?_))))))))
 try simp only [sQ,ne_eq] at g1
 obtain ⟨y,hy⟩ :∃y,(cut 46 l)[k]? = some y:=⟨_,List.getElem?_eq_getElem oz⟩
 have hyl:=ZkE 46 l y (List.mem_of_getElem? hy)
 obtain ⟨a,rfl,hsp,hat⟩:=hv.at (B:=B1) (L:=[s]) (i:=k) (v:=str y) 0 rfl (by rw [List.getElem?_map,hy];rfl)
 refine Zg (Zf (Zh (Zm (Za (xM (h:=xM (h:=Zq (ZbL rfl rfl Tryz.underlying43 sz9 rfl rfl oz oz ?_))))))))
 refine Zq (Zx rfl rfl lk9 rfl (Zts hat) (xR ZrO rfl (Zcc _ oz _) (h:=?_)))
 refine xN (h:=Zab [(0,_),(3,_),(4,_),(10,_),(18,_)] t5 (Ze rfl (fun g2=>?_) (fun g2=>?_)))
 try simp only [sQ,ne_eq] at g2
 refine Za (xA (h:=Zab [(0,_),(2,_),(3,_),(4,_),(10,_),(18,_)] t6 (Zj (ZN (Zt (Zq4 (ZN (Zt ?_))))))))
 exact ZK .ret (.inl rfl) [_] t1 ⟨Zk (by simp [Zcy,ZjH hy g2]),rfl,rfl⟩
 try simp only [sQ,ne_eq] at g2
 refine Zg (Z7 (Zf (Zn (xM (h:=Zq (Zgl rfl rfl rfl rfl (by first | exact Zcp oz oz | rfl) ?_))))))
 refine xA (h:=?_)
 exact ZlR (k+1) oz ⟨rfl,oz,Zhn hy g2 ha⟩ t3 rfl
 try simp only [sQ,ne_eq] at g1
 obtain hke:k=(cut 46 l).length:=by omega
 rw [hke,List.take_length] at ha
 refine ZS (Zaf (ZlQ (ZG (Zf (Za (xM (h:=xV Tryz.underlying43 (h:=Zca (h:=xM (h:=ZC (d:=22) rfl (fun g3=>?_) (fun g3=>?_)))))))))))
 try simp only [sQ,ne_eq] at g3
 refine xM (h:=xVs Tryz.underlying9 (h:=Zca (h:=xT (h:=xA (h:=Zab [(0,_),(2,_),(3,_),(4,_),(10,_)] t5 (Zj ?_))))))
 exact ZK .ret (.inl rfl) [_] t1 ⟨Zk (by rw [Bool.eq_iff_iff];simp [Zcy,ha];omega),rfl,rfl⟩
 try simp only [sQ,ne_eq] at g3
 refine xP (h:=xP (h:=xP (h:=xF (h:=xA (h:=Zab [(0,_),(2,_),(3,_),(4,_),(10,_)] t5 (Zj ?_))))))
 exact ZK .ret (.inl rfl) [_] t1 ⟨Zk (by rw [Bool.eq_iff_iff];simp [Zcy,ha];omega),rfl,rfl⟩

set_option maxHeartbeats 400000 in
theorem Zfu (q:Option Addr) (cp:Nat) (us:List DUser) (u:Str) (B:Kn) (hu:SlK B q cp 3 Zc us):Z8 (pj J) 35 [.slice q us.length cp,str u] B (.int .i64 (ZhT us u)):=by
 refine Zd 20 Tryz.func35 rfl rfl rfl (Nat.le_of_ble_eq_true rfl) ?_
 have hun:=hu.len
 refine Za (xA (h:=Zh (Za (xA (h:=Zm (ZO (α:=Nat) [0,1] (fun k=>[(5,.int .i64 k)]) [] (fun k=>[]) (fun k Bx=>Bx=B∧k≤us.length∧∀x,x∈us.take k→x.name≠u) (fun k=>us.length - k) 0 t1 rfl (⟨rfl,Nat.zero_le _,by simp⟩) (fun k B1 hle1 hI=>?_)))))))
 obtain ⟨rfl,hk,ha⟩:=hI
 refine ZR [(0,_),(1,_),(5,_)] [] t3 rfl (Zh (Za (xM (h:=xM (h:=xV Tryz.underlying30 (h:=ZM (h:=Ze rfl (fun g1=>?_) (fun g1=>?_))))))))
 try simp only [sQ,ne_eq] at g1
 refine Zg (Zf (Zh (Zm (Za (xM (h:=xM (h:=?_)))))))
 obtain ⟨x,hx⟩:=Zae (xs:=us) (i:=k) om
 obtain ⟨bb3,oo3,rfl⟩:=hu.base hx
 obtain ⟨_,⟨rfl,hb4,hb4b⟩,hc4⟩:=hu.elem hx
 refine xIx Tryz.underlying30 Zbs (h:=xW Zbe (h:=y1 lk9 hc4 0 (h:=xM (h:=Zea (h:=Ze rfl (fun g2=>?_) (fun g2=>?_))))))
 try simp only [sQ,ne_eq] at g2
 refine Za (xM (h:=xA (h:=Zj (ZN (Zt (Z2 (ZN (Zt ?_))))))))
 exact ZK .ret (.inl rfl) [_] t1 ⟨ZX (Zpt hx g2 ha).symm,rfl,rfl⟩
 try simp only [sQ,ne_eq] at g2
 refine Zg (Z7 (Zf (Zn (xM (h:=xD (h:=xA (h:=?_)))))))
 exact ZU (k+1) [] so2 ⟨rfl,oz,Zbf hx ha g2⟩ t3 rfl
 try simp only [sQ,ne_eq] at g1
 refine ZS (Zaf (ZW (ZG (Zf (Za (xA (h:=Zj ?_)))))))
 exact ZK .ret (.inl rfl) [_] t1 ⟨ZX (ZnQ (Zbp oz ha)).symm,rfl,rfl⟩

set_option maxHeartbeats 400000 in
theorem Zhe (q q':Option Addr) (cp cp':Nat) (xs ys:List Str) (B:Kn) (ha:SlK B q cp 1 ZJ xs) (hb:SlK B q' cp' 1 ZJ ys):Z8 (pj J) 63 [.slice q xs.length cp,.slice q' ys.length cp'] B (.bool (decide (xs=ys))):=by
 refine Zd 26 Tryz.func63 rfl rfl rfl (Nat.le_of_ble_eq_true rfl) ?_
 have han:=ha.len
 have hbn:=hb.len
 refine Za (xA (h:=Zh (Za (xM (h:=xV Tryz.underlying43 (h:=xM (h:=xV Tryz.underlying43 (h:=Z4 (h:=Ze rfl (fun g1=>?_) (fun g1=>?_))))))))))
 try simp only [sQ,ne_eq] at g1
 refine Za (xA (h:=Zj (Zt ?_)))
 exact ZK .ret (.inl rfl) [_] t1 ⟨Zk (Zf0 g1),rfl,rfl⟩
 try simp only [sQ,ne_eq] at g1
 refine Zg (Zf (Zh (Za (xA (h:=Zm (ZO (α:=Nat) [0,1,10] (fun k=>[(5,.int .i64 k)]) [] (fun k=>[]) (fun k Bx=>Bx=B∧k≤xs.length∧xs.take k=ys.take k) (fun k=>xs.length - k) 0 t1 rfl (⟨rfl,Nat.zero_le _,by simp⟩) (fun k B1 hle1 hI=>?_)))))))
 obtain ⟨rfl,hk,he⟩:=hI
 refine ZR [(0,_),(1,_),(5,_),(10,_)] [] t4 rfl (Zh (Za (xM (h:=xM (h:=xV Tryz.underlying43 (h:=ZM (h:=Ze rfl (fun g2=>?_) (fun g2=>?_))))))))
 try simp only [sQ,ne_eq] at g2
 refine Zg (Zf (Zh (Zm (Zh (Zac (same _ _) mo kr ⟨rfl,rfl⟩ (fun _ _=>?_))))))
 refine aM 0 rfl (h:=aM 1 rfl (h:=?_))
 obtain ⟨x,hx⟩:=Zae (xs:=xs) (i:=k) om
 obtain ⟨bb3,oo3,rfl⟩:=ha.base hx
 obtain ⟨_,⟨rfl,hb4⟩,hc4⟩:=ha.elem hx
 refine aIx 2 rfl Tryz.underlying43 sz9 (h:=aT 3 rfl (ZaA fun D=>Zx rfl rfl lk9 rfl (hc4 _ 0 _ rfl) r4) (h:=aM 4 rfl (h:=aM 5 rfl (h:=?_))))
 obtain ⟨y,hy⟩:=Zae (xs:=ys) (i:=k) om
 obtain ⟨bb6,oo6,rfl⟩:=hb.base hy
 obtain ⟨_,⟨rfl,hb7⟩,hc7⟩:=hb.elem hy
 refine aIx 6 rfl Tryz.underlying43 sz9 (h:=aT 7 rfl (ZaA fun D=>Zx rfl rfl lk9 rfl (hc7 _ 0 _ rfl) r4) (h:=ZeS 8 rfl (h:=ZB kr kr ?_)))
 refine Zf (Ze rfl (fun g3=>?_) (fun g3=>?_))
 try simp only [sQ,ne_eq] at g3
 refine Za (xA (h:=Zj (ZN (Zt (Z2 (ZN (Zt ?_)))))))
 exact ZK .ret (.inl rfl) [_] t1 ⟨Zk (ZeG hx hy g3),rfl,rfl⟩
 try simp only [sQ,ne_eq] at g3
 refine Zg (Z7 (Zf (Zn (xM (h:=xD (h:=xA (h:=?_)))))))
 exact ZU (k+1) [] so2 ⟨rfl,oz,ZbR hx hy g3 he⟩ t4 rfl
 try simp only [sQ,ne_eq] at g2
 refine ZS (Zaf (ZW (ZG (Zf (Za (xA (h:=Zj ?_)))))))
 exact ZK .ret (.inl rfl) [_] t1 ⟨Zk (eqT oz oz he),rfl,rfl⟩

set_option maxHeartbeats 400000 in
theorem Zpp (q:Option Addr) (cp:Nat) (xs:List Str) (u:Str) (B:Kn) (ha:SlK B q cp 1 ZJ xs):Z8 (pj J) 130 [.slice q xs.length cp,str u] B (.bool (decide (u∈xs))):=by
 refine Zd 18 Tryz.func130 rfl rfl rfl (Nat.le_of_ble_eq_true rfl) ?_
 have han:=ha.len
 refine Za (xA (h:=Zh (Za (xA (h:=Zm (ZO (α:=Nat) [0,1] (fun k=>[(5,.int .i64 k)]) [] (fun k=>[]) (fun k Bx=>Bx=B∧k≤xs.length∧∀x,x∈xs.take k→x≠u) (fun k=>xs.length - k) 0 t1 rfl (⟨rfl,Nat.zero_le _,by simp⟩) (fun k B1 hle1 hI=>?_)))))))
 obtain ⟨rfl,hk,hn⟩:=hI
 refine ZR [(0,_),(1,_),(5,_)] [] t3 rfl (Zh (Za (xM (h:=xM (h:=xV Tryz.underlying43 (h:=ZM (h:=Ze rfl (fun g1=>?_) (fun g1=>?_))))))))
 try simp only [sQ,ne_eq] at g1
 refine Zg (Zf (Zh (Zm (Za (xM (h:=xM (h:=?_)))))))
 obtain ⟨x,hx⟩:=Zae (xs:=xs) (i:=k) om
 obtain ⟨bb3,oo3,rfl⟩:=ha.base hx
 obtain ⟨_,⟨rfl,hb4⟩,hc4⟩:=ha.elem hx
 refine xIx Tryz.underlying43 sz9 (h:=y1 lk9 hc4 0 (h:=xM (h:=Zea (h:=Ze rfl (fun g2=>?_) (fun g2=>?_)))))
 try simp only [sQ,ne_eq] at g2
 refine Za (xA (h:=Zj (ZN (Zt (Z2 (ZN (Zt ?_)))))))
 exact ZK .ret (.inl rfl) [_] t1 ⟨Zk (Zwc hx g2),rfl,rfl⟩
 try simp only [sQ,ne_eq] at g2
 refine Zg (Z7 (Zf (Zn (xM (h:=xD (h:=xA (h:=?_)))))))
 exact ZU (k+1) [] so2 ⟨rfl,oz,Zbf hx hn g2⟩ t3 rfl
 try simp only [sQ,ne_eq] at g1
 refine ZS (Zaf (ZW (ZG (Zf (Za (xA (h:=Zj ?_)))))))
 exact ZK .ret (.inl rfl) [_] t1 ⟨Zk (Zwd (Zbp oz hn)),rfl,rfl⟩

set_option maxHeartbeats 400000 in
theorem Zl2 (q:Option Addr) (cp:Nat) (xs:List Str) (B:Kn) (ha:SlK B q cp 1 ZJ xs):Z8 (pj J) 115 [.slice q xs.length cp] B (.bool (Zcz xs)):=by
 refine Zd 29 Tryz.func115 rfl rfl rfl (Nat.le_of_ble_eq_true rfl) ?_
 have han:=ha.len
 refine Za (xA (h:=Zh (Za (xA (h:=Zm (ZO (α:=Nat) [0] (fun k=>[(3,.int .i64 k)]) [] (fun k=>[]) (fun k Bx=>Bx=B∧k≤xs.length∧(xs.take k).all ZaV=true∧(xs.take k).Nodup) (fun k=>xs.length - k) 0 t1 rfl (⟨rfl,Nat.zero_le _,by simp,by simp⟩) (fun k B1 hle1 hI=>?_)))))))
 obtain ⟨rfl,hk,hv,hn⟩:=hI
 refine ZR [(0,_),(3,_)] [] t2 rfl (Zh (Za (xM (h:=xM (h:=xV Tryz.underlying43 (h:=ZM (h:=Ze rfl (fun g1=>?_) (fun g1=>?_))))))))
 try simp only [sQ,ne_eq] at g1
 refine Zg (Zf (Zh (Zm (Zh (Zac (same _ _) mo kr ⟨rfl,rfl⟩ (fun _ _=>?_))))))
 refine aM 0 rfl (h:=aM 1 rfl (h:=?_))
 obtain ⟨x,hx⟩:=Zae (xs:=xs) (i:=k) om
 obtain ⟨bb3,oo3,rfl⟩:=ha.base hx
 obtain ⟨_,⟨rfl,hb4⟩,hc4⟩:=ha.elem hx
 refine aIx 2 rfl Tryz.underlying43 sz9 (h:=aT 3 rfl (ZaA fun D=>Zx rfl rfl lk9 rfl (hc4 _ 0 _ rfl) r4) (h:=aT 4 rfl (ZaA fun D=>Zay rfl rfl ZrO rfl (Zcc _ om2 _) r4) (h:=?_)))
 refine aN 5 rfl (h:=aM 6 rfl (h:=Za0 (d:=16) rfl (fun g2=>?_) (fun g2=>?_)))
 try simp only [sQ,ne_eq] at g2
 refine aZ 7 rfl (h:=aZ 8 rfl (h:=aZ 9 rfl (h:=aZ 10 rfl (h:=aZ 11 rfl (h:=aZ 12 rfl (h:=aZ 13 rfl (h:=aZ 14 rfl (h:=aPT 15 rfl (h:=ZB kr kr ?_)))))))))
 refine Zf (Ze (t:=true) rfl (fun _=>Za (xA (h:=Zj (ZN (Zt (Z2 (ZN (Zt ?_)))))))) (fun h=>Bool.noConfusion h))
 exact ZK .ret (.inl rfl) [_] t1 ⟨Zk (Zge hx g2),rfl,rfl⟩
 try simp only [sQ,ne_eq] at g2
 refine aM 7 rfl (h:=aM 8 rfl (h:=?_))
 obtain ⟨hq6,q6,cp6,hv6,hr6⟩:=ha.cutE 0 k om om
 have hr6n:=hr6.len
 refine aT 9 rfl (ZaA fun D=>ZmL (a:=0) (b:=k) hv6 om hq6 rfl rfl Tryz.underlying43 sz9 rfl rfl ⟨_,_,rfl,by first | omega | (simp;done) | (simp;omega)⟩ r4) (h:=?_)
 refine aM 10 rfl (h:=aM 11 rfl (h:=aIx 12 rfl Tryz.underlying43 sz9 (h:=aT 13 rfl (ZaA fun D=>Zx rfl rfl lk9 rfl (hc4 _ 0 _ rfl) r4) (h:=aT 14 rfl (ZaA fun D=>Zay rfl rfl Zvt rfl (Zpp _ _ _ _ _ hr6) r4) (h:=aPF 15 rfl (h:=ZB kr kr ?_))))))
 refine Zf (Ze rfl (fun g3=>?_) (fun g3=>?_))
 try simp only [sQ,ne_eq] at g3
 refine Za (xA (h:=Zj (ZN (Zt (Z2 (ZN (Zt ?_)))))))
 exact ZK .ret (.inl rfl) [_] t1 ⟨Zk (Zgd hx (by simpa using g3)),rfl,rfl⟩
 try simp only [sQ,ne_eq] at g3
 refine Zg (Z7 (Zf (Zn (xM (h:=xD (h:=xA (h:=?_)))))))
 exact ZU (k+1) [] so2 ⟨rfl,oz,Zhn hx g2 hv,Zns hx hn (by simpa using g3)⟩ t2 rfl
 try simp only [sQ,ne_eq] at g1
 refine ZS (Zaf (ZW (ZG (Zf (Za (xM (h:=xV Tryz.underlying43 (h:=Zca (h:=xA (h:=Zj ?_))))))))))
 exact ZK .ret (.inl rfl) [_] t1 ⟨Zk (ZgT oz hv hn),rfl,rfl⟩

set_option maxHeartbeats 400000 in
theorem Zed (q:Option Addr) (cp:Nat) (x:DLetter) (B:Kn) (ha:SlK B q cp 1 ZJ x.to_) (h1:x.fr.length≤2000000) (h2:x.text.length≤2000000):Z8 (pj J) 56 [.agg #[str x.fr,.slice q x.to_.length cp,str x.text]] B (.bool (ZaJ x)):=by
 refine Zd 23 Tryz.func56 rfl rfl rfl (Nat.le_of_ble_eq_true rfl) ?_
 refine Za (xBx [_,_,_] (h:=fun b1=>xA (h:=ZI [_] rfl (Za (xW Zfz (h:=x1 lk9 0 (h:=xR ZrO rfl (Zcc _ om2 _) (h:=?_))))))))
 refine xM (h:=ZC (d:=6) rfl (fun g1=>?_) (fun g1=>?_))
 try simp only [sQ,ne_eq] at g1
 refine xW Zeo (h:=x1 Zgs 0 (h:=xR Zvy rfl (Zl2 _ _ _ _ ha) (h:=xT (h:=xM (h:=ZC (d:=11) rfl (fun g2=>?_) (fun g2=>?_))))))
 try simp only [sQ,ne_eq] at g2
 refine xW Zeo (h:=x1 Zgs 0 (h:=xV Tryz.underlying43 (h:=Zd8 (h:=xT (h:=xM (h:=ZC (d:=17) rfl (fun g3=>?_) (fun g3=>?_)))))))
 try simp only [sQ,ne_eq] at g3
 refine xW Zg9 (h:=x1 lk9 0 (h:=xVs Tryz.underlying9 (h:=Zca (h:=xT (h:=xA (h:=Zj ?_))))))
 exact ZK .ret (.inl rfl) [_] t1 ⟨Zk (by rw [Bool.eq_iff_iff];simp [ZaJ,g1,g2,g3];try omega),rfl,rfl⟩
 try simp only [sQ,ne_eq] at g3
 refine xP (h:=xP (h:=xP (h:=xP (h:=xF (h:=xA (h:=Zj ?_))))))
 exact ZK .ret (.inl rfl) [_] t1 ⟨Zk (by rw [Bool.eq_iff_iff];simp [ZaJ,g1,g2,g3];try omega),rfl,rfl⟩
 try simp only [sQ,ne_eq] at g2
 refine xP (h:=xP (h:=xP (h:=xP (h:=xF (h:=xM (h:=xP (h:=xP (h:=xP (h:=xP (h:=xF (h:=xA (h:=Zj ?_))))))))))))
 exact ZK .ret (.inl rfl) [_] t1 ⟨Zk (by rw [Bool.eq_iff_iff];simp [ZaJ,g1,g2];try omega),rfl,rfl⟩
 try simp only [sQ,ne_eq] at g1
 refine xP (h:=xP (h:=xP (h:=xF (h:=xM (h:=xP (h:=xP (h:=xP (h:=xP (h:=xF (h:=xM (h:=xP (h:=xP (h:=?_)))))))))))))
 refine xP (h:=xP (h:=xF (h:=xA (h:=Zj ?_))))
 exact ZK .ret (.inl rfl) [_] t1 ⟨Zk (by rw [Bool.eq_iff_iff];simp [ZaJ,g1];try omega),rfl,rfl⟩

set_option maxHeartbeats 400000 in
theorem Zro (q:Option Addr) (cp:Nat) (xs:List Str) (v:Str) (B:Kn) (ha:SlK B q cp 1 ZJ xs):Z8 (pj J) 133 [.slice q xs.length cp,str v] B (.int .i64 (Zul xs v)):=by
 refine Zd 19 Tryz.func133 rfl rfl rfl (Nat.le_of_ble_eq_true rfl) ?_
 have han:=ha.len
 refine Za (xA (h:=Zh (Za (xM (h:=xV Tryz.underlying43 (h:=xM (h:=Zm (ZO (α:=Nat) [0,1,7] (fun k=>[(8,.int .i64 k)]) [] (fun k=>[]) (fun k Bx=>Bx=B∧k≤xs.length∧∀x,x∈xs.take k→decide (x=v)=false) (fun k=>xs.length - k) 0 t1 rfl (⟨rfl,Nat.zero_le _,by simp⟩) (fun k B1 hle1 hI=>?_)))))))))
 obtain ⟨rfl,hk,hn⟩:=hI
 refine ZR [(0,_),(1,_),(7,_),(8,_)] [] t4 rfl (Za (ZM (h:=Zh (Ze rfl (fun g1=>?_) (fun g1=>?_)))))
 try simp only [sQ,ne_eq] at g1
 refine Zg (Zf (Zh (Zm (Za (xM (h:=xA (h:=Za (xM (h:=xM (h:=xM (h:=?_)))))))))))
 obtain ⟨x,hx⟩:=Zae (xs:=xs) (i:=k) om
 obtain ⟨bb3,oo3,rfl⟩:=ha.base hx
 obtain ⟨_,⟨rfl,hb4⟩,hc4⟩:=ha.elem hx
 refine xIx Tryz.underlying43 sz9 (h:=y1 lk9 hc4 0 (h:=Zea (h:=Ze rfl (fun g2=>?_) (fun g2=>?_))))
 try simp only [sQ,ne_eq] at g2
 refine Za (xM (h:=xA (h:=Zj (ZN (Zt (Z2 (ZN (Zt ?_))))))))
 exact ZK .ret (.inl rfl) [_] t1 ⟨ZX (Zgv hx (by simp [g2]) hn).symm,rfl,rfl⟩
 try simp only [sQ,ne_eq] at g2
 refine Zg (Z7 (Zf (Zn (xD (h:=xM (h:=?_))))))
 exact ZU (k+1) [] so2 ⟨rfl,oz,Zbf hx hn (by simp [Ne.symm g2])⟩ t4 rfl
 try simp only [sQ,ne_eq] at g1
 refine ZS (Zaf (ZW (ZG (Zf (Za (xA (h:=Zj ?_)))))))
 exact ZK .ret (.inl rfl) [_] t1 ⟨ZX (Zek (Zbp oz hn)).symm,rfl,rfl⟩

set_option maxHeartbeats 400000 in
theorem Zmn (q:Option Addr) (cp:Nat) (xs:List Str) (v:Str) (B:Kn) (ha:SlK B q cp 1 ZJ xs):Z8 (pj J) 164 [.slice q xs.length cp,str v] B (.bool (decide (v∈xs))):=by
 refine Zd 9 Tryz.func164 rfl rfl rfl (Nat.le_of_ble_eq_true rfl) ?_
 refine Za (xA (h:=Za (xM (h:=xM (h:=xR Zvr rfl (Zro _ _ _ _ _ ha) (h:=Zd9 (h:=xA (h:=Zj ?_))))))))
 exact ZK .ret (.inl rfl) [_] t1 ⟨Zk (by rw [Bool.eq_iff_iff];simp [Zpu]),rfl,rfl⟩

set_option maxHeartbeats 400000 in
theorem Zj3 (q:Option Addr) (cp:Nat) (xs:List Str) (B:Kn) (ha:SlK B q cp 1 ZJ xs):Z8 (pj J) 116 [.slice q xs.length cp] B (.bool (decide (1≤xs.length) && Zcz xs)):=by
 refine Zd 31 Tryz.func116 rfl rfl rfl (Nat.le_of_ble_eq_true rfl) ?_
 have han:=ha.len
 refine Za (xA (h:=Zh (Za (xM (h:=xV Tryz.underlying43 (h:=ZM (h:=xM (h:=ZC (d:=8) rfl (fun g1=>?_) (fun g1=>?_)))))))))
 try simp only [sQ,ne_eq] at g1
 refine xP (h:=xP (h:=xP (h:=xT (h:=Ze (t:=true) rfl (fun _=>Za (xA (h:=Zj (Zt ?_)))) (fun h=>Bool.noConfusion h)))))
 exact ZK .ret (.inl rfl) [_] t1 ⟨Zk (by simp;omega),rfl,rfl⟩
 try simp only [sQ,ne_eq] at g1
 refine xM (h:=xV Tryz.underlying43 (h:=Zd8 (h:=xF (h:=Ze rfl (fun g2=>?_) (fun g2=>?_)))))
 try simp only [sQ,ne_eq] at g2
 refine Za (xA (h:=Zj (Zt ?_)))
 exact ZK .ret (.inl rfl) [_] t1 ⟨Zk (by simp [Zcz];omega),rfl,rfl⟩
 try simp only [sQ,ne_eq] at g2
 refine Zg (Zf (Zh (Za (xM (h:=xV Tryz.underlying43 (h:=xM (h:=Zm (ZO (α:=Nat) [0,12,13,14] (fun k=>[(15,.int .i64 k)]) [] (fun k=>[]) (fun k Bx=>Bx=B∧k≤xs.length∧(xs.take k).all ZaV=true∧(xs.take k).Nodup) (fun k=>xs.length - k) 0 t1 rfl (⟨rfl,Nat.zero_le _,by simp,by simp⟩) (fun k B1 hle1 hI=>?_)))))))))
 obtain ⟨rfl,hk,hv,hn⟩:=hI
 refine ZR [(0,_),(12,_),(13,_),(14,_),(15,_)] [] t5 rfl (Za (ZM (h:=Zh (Ze rfl (fun g3=>?_) (fun g3=>?_)))))
 try simp only [sQ,ne_eq] at g3
 refine Zg (Zf (Zh (Zm (Za (xM (h:=?_))))))
 obtain ⟨x,hx⟩:=Zae (xs:=xs) (i:=k) om
 obtain ⟨bb3,oo3,rfl⟩:=ha.base hx
 obtain ⟨_,⟨rfl,hb4⟩,hc4⟩:=ha.elem hx
 refine xIx Tryz.underlying43 sz9 (h:=y1 lk9 hc4 0 (h:=xA (h:=xA (h:=Za (xM (h:=xR Zr2 rfl (ZcN _ om2 _) (h:=?_)))))))
 refine xN (h:=xM (h:=ZC (d:=23) rfl (fun g4=>?_) (fun g4=>?_)))
 try simp only [sQ,ne_eq] at g4
 refine xP (h:=xP (h:=xP (h:=xP (h:=xP (h:=xT (h:=Ze (t:=true) rfl (fun _=>Za (xA (h:=Zj (ZN (Zt (Z2 (ZN (Zt ?_)))))))) (fun h=>Bool.noConfusion h)))))))
 exact ZK .ret (.inl rfl) [_] t1 ⟨Zk (by rw [← Zge hx g4,Bool.and_false]),rfl,rfl⟩
 try simp only [sQ,ne_eq] at g4
 refine xM (h:=xM (h:=?_))
 obtain ⟨hq6,q6,cp6,hv6,hr6⟩:=ha.cutE 0 k om om
 have hr6n:=hr6.len
 refine Zq (ZmL (a:=0) (b:=k) hv6 om hq6 rfl rfl Tryz.underlying43 sz9 rfl rfl ⟨_,_,rfl,by first | omega | (simp;done) | (simp;omega)⟩ ?_)
 refine xM (h:=xR Zu3 rfl (Zmn _ _ _ _ _ hr6) (h:=xF (h:=Ze rfl (fun g5=>?_) (fun g5=>?_))))
 try simp only [sQ,ne_eq] at g5
 refine Za (xA (h:=Zj (ZN (Zt (Z2 (ZN (Zt ?_)))))))
 exact ZK .ret (.inl rfl) [_] t1 ⟨Zk (by rw [← Zgd hx (by simpa using g5),Bool.and_false]),rfl,rfl⟩
 try simp only [sQ,ne_eq] at g5
 refine Zg (Z7 (Zf (Zn (xD (h:=xM (h:=?_))))))
 exact ZU (k+1) [] so2 ⟨rfl,oz,Zhn hx g4 hv,Zns hx hn (by simpa using g5)⟩ t5 rfl
 try simp only [sQ,ne_eq] at g3
 refine ZS (Zaf (ZW (ZG (Zf (Za (xA (h:=Zj ?_)))))))
 exact ZK .ret (.inl rfl) [_] t1 ⟨Zk (by rw [← ZgT oz hv hn];simp;omega),rfl,rfl⟩

set_option maxHeartbeats 400000 in
theorem Zej (q:Option Addr) (cp:Nat) (x:DLetter) (B:Kn) (ha:SlK B q cp 1 ZJ x.to_) (h1:x.fr.length≤2000000) (h2:x.text.length≤2000000):Z8 (pj J) 60 [.agg #[str x.fr,.slice q x.to_.length cp,str x.text]] B (.bool (ZaJ x)):=by
 refine Zd 17 Tryz.func60 rfl rfl rfl (Nat.le_of_ble_eq_true rfl) ?_
 refine Za (xBx [_,_,_] (h:=fun b1=>xA (h:=ZI [_] rfl (Za (xW Zfz (h:=x1 lk9 0 (h:=xR Zr2 rfl (ZcN _ om2 _) (h:=?_))))))))
 refine xM (h:=ZC (d:=6) rfl (fun g1=>?_) (fun g1=>?_))
 try simp only [sQ,ne_eq] at g1
 refine xW Zeo (h:=x1 Zgs 0 (h:=xR Zvx rfl (Zj3 _ _ _ _ ha) (h:=xT (h:=xM (h:=ZC (d:=11) rfl (fun g2=>?_) (fun g2=>?_))))))
 try simp only [sQ,ne_eq] at g2
 refine xW Zg9 (h:=x1 lk9 0 (h:=xVs Tryz.underlying9 (h:=Zca (h:=xT (h:=xA (h:=Zj ?_))))))
 exact ZK .ret (.inl rfl) [_] t1 ⟨Zk (by rw [Zeg];simp [g1,g2]),rfl,rfl⟩
 try simp only [sQ,ne_eq] at g2
 refine xP (h:=xP (h:=xP (h:=xP (h:=xF (h:=xA (h:=Zj ?_))))))
 exact ZK .ret (.inl rfl) [_] t1 ⟨Zk (by rw [Zeg];simp [g1,g2]),rfl,rfl⟩
 try simp only [sQ,ne_eq] at g1
 refine xP (h:=xP (h:=xP (h:=xF (h:=xM (h:=xP (h:=xP (h:=xP (h:=xP (h:=xF (h:=xA (h:=Zj ?_)))))))))))
 exact ZK .ret (.inl rfl) [_] t1 ⟨Zk (by rw [Zeg];simp [g1]),rfl,rfl⟩

set_option maxHeartbeats 400000 in
theorem ZgK (aq:Option Addr) (cq:Nat) (q:DQueue) (B:Kn) (hq:SlK B aq cq 4 Zi q.items):Z8 (pj J) 87 [.agg #[.int .i64 q.next,.slice aq q.items.length cq]] B (.bool (ZaP q)):=by
 refine Zd 48 Tryz.func87 rfl rfl rfl (Nat.le_of_ble_eq_true rfl) ?_
 have hqn:=hq.len
 refine Za (xBx [_,_] (h:=fun b1=>xA (h:=ZI [_] rfl (Za (xA (h:=Zh (Za (xA (h:=Zm (ZO (α:=Nat × Int) [0,1] (fun p=>[(3,.int .i64 p.2),(4,.int .i64 p.1)]) [] (fun p=>[]) (fun p Bx=>Bx=B∧p.1≤q.items.length∧Zdq 0 q.items=Zdq p.2 (q.items.drop p.1)∧0≤p.2∧p.2≤99) (fun p=>q.items.length - p.1) (0,0) t2 rfl (⟨rfl,Nat.zero_le _,rfl,by decide,by decide⟩) (fun p B2 hle2 hI=>?_)))))))))))
 obtain ⟨rfl,hk,hs,hl0,hl1⟩:=hI
 refine ZR [(0,_),(1,_),(3,_),(4,_)] [_] t4 rfl (Zh (Za (xM (h:=xW Zba (h:=x1 Zgt 0 (h:=xV Tryz.underlying32 (h:=ZM (h:=Ze rfl (fun g1=>?_) (fun g1=>?_)))))))))
 try simp only [sQ,ne_eq] at g1
 refine Zg (Zf (Zh (Zm (Za (xW Zba (h:=x1 Zgt 0 (h:=xM (h:=?_))))))))
 obtain ⟨x,hx⟩:=Zae (xs:=q.items) (i:=p.1) om
 obtain ⟨bb4,oo4,rfl⟩:=hq.base hx
 obtain ⟨_,⟨qi5,ci5,rfl,hi5,hb5,hb5b⟩,hc5⟩:=hq.elem hx
 have hi5n:=hi5.len
 refine xIx Tryz.underlying32 Zbl (h:=?_)
 replace hs:=Znd hs hx
 refine yL [_,_,_,_] Zd4 hc5 0 (h:=xAl [_,_,_,_] Zde (h:=fun b6=>xS [_,_,_,_] 1 [_,_,_,_] Zbl (h:=ZI [_,_] rfl (Zh (Za (xW ZdX (h:=x1 lk3 1 (h:=xM (h:=xD (h:=xR ZpO rfl (Zft _ _ _ _) (h:=xN (h:=xM (h:=?_)))))))))))))
 refine ZC (d:=24) rfl (fun g2=>?_) (fun g2=>?_)
 try simp only [sQ,ne_eq] at g2
 refine xP (h:=xP (h:=xP (h:=xP (h:=xP (h:=xP (h:=xP (h:=xP (h:=xP (h:=xT (h:=Ze (t:=true) rfl (fun _=>Za (xA (h:=?_))) (fun h=>Bool.noConfusion h)))))))))))
 refine Zj (Zt (ZN (Zt (Z2 (ZN (Zt ?_))))))
 exact ZK .ret (.inl rfl) [_] t1 ⟨Zk (Zk8 (by rw [hs,if_neg];intro h;simp [h.1] at g2)),rfl,rfl⟩
 try simp only [sQ,ne_eq] at g2
 simp only [Bool.and_eq_true,decide_eq_true_eq] at g2
 refine xW ZdW (h:=x1 lk9 1 (h:=xW Zcj (h:=x1 Zgs 1 (h:=xW Ze8 (h:=x1 lk9 1 (h:=xB [(0,_),(1,_),(2,_)] [_,_,_] [_,_,_] ZvS Zp9 (h:=xR Zuu rfl (Zed _ _ ⟨x.fr,x.left,x.text⟩ _ hi5 oa oa) (h:=?_))))))))
 refine xN (h:=xF (h:=Ze rfl (fun g3=>?_) (fun g3=>?_)))
 try simp only [sQ,ne_eq] at g3
 refine Za (xA (h:=Zj (Zt (ZN (Zt (Z2 (ZN (Zt ?_))))))))
 exact ZK .ret (.inl rfl) [_] t1 ⟨Zk (Zk8 (by rw [hs,if_neg];intro h;rw [Zfv,g3] at h;cases h.2)),rfl,rfl⟩
 try simp only [sQ,ne_eq] at g3
 refine Zg (Zf (Zn (xW ZdX (h:=x1 lk3 1 (h:=xA (h:=Z7 (Zf (Zn (xM (h:=xD (h:=xA (h:=?_))))))))))))
 exact ZU (p.1+1,x.id) [0] so2 ⟨rfl,so,by rw [hs,if_pos ⟨g2,g3⟩],so,so⟩ t4 rfl
 try simp only [sQ,ne_eq] at g1
 rw [Zos oz,Zdq] at hs
 refine ZS (Zaf (ZW (ZG (Zf (Za (xW Zcw (h:=x1 lk3 0 (h:=xM (h:=xD (h:=xR ZpO rfl (Zft _ _ _ _) (h:=xM (h:=ZC (d:=42) rfl (fun g1=>?_) (fun g1=>?_)))))))))))))
 try simp only [sQ,ne_eq] at g1
 refine xW Zba (h:=x1 Zgt 0 (h:=xV Tryz.underlying32 (h:=Zca (h:=xT (h:=xA (h:=Zj ?_))))))
 exact ZK .ret (.inl rfl) [_] t1 ⟨Zk (by rw [← Zk7 hs,Bool.eq_iff_iff];simp [g1,g1];try omega),rfl,rfl⟩
 try simp only [sQ,ne_eq] at g1
 refine xP (h:=xP (h:=xP (h:=xP (h:=xF (h:=xA (h:=Zj ?_))))))
 exact ZK .ret (.inl rfl) [_] t1 ⟨Zk (by rw [← Zk7 hs,Bool.eq_iff_iff];simp [g1,g1];try omega),rfl,rfl⟩

set_option maxHeartbeats 400000 in
theorem Zas (aq:Option Addr) (cq:Nat) (q:DQueue) (B:Kn) (hq:SlK B aq cq 4 Zi q.items):ZL (pj J) 91 [.agg #[.int .i64 q.next,.slice aq q.items.length cq]] B [] (fun v B' Ls=>∃l a cp,Ls=[l]∧v = .agg #[.int .i64 q.next,.slice a q.items.length cp]∧Zaa (B'.less B) l a cp 126 4 Zi q.items):=by
 refine Zd 34 Tryz.func91 rfl rfl rfl (Nat.le_of_ble_eq_true rfl) ?_
 have hqn:=hq.len
 refine Za (xBx [_,_] (h:=fun b1=>xAl [_,_] Zhp (h:=fun b2=>ZI [_,_] rfl (Za (xW Zcw (h:=x1 lk3 0 (h:=xBs [] [] Tryz.underlying32 Zbl Zde (h:=fun b3=>xB [(0,_),(1,_)] [_,_] [_,_] Zr1 Zhp (h:=xAl [_,_] Zhp (h:=fun b4=>xS [_,_] 3 [_,_] ZfM (h:=ZI [_,_,_,_] rfl (Zh ?_))))))))))))
 refine Za (xA (h:=Zm (ZO (α:=Gh DItem) [0,1,2,3] (fun g=>[(4,.int .i64 g.k)]) [2,3] (fun g=>[g.l,ZaE b4 [.int .i64 q.next,.slice g.a g.xs.length g.c] 34]) (fun g Bx=>g.k≤q.items.length∧g.xs=q.items.take g.k∧Zaa (Bx.less B) g.l g.a g.c 126 4 Zi g.xs) (fun g=>q.items.length - g.k) ⟨0,0,_,_,_,[]⟩ t1 rfl (⟨Nat.zero_le _,rfl,.lit0⟩) (fun g B5 hle5 hI=>?_))))
 obtain ⟨hk,hxs,hv⟩:=hI
 have hxn:=congrArg List.length hxs
 rw [List.length_take] at hxn
 replace hq:=hq.mono Zi.mono hle5
 refine ZR [(0,_),(1,_),(2,_),(3,_),(4,_)] [_,_,_,_] t5 rfl (Zh (Za (xM (h:=xW Zba (h:=x1 Zgt 0 (h:=xV Tryz.underlying32 (h:=ZM (h:=Ze rfl (fun g1=>?_) (fun g1=>?_)))))))))
 try simp only [sQ,ne_eq] at g1
 refine Zg (Zf (Zh (Zm (Za (xW Zba (h:=x1 Zgt 0 (h:=xM (h:=?_))))))))
 obtain ⟨x,hx⟩:=Zae (xs:=q.items) (i:=g.k) om
 obtain ⟨bb7,oo7,rfl⟩:=hq.base hx
 obtain ⟨_,⟨qi8,ci8,rfl,hi8,hb8,hb8b⟩,hc8⟩:=hq.elem hx
 have hi8n:=hi8.len
 refine xIx Tryz.underlying32 Zbl (h:=yL [_,_,_,_] Zd4 hc8 0 (h:=xAl [_,_,_,_] Zde (h:=fun b9=>xS [_,_,_,_] 4 [_,_,_,_] Zbl (h:=ZI [_,_,_,_,_] rfl (Za (xBs [] [] Tryz.underlying43 sz9 zo9 (h:=fun b10=>xW Zcj (h:=x1 Zgs 4 (h:=Zq (ZbQ (R:=ZJ) 5 rfl (Zaa.lit0 (R:=ZJ)) rfl rfl rfl ZrL Zr0 rfl rfl rfl hi8.rows ZJ.one rfl om (fun l11 p11 c11 hv11=>?_)))))))))))
 refine xW Zcj (h:=xS [_] 4 [_,_,_,_] ZtC (h:=ZI [_,_,_,_,_,_] rfl (Zr9 5 rfl hv11 ZJ.any om3 hle5 (fun B12 hle12 hr12f=>?_))))
 have hr12:=hr12f.mono ZJ.mono Kn.less_le
 replace hq:=hq.mono Zi.mono hle12
 replace hv:=hv.mono Zi.mono (Kn.less_mono hle12)
 have hr12n:=hr12.len
 refine Zn (xW Zba (h:=x1 Zgt 3 (h:=xL [_,_,_,_] Zd4 4 (h:=xBs [(0,_)] [_,_,_,_] Tryz.underlying32 Zbl Zde (h:=fun b13=>Zq (ZkT (z:=⟨x.id,x.fr,x.text,x.left⟩) (R:=Zi) 2 rfl hv rfl rfl rfl Ztd ZtD rfl rfl (Zcm.box 6 rfl) rfl rfl (⟨_,_,rfl,hr12f,by first | assumption | omega | (simp;done) | (simp;omega),by first | assumption | omega | (simp;done) | (simp;omega)⟩) om (fun l14 p14 c14 hv14=>?_)))))))
 refine xW Zba (h:=xS [_] 3 [_,_] Zsx (h:=Z7 (Zf (Zn (xM (h:=xD (h:=xA (h:=?_))))))))
 exact ZU ⟨g.k+1,0,l14,p14,c14,(g.xs ++ [⟨x.id,x.fr,x.text,x.left⟩])⟩ [0,1,2,3] so2 ⟨so,by simp only [];rw [Zcq hx,hxs],hv14⟩ t5 rfl
 try simp only [sQ,ne_eq] at g1
 have hxe:g.xs=q.items:=by rw [hxs];exact List.take_of_length_le oz
 refine ZS (Zaf (ZW (ZG (Zf (Za (xL [_,_] Zdg 3 (h:=xS [_,_] 1 [_,_] ZfM (h:=ZI [_,_,_,_] rfl (Zj ?_)))))))))
 exact Zbw .ret (.inl rfl) [_] [2] rfl ⟨⟨_,rfl,.inr ⟨[_,_],Zdg,Za9 1 rfl rfl rfl,rfl⟩⟩,trivial⟩ ⟨_,_,_,rfl,by rw [← hxe];rfl,hxe ▸ hv⟩

set_option maxHeartbeats 400000 in
theorem Zna (aq:Option Addr) (cq:Nat) (q:DQueue) (qx:Option Addr) (cx:Nat) (x:DLetter) (B:Kn) (hq:SlK B aq cq 4 Zi q.items) (hx:SlK B qx cx 1 ZJ x.to_) (h1:x.fr.length≤2000000) (h2:x.text.length≤2000000):ZL (pj J) 58 [.agg #[.int .i64 q.next,.slice aq q.items.length cq],.agg #[str x.fr,.slice qx x.to_.length cx,str x.text]] B [] (fun v B' Ls=>(∃l a cp,Ls=[l]∧v = .tuple #[.agg #[.int .i64 (ZeR q x).1.next,.slice a (ZeR q x).1.items.length cp],.bool (ZeR q x).2]∧Zaa (B'.less B) l a cp 126 4 Zi (ZeR q x).1.items)):=by
 refine Zd 49 Tryz.func58 rfl rfl rfl (Nat.le_of_ble_eq_true rfl) ?_
 have hqn:=hq.len
 have hxn:=hx.len
 refine Za (xBx [_,_] (h:=fun b1=>xBx [_,_,_] (h:=fun b2=>xAl [_,_] Zhp (h:=fun b3=>xA (h:=ZI [_,_,_] rfl (Zh (Za (xL [_,_] Zdg 0 (h:=xR ZvY rfl (ZgK _ _ q _ hq) (h:=xN (h:=xM (h:=ZC (d:=10) rfl (fun g1=>?_) (fun g1=>?_)))))))))))))
 try simp only [sQ,ne_eq] at g1
 refine xP (h:=xP (h:=xP (h:=xT (h:=Ze (t:=true) rfl (fun _=>Za (xB [] [_,_] [_,_] Zr1 Zhp (h:=xS [_,_] 2 [_,_] ZfM (h:=xA (h:=ZI [_,_,_] rfl (Zj (Zt ?_))))))) (fun h=>Bool.noConfusion h)))))
 have he:=ZjJ (x:=x) g1
 exact Zte .ret (.inl rfl) [_,_] ⟨⟨_,rfl,.inr ⟨[_,_],Zdg,Za9 2 rfl rfl rfl,rfl⟩⟩,rfl,trivial⟩ ⟨_,none,0,rfl,by rw [he];rfl,by rw [he];exact Zaa.nil⟩
 try simp only [sQ,ne_eq] at g1
 refine xL [_,_,_] ZhQ 1 (h:=xR Zuu rfl (Zed _ _ x _ hx oa oa) (h:=?_))
 refine xN (h:=xF (h:=Ze rfl (fun g2=>?_) (fun g2=>?_)))
 try simp only [sQ,ne_eq] at g2
 refine Za (xB [] [_,_] [_,_] Zr1 Zhp (h:=xS [_,_] 2 [_,_] ZfM (h:=xA (h:=ZI [_,_,_] rfl (Zj (Zt ?_))))))
 have he:=ZjI (q:=q) g2
 exact Zte .ret (.inl rfl) [_,_] ⟨⟨_,rfl,.inr ⟨[_,_],Zdg,Za9 2 rfl rfl rfl,rfl⟩⟩,rfl,trivial⟩ ⟨_,none,0,rfl,by rw [he];rfl,by rw [he];exact Zaa.nil⟩
 try simp only [sQ,ne_eq] at g2
 have hqb:=Zct g1
 refine Zg (Zf (Za (xL [_,_] Zdg 0 (h:=Zq (ZF rfl rfl ZhZ rfl (Zas _ _ q _ hq) ?_)))))
 rintro _ Bk _ hlek ⟨lk,ak,ck,rfl,rfl,hvk⟩
 replace hq:=hq.mono Zi.mono hlek
 replace hx:=hx.mono ZJ.mono hlek
 replace hvk:=hvk.mono Zi.mono (Kn.less_up (Kn.le.refl _) (Kn.le.refl _))
 refine xAl [_,_] Zhp (h:=fun b7=>xS [_,_] 4 [_,_] ZfM (h:=ZI [_,_,_,_,_] rfl (Zh (Za (xW Zba (h:=x1 Zgt 0 (h:=xV Tryz.underlying32 (h:=Zd9 (h:=xM (h:=ZC (d:=22) rfl (fun g3=>?_) (fun g3=>?_)))))))))))
 try simp only [sQ,ne_eq] at g3
 refine xP (h:=xP (h:=xP (h:=xT (h:=Ze (t:=true) rfl (fun _=>Za (xL [_,_] Zdg 4 (h:=xS [_,_] 2 [_,_] ZfM (h:=xA (h:=ZI [_,_,_,_,_] rfl (Zj (Zt ?_))))))) (fun h=>Bool.noConfusion h)))))
 have he:=ZfF g1 g2 (.inl oz)
 exact Zbw .ret (.inl rfl) [_,_] [3] rfl ⟨⟨_,rfl,.inr ⟨[_,_],Zdg,Za9 2 rfl rfl rfl,rfl⟩⟩,rfl,trivial⟩ ⟨_,_,_,rfl,by rw [he];rfl,by rw [he];exact hvk⟩
 try simp only [sQ,ne_eq] at g3
 refine xW Zcw (h:=x1 lk3 0 (h:=Zd8 (h:=xF (h:=Ze rfl (fun g4=>?_) (fun g4=>?_)))))
 try simp only [sQ,ne_eq] at g4
 refine Za (xL [_,_] Zdg 4 (h:=xS [_,_] 2 [_,_] ZfM (h:=xA (h:=ZI [_,_,_,_,_] rfl (Zj (Zt ?_))))))
 have he:=ZfF g1 g2 (.inr oz)
 exact Zbw .ret (.inl rfl) [_,_] [3] rfl ⟨⟨_,rfl,.inr ⟨[_,_],Zdg,Za9 2 rfl rfl rfl,rfl⟩⟩,rfl,trivial⟩ ⟨_,_,_,rfl,by rw [he];rfl,by rw [he];exact hvk⟩
 try simp only [sQ,ne_eq] at g4
 refine Zg (Zf (Zh (Zac (keeps _ [0,1,4] _) mo kr ⟨Kn.le.refl _,ZaM.refl _ _⟩ (fun _ _=>?_))))
 refine aW 0 rfl Zba (h:=aT 1 rfl (ZZ fun D B L hI=>Zx rfl rfl Zgt rfl (atL 4 (hI.2.2.2.1.trans rfl) rfl rfl) r4) (h:=aW 2 rfl Zcw (h:=aT 3 rfl (ZZ fun D B L hI=>Zx rfl rfl lk3 rfl (atL 0 (hI.2.1.trans rfl) rfl rfl) r4) (h:=aW 4 rfl Zfz (h:=aT 5 rfl (ZZ fun D B L hI=>Zx rfl rfl lk9 rfl (atL 1 (hI.2.2.1.trans rfl) rfl rfl) r4) (h:=aW 6 rfl Zg9 (h:=aT 7 rfl (ZZ fun D B L hI=>Zx rfl rfl lk9 rfl (atL 1 (hI.2.2.1.trans rfl) rfl rfl) r4) (h:=aW 9 rfl Zeo (h:=aT 10 rfl (ZZ fun D B L hI=>Zx rfl rfl Zgs rfl (atL 1 (hI.2.2.1.trans rfl) rfl rfl) r4) (h:=Zw 8 kr rfl kr (ZP (parts:=[]) [] rfl rfl Tryz.underlying43 sz9 zo9 rfl rfl rfl rfl rfl (fun b8=>?_))))))))))))
 refine ⟨⟨Kn.le.refl _,t3⟩,(Zw 11 kr rfl kr (ZbQ (R:=ZJ) 5 rfl (Zaa.lit0 (R:=ZJ)) rfl rfl rfl ZrL Zr0 rfl rfl rfl hx.rows ZJ.one rfl om (fun l9 p9 c9 hv9=>?_)))⟩
 refine ⟨⟨Kn.le.refl _,t3⟩,(Ztx 5 rfl hv9 ZJ.any om3 hlek (fun B' hle'=>⟨hle',t3⟩) (fun B10 hle10 hr10f=>?_))⟩
 have hr10:=hr10f.mono ZJ.mono Kn.less_le
 replace hq:=hq.mono Zi.mono hle10
 replace hx:=hx.mono ZJ.mono hle10
 replace hvk:=hvk.mono Zi.mono (Kn.less_mono hle10)
 have hr10n:=hr10.len
 refine aT 12 rfl (ZZ fun D B L hI=>ZaK (parts:=[(0,_),(1,_),(2,_),(3,_)]) [_,_,_,_] [_,_,_,_] rfl rfl ZsJ Zde rfl rfl rfl r4) (h:=Zw 13 kr rfl kr (ZP (parts:=[(0,_)]) [_,_,_,_] rfl rfl Tryz.underlying32 Zbl Zde rfl rfl rfl rfl rfl (fun b11=>?_)))
 refine ⟨⟨hle10,t3⟩,(Zw 14 kr rfl kr (ZkT (z:=⟨q.next,x.fr,x.text,x.to_⟩) (R:=Zi) 3 rfl hvk rfl rfl rfl Ztd ZtD rfl rfl (Zcm.box 6 rfl) rfl rfl (⟨_,_,rfl,hr10f,by first | assumption | omega | (simp;done) | (simp;omega),by first | assumption | omega | (simp;done) | (simp;omega)⟩) om (fun l12 p12 c12 hv12=>?_)))⟩
 refine ⟨⟨hle10,t3⟩,(aW 15 rfl Zba (h:=Zav 16 kr rfl kr kr kr (ZT [_] 4 [_,_] rfl rfl Zsx rfl rfl rfl rfl rfl rfl rfl rfl ?_)))⟩
 refine Zf (ZI [_,_,_,_,_,_,_] rfl (Za (xW Zcw (h:=x1 lk3 0 (h:=xD (h:=xW Zcw (h:=xS [_] 4 [_,_] sz3 (h:=ZI [_,_,_,_,_,_,_] rfl (Za (xL [_,_] Zdg 4 (h:=xS [_,_] 2 [_,_] ZfM (h:=xA (h:=?_)))))))))))))
 refine ZI [_,_,_,_,_,_,_] rfl (Zj ?_)
 have he:=ZoE g1 g2 oz oz
 exact Zbw .ret (.inl rfl) [_,_] [3] rfl ⟨⟨_,rfl,.inr ⟨[_,_],Zdg,Za9 2 rfl rfl rfl,rfl⟩⟩,rfl,trivial⟩ ⟨_,_,_,rfl,by rw [he];rfl,by rw [he];exact hv12⟩

set_option maxHeartbeats 400000 in
theorem ZgX (q:Option Addr) (cp:Nat) (x:DItem) (B:Kn) (hx:SlK B q cp 1 ZJ x.left):ZL (pj J) 119 [.agg #[.int .i64 x.id,str x.fr,str x.text,.slice q x.left.length cp]] B [] (fun v B' Ls=>B'=B∧∃ins a c,Ls=[ins]∧v = .agg #[.int .i64 x.id,str x.fr,str x.text,.slice a x.left.length c]∧ZoG 9 ins a c x.left):=by
 refine Zd 9 Tryz.func119 rfl rfl rfl (Nat.le_of_ble_eq_true rfl) ?_
 have hxn:=hx.len
 refine Za (xBx [_,_,_,_] (h:=fun b1=>xAl [_,_,_,_] Zde (h:=fun b2=>ZI [_,_] rfl (Za (xBs [] [] Tryz.underlying43 sz9 zo9 (h:=fun b3=>xW Zcj (h:=x1 Zgs 0 (h:=Zq (ZbQ (R:=ZJ) 2 rfl (Zaa.lit0 (R:=ZJ)) rfl rfl rfl ZrL Zr0 rfl rfl rfl hx.rows ZJ.one rfl om (fun l4 p4 c4 hv4=>?_))))))))))
 refine xW Zcj (h:=xS [_] 0 [_,_,_,_] ZtC (h:=ZI [_,_,_] rfl (Za (xL [_,_,_,_] Zd4 0 (h:=xS [_,_,_,_] 1 [_,_,_,_] Zbl (h:=ZI [_,_,_] rfl (Zj ?_)))))))
 exact Zbw .ret (.inl rfl) [_] [2] rfl ⟨⟨_,rfl,.inr ⟨[_,_,_,_],Zd4,Za9 1 rfl rfl rfl,rfl⟩⟩,trivial⟩ ⟨rfl,_,_,_,rfl,rfl,(hv4).anyK ZJ.any⟩

set_option maxHeartbeats 400000 in
theorem Zmq (q:Option Addr) (m cp:Nat) (B:Kn):ZL (pj J) 175 [.slice q m cp] B [] (fun v B' Ls=>B'=B∧∃b,Ls=[ZaE b [.slice q m cp] 32]∧v = .func (.func 202) #[] #[ptr ⟨b,0,none⟩]):=by
 refine Zd 4 Tryz.func175 rfl rfl rfl (Nat.le_of_ble_eq_true rfl) ?_
 refine Za (xBx [_] (h:=fun b1=>xA (h:=ZI [_] rfl (Za (Zq (Zdn (xs:=[]) (ys:=[_]) rfl rfl rfl rfl (xA (h:=Zj ?_))))))))
 exact Zbw .ret (.inl rfl) [_] [0] rfl t1 ⟨rfl,_,rfl,rfl⟩

set_option maxHeartbeats 400000 in
theorem ZrU (l bc:Nat) (q:Option Addr) (cp:Nat) (xs:List DItem) (Inv:Nat→Kn→Cells→Prop) (s0:Cells) (B:Kn) (hq:SlK B q cp 4 Zi xs) (hcc:ZaX B bc 0 [.slice q xs.length cp]) (h0:Inv xs.length B s0) (hround :∀(j:Nat) (i:Int) (x:DItem) (row:List Value) (B':Kn) (s:Cells),B.le B'→Inv (j+1) B' s→xs[j]? = some x→Zi B' row x→∃lp,(l,Obj.loop lp)∈s∧lp.params.size=2∧ZoH (pj J) l lp.fn (ZjF lp.params lp.tmps [.int .i64 i,.agg row.toArray]) lp.assign lp.body B' s (fun B'' s'=>Inv j B'' s')):ZL (pj J) 202 [.func (.yield l) #[] #[],ptr ⟨bc,0,none⟩] B [s0] (fun v B' Ls=>∃s,Ls=[s]∧Inv 0 B' s):=by
 refine Zd 19 Tryz.func202 rfl rfl rfl (Nat.le_of_ble_eq_true rfl) ?_
 have hqn:=hq.len
 refine Za (Zq (Zx rfl rfl Zgt rfl (hcc _ 0 _ rfl) (xV Tryz.underlying32 (h:=xU (h:=xA (h:=Zm (ZO (α:=Int × Cells) [0,1] (fun g=>[(3,.int .i64 g.1)]) [0] (fun g=>[g.2]) (fun g Bx=>-1≤g.1∧g.1<xs.length∧Inv (g.1+1).toNat Bx g.2) (fun g=>(g.1+1).toNat) ((xs.length:Int) - 1,s0) t1 rfl (⟨so,so,by rw [show ((xs.length:Int) - 1+1).toNat=xs.length from by omega];exact h0⟩) (fun g B1 hle1 hI=>?_))))))))
 obtain ⟨hk1,hk,hI⟩:=hI
 replace hq:=hq.mono Zi.mono hle1
 replace hcc:=hcc.mono hle1
 refine ZR [(0,_),(1,_),(3,_)] [_] t3 rfl (Zh (Za (xM (h:=Zd9 (h:=Ze rfl (fun g1=>?_) (fun g1=>?_))))))
 try simp only [sQ,ne_eq] at g1
 refine Zg (Zf (Zh (Zm (Za (xM (h:=xM (h:=Zq (Zx rfl rfl Zgt rfl (hcc _ 0 _ rfl) (xM (h:=?_))))))))))
 obtain ⟨x,hx⟩:=ZtF (xs:=xs) (i:=g.1) om om
 obtain ⟨bb3,oo3,rfl⟩:=hq.base hx
 obtain ⟨_,⟨qi4,ci4,rfl,hi4,hb4,hb4b⟩,hc4⟩:=hq.elem hx
 have hi4n:=hi4.len
 refine xIx Tryz.underlying32 Zbl (h:=?_)
 obtain ⟨lp,hl,hs,hr⟩:=hround g.1.toNat g.1 x _ _ g.2 (oy) (by rw [show g.1.toNat+1=(g.1+1).toNat from by omega];exact hI) hx ⟨_,_,rfl,oy,oy,oy⟩
 refine yL [_,_,_,_] Zd4 hc4 0 (h:=Zq (ZqO (j:=0) rfl hl rfl rfl rfl rfl hs.symm hr (fun Bc sc hlec hIc=>?_)))
 replace hq:=hq.mono Zi.mono hlec
 replace hcc:=hcc.mono hlec
 replace hi4:=hi4.mono ZJ.mono hlec
 replace hc4:=hc4.mono hlec
 refine xN (h:=ZI [_] rfl (Ze rfl (fun g2=>by cases g2) (fun g2=>?_)))
 try simp only [sQ,ne_eq] at g2
 refine Zg (Z7 (Zf (Zn (xM (h:=xU (h:=xA (h:=?_)))))))
 exact ZU (g.1 - 1,sc) [0] so2 ⟨so,so,by simp only [];rw [show (g.1 - 1+1).toNat=g.1.toNat from by omega];exact hIc⟩ t3 rfl
 try simp only [sQ,ne_eq] at g1
 refine ZS (Zaf (ZW (ZG ?_)))
 exact Zbw .normal (.inr rfl) [] [0] rfl trivial ⟨_,rfl,by rw [show (g.1+1).toNat=0 from by omega] at hI;exact hI⟩

set_option maxHeartbeats 400000 in
theorem Zj6 (q:Option Addr) (cp:Nat) (x:DQueue) (B:Kn) (hx:SlK B q cp 4 Zi x.items):ZL (pj J) 132 [.agg #[.int .i64 x.next,.slice q x.items.length cp]] B [] (fun v B' Ls=>∃s,Ls=[s]∧Zfd 9 171 v x.items s):=by
 refine ZjC 17 Tryz.func132 rfl rfl rfl (Nat.le_of_ble_eq_true rfl) ?_
 refine Zeb (xBx [_,_] (h:=fun b1=>xA (h:=ZmY [(0,_),(1,_),(2,_)] [_] t3 rfl (Zeb (xAl [_] ZtV (h:=fun b2=>ZmY [(0,_),(1,_),(2,_),(3,_)] [_,_] t4 rfl (Zst (Zeb (xW Zba (h:=x1 Zgt 0 (h:=Zq (ZF rfl rfl ZuX rfl (Zmq _ _ _ _) ?_))))))))))))
 rintro _ B3 _ hle3 ⟨rfl,b3,rfl,rfl⟩
 refine ZmY [(0,_),(1,_),(2,_),(3,_),(8,_)] [_,_,_] t5 rfl (ZqX (Zt9 2 rfl (fun B4 hle4 hm4=>?_)))
 replace hx:=hx.mono Zi.mono hle4
 have hcc:=Zcs hm4
 refine Zt8 [1] rfl (ZoU (J:=fun B' L'=>∃v s,L'=[ZaE b2 [v] 167,s]∧Zfd 9 171 v x.items s) (cap:=[_]) rfl ZuE (fun lp l hTn hTS hps hasg hbd hst hlp=>?_) (fun r B9 L9 hle9 hJ=>?_))
 refine ZL.mono (ZrU l _ _ _ x.items (fun j B9 s9=>∃v cells,s9.Perm ((l,Obj.loop lp) :: (ZaE b2 [v] 167 ++ cells))∧Zfd 9 171 v (x.items.drop j) cells) _ _ hx hcc ⟨.pointer none,[],by simp,by rw [List.drop_length];exact ⟨rfl,rfl⟩⟩ ?_) ?_
 rintro j i y row B9 s9 hle9 ⟨v,cells,hp,hl⟩ hy hrow
 obtain ⟨qy,cy,rfl,hy5,hy6,hy7⟩:=hrow
 have hy5n:=hy5.len
 obtain ⟨p9,rfl⟩:=hl.ptr
 obtain ⟨hA,hN⟩:=Zp0 (a:=9) (b:=10) (x:=.int .i64 i) (y:=.agg #[.int .i64 y.id,str y.fr,str y.text,.slice qy y.left.length cy]) hTS hTn rfl rfl
 refine ⟨lp,hp.mem_iff.2 (List.mem_cons_self ..),by rw [hps];rfl,?_⟩
 rw [hps,hasg,hbd]
 refine Znf (L:=[ZaE b2 [.pointer p9] 167,cells]) (lp:=lp) hN [(3,_),(9,_),(10,_)] (hA.sub t3) (by simpa using hp) hst ?_
 refine Zn (xAl [_,_,_,_] Zde (h:=fun b4=>xS [_,_,_,_] 3 [_,_,_,_] Zbl (h:=⟨rfl,rfl,rfl,(ZI [_,_,_,_] rfl (Zm (Zac (keeps _ [1,3] _) mo kr ⟨Kn.le.refl _,ZaM.refl _ _⟩ (fun _ _=>?_))))⟩)))
 refine aT 0 rfl (ZZ fun D B L hI=>ZV [_,_,_,_] rfl rfl Zd4 rfl (Za9 3 (hI.2.2.1.trans rfl) rfl rfl) r4) (h:=aT 2 rfl (ZZ fun D B L hI=>Zx rfl rfl Zri rfl (atL 1 (hI.2.1.trans rfl) rfl rfl) r4) (h:=Zw 1 kr rfl kr (ZF rfl rfl Ztj rfl (ZgX _ _ y _ hy5) ?_)))
 rintro _ B5 _ hle5 ⟨rfl,ins5,a5,c5,rfl,rfl,hs5⟩
 refine ⟨⟨Kn.le.refl _,t2⟩,(aT 3 rfl (ZZ fun D B L hI=>ZaK (parts:=[(0,_),(1,_)]) [_,_,_,_,_] [_,_,_,_,_] rfl rfl Zue ZtU rfl rfl rfl r4) (h:=Zw 4 kr rfl kr (Zsq (l:=[_,_,_,_,_]) rfl rfl rfl rfl (fun b6=>?_))))⟩
 refine ⟨⟨Kn.le.refl _,t2⟩,(Zav 5 kr rfl kr kr kr (ZT [_] 1 [_] rfl rfl Zuc rfl rfl rfl rfl rfl rfl rfl rfl ?_))⟩
 refine Z7 (⟨rfl,rfl,(l,Obj.loop lp) :: (ZaE b2 [ptr ⟨b6,0,none⟩] 167 ++ (ZaE b6 ([.int .i64 y.id,str y.fr,str y.text,.slice a5 y.left.length c5] ++ [.pointer p9]) 171 ++ (ins5 ++ cells))),ZaE b4 [.int .i64 y.id,str y.fr,str y.text,.slice qy y.left.length cy] 126,?_,_,_,.refl _,?_⟩)
 refine (ZaF [0,1,5,4,2] _ _ _ rfl).trans ?_
 rw [hlp]
 simp [ZaE]
 rw [Zor hy]
 exact ⟨_,_,_,_,_,rfl,.refl _,⟨_,_,rfl,hs5,oy,oy,oy⟩,hl⟩
 rintro _ B9 _ hle9 ⟨s9,rfl,v,cells,hp,hl⟩
 exact ⟨[ZaE b2 [v] 167,cells],_,rfl,by simpa using hp,v,cells,rfl,by simpa using hl⟩
 obtain ⟨v,s9,rfl,hl⟩:=hJ
 refine Z7 (Zf (Za (x1 Zri 0 (h:=xA (h:=ZI [_,_,_] rfl (Zj ?_))))))
 exact ⟨.inl rfl,r,2,rfl,rfl,[_],[_],t1,⟨_,List.perm_append_comm⟩,_,rfl,hl⟩

set_option maxHeartbeats 400000 in
theorem Znj (nx:Int) (v:Value) (xs:List DItem) (cells:Cells) (B:Kn) (hn:xs.length≤2000000) (hv:Zfd 9 171 v xs cells):ZL (pj J) 135 [.int .i64 nx,v] B [cells] (fun v B' Ls=>B'=B∧∃l q c,Ls=[l]∧v = .agg #[.int .i64 nx,.slice q xs.length c]∧Zbb l q c 126 4 (Z3 9) xs):=by
 refine Zd 27 Tryz.func135 rfl rfl rfl (Nat.le_of_ble_eq_true rfl) ?_
 obtain ⟨p,rfl⟩:=hv.ptr
 refine Za (xAl [_,_] Zhp (h:=fun b1=>ZI [_,_] rfl (Za (xM (h:=xBs [] [] Tryz.underlying32 Zbl Zde (h:=fun b2=>xB [(0,_),(1,_)] [_,_] [_,_] Zr1 Zhp (h:=xAl [_,_] Zhp (h:=fun b3=>xS [_,_] 3 [_,_] ZfM (h:=ZI [_,_,_,_] rfl (Zh (Za (xM (h:=?_)))))))))))))
 refine xA (h:=Zm (ZO (α:=QOf) [0,1,4,5] (fun g=>[(6,.pointer g.p)]) [0,2,3] (fun g=>[g.cells,g.l,ZaE b3 [.int .i64 nx,.slice g.q g.ys.length g.c] 34]) (fun g Bx=>Bx=B∧g.ys ++ g.xs=xs∧Zbb g.l g.q g.c 126 4 (Z3 9) g.ys∧Zfd 9 171 (.pointer g.p) g.xs g.cells) (fun g=>g.xs.length) ⟨p,[],xs,_,_,_,_⟩ t1 rfl (⟨rfl,rfl,.lit0,hv⟩) (fun g B4 hle4 hI=>?_)))
 obtain ⟨rfl,hxs,hvd,hl⟩:=hI
 refine ZR [(0,_),(1,_),(4,_),(5,_),(6,_)] [_,_,_,_] t5 rfl (Zh (Za (xM (h:=Zq (Zsc rfl rfl rfl rfl rfl (ZpK Tryz.underlying167) (Ze rfl (fun g1=>?_) (fun g1=>?_)))))))
 try simp only [sQ,ne_eq] at g1
 obtain ⟨y,ys,b8,q8,c8,np,ins8,rest8,hp8,hrest,hperm,hy5,hy6,hy7,hy8,hl8⟩:=hl.more (by simpa using g1)
 rw [hp8]
 have hlen:=congrArg List.length hxs
 rw [List.length_append,hrest,List.length_cons] at hlen
 replace hlen:g.ys.length+1≤2000000:=by omega
 refine Zh9 0 rfl hperm (ZI [_,_,_,_,_,_] rfl (Zg (Zf (Zh (Zm (Zac (keeps _ [0,3] _) mo kr ⟨Kn.le.refl _,ZaM.refl _ _⟩ (fun _ _=>?_)))))))
 refine aW 0 rfl Zba (h:=aT 1 rfl (ZZ fun D B L hI=>Zx rfl rfl Zgt rfl (atL 3 (hI.2.2.1.trans rfl) rfl rfl) r4) (h:=aM 2 rfl (h:=aNc 3 rfl (h:=aW 4 rfl ZrA (h:=aT 5 rfl (ZZ fun D B L hI=>ZV [_,_,_,_] rfl rfl Zd4 rfl (Za9 0 (hI.2.1.trans rfl) rfl rfl) r4) (h:=Zw 6 kr rfl kr (ZP (parts:=[(0,_)]) [_,_,_,_] rfl rfl Tryz.underlying32 Zbl Zde rfl rfl rfl rfl rfl (fun b5=>?_))))))))
 refine ⟨⟨Kn.le.refl _,t2⟩,(Zw 7 kr rfl kr (Zqm (R:=Z3 9) (z:=y) 2 4 rfl rfl rfl hvd rfl rfl rfl Ztd ZtD rfl rfl (Zcm.box 6 rfl) rfl rfl ⟨_,_,rfl,hy5,hy6,hy7,hy8⟩ oz (fun l9 q9 c9 hv9=>?_)))⟩
 refine ⟨⟨Kn.le.refl _,t2⟩,(aW 8 rfl Zba (h:=Zav 9 kr rfl kr kr kr (ZT [_] 3 [_,_] rfl rfl Zsx rfl rfl rfl rfl rfl rfl rfl rfl ?_)))⟩
 refine Z7 (Zf (Zn (xM (h:=xNc (h:=xW Zrz (h:=x1 Zri 0 (h:=xA (h:=?_))))))))
 exact ZU ⟨np,g.ys ++ [y],ys,l9,q9,c9,rest8⟩ [5,1,2,3] (by rw [hrest];simp) ⟨rfl,by rw [← hxs,hrest];simp,hv9,hl8⟩ t5 rfl
 try simp only [sQ,ne_eq] at g1
 rw [hl.done (by simpa using g1),List.append_nil] at hxs
 subst hxs
 refine ZS (Zaf (ZW (ZG (Zf (Za (xL [_,_] Zdg 3 (h:=xS [_,_] 1 [_,_] ZfM (h:=ZI [_,_,_,_] rfl (Zj ?_)))))))))
 exact Zbw .ret (.inl rfl) [_] [2] rfl ⟨⟨_,rfl,.inr ⟨[_,_],Zdg,Za9 1 rfl rfl rfl,rfl⟩⟩,trivial⟩ ⟨rfl,_,_,_,rfl,rfl,hvd⟩

set_option maxHeartbeats 400000 in
theorem Zga (q:Option Addr) (cp:Nat) (x:DQueue) (B:Kn) (hx:SlK B q cp 4 Zi x.items):ZL (pj J) 118 [.agg #[.int .i64 x.next,.slice q x.items.length cp]] B [] (fun v B' Ls=>∃l q c,Ls=[l]∧v = .agg #[.int .i64 x.next,.slice q x.items.length c]∧Zbb l q c 126 4 (Z3 9) x.items):=by
 refine Zd 8 Tryz.func118 rfl rfl rfl (Nat.le_of_ble_eq_true rfl) ?_
 have hxn:=hx.len
 refine Za (xBx [_,_] (h:=fun b1=>xAl [_,_] Zhp (h:=fun b2=>ZI [_,_] rfl (Zh (Zac (keeps _ [0] _) mo kr ⟨Kn.le.refl _,ZaM.refl _ _⟩ (fun _ _=>?_))))))
 refine aW 0 rfl Zcw (h:=aT 1 rfl (ZZ fun D B L hI=>Zx rfl rfl lk3 rfl (atL 0 (hI.2.1.trans rfl) rfl rfl) r4) (h:=aT 2 rfl (ZZ fun D B L hI=>ZV [_,_] rfl rfl Zdg rfl (Za9 0 (hI.2.1.trans rfl) rfl rfl) r4) (h:=Zw 3 kr rfl kr (ZF rfl rfl Zvs rfl (Zj6 _ _ x _ hx) ?_))))
 rintro _ B3 _ hle3 ⟨sl3,rfl,hl3⟩
 replace hx:=hx.mono Zi.mono hle3
 refine ⟨⟨hle3,t1⟩,(Zw 4 kr rfl kr (Zam [2] rfl rfl rfl rfl Zvq rfl (Znj _ _ _ _ _ oa hl3) ?_))⟩
 rintro _ B4 _ hle4 ⟨rfl,ld4,ad4,cd4,rfl,rfl,hd4⟩
 refine ⟨⟨hle3,t1⟩,(Zav 5 kr rfl kr kr kr (ZT [_,_] 1 [_,_] rfl rfl ZfM rfl rfl rfl rfl rfl rfl rfl rfl ?_))⟩
 refine Zf (ZI [_,_,_] rfl (Zj ?_))
 exact Zbw .ret (.inl rfl) [_] [2] rfl ⟨⟨_,rfl,.inr ⟨[_,_],Zdg,Za9 1 rfl rfl rfl,rfl⟩⟩,trivial⟩ ⟨_,_,_,rfl,rfl,hd4⟩

set_option maxHeartbeats 400000 in
theorem ZnR (q:Option Addr) (m cp:Nat) (B:Kn):Z8 (pj J) 283 [.slice q m cp] B (.int .i64 m):=by
 refine Zd 5 Tryz.func283 rfl rfl rfl (Nat.le_of_ble_eq_true rfl) ?_
 refine Za (xA (h:=Za (xM (h:=xV Tryz.underlying253 (h:=xA (h:=Zj ?_))))))
 exact ZK .ret (.inl rfl) [_] t1 ⟨rfl,rfl,rfl⟩

set_option maxHeartbeats 400000 in
theorem Zfx (q:Option Addr) (cp:Nat) (xs:List Int) (i j:Nat) (a b:Int) (hi:xs[i]? = some a) (hj:xs[j]? = some b) (B:Kn) (hx:SlK B q cp 1 ZdE xs):Z8 (pj J) 284 [.slice q xs.length cp,.int .i64 i,.int .i64 j] B (.bool (decide (a<b))):=by
 refine Zd 16 Tryz.func284 rfl rfl rfl (Nat.le_of_ble_eq_true rfl) ?_
 have hil:=ZbH hi
 have hjl:=ZbH hj
 refine Za (xA (h:=Zh (Zac (same _ _) mo kr ⟨rfl,rfl⟩ (fun _ _=>?_))))
 refine aM 0 rfl (h:=aM 1 rfl (h:=?_))
 obtain ⟨z,hz⟩:=Zae (xs:=xs) (i:=i) om
 obtain ⟨bb2,oo2,rfl⟩:=hx.base hz
 obtain ⟨_,rfl,hc3⟩:=hx.elem hz
 refine aIx 2 rfl Tryz.underlying252 sz3 (h:=aT 3 rfl (ZaA fun D=>Zx rfl rfl lk3 rfl (hc3 _ 0 _ rfl) r4) (h:=aM 4 rfl (h:=aM 5 rfl (h:=?_))))
 obtain ⟨w,hw⟩:=Zae (xs:=xs) (i:=j) om
 obtain ⟨_,rfl,hc5⟩:=hx.elem hw
 refine aIx 6 rfl Tryz.underlying252 sz3 (h:=?_)
 rw [hi] at hz
 cases hz
 rw [hj] at hw
 cases hw
 refine aT 7 rfl (ZaA fun D=>Zx rfl rfl lk3 rfl (hc5 _ 0 _ rfl) r4) (h:=Zp3 8 rfl (h:=aA 9 rfl (h:=ZB kr kr ?_)))
 refine Zf (Zj ?_)
 exact ZK .ret (.inl rfl) [_] t1 ⟨rfl,rfl,rfl⟩

set_option maxHeartbeats 400000 in
theorem Zpw (b:Nat) (q:Option Addr) (cp:Nat) (xs:List Int) (l:Cells) (z:Int) (hn:xs.length≤2000000) (B:Kn) (hv:Zaa B l q cp 3 1 ZdE xs):ZL (pj J) 286 [ptr ⟨b,0,none⟩,.iface 3 (.int .i64 z)] B [ZaE b [.slice q xs.length cp] 253,l] (fun v B' Ls=>B'=B∧∃q' c' l',Ls=[ZaE b [.slice q' (xs ++ [z]).length c'] 253,l']∧Zaa B l' q' c' 3 1 ZdE (xs ++ [z])):=by
 refine Zd 13 Tryz.func286 rfl rfl rfl (Nat.le_of_ble_eq_true rfl) ?_
 refine Zac (keeps _ [0] _) mo kr ⟨Kn.le.refl _,ZaM.refl _ _⟩ (fun _ _=>?_)
 refine aM 0 rfl (h:=aM 1 rfl (h:=aNc 2 rfl (h:=aT 3 rfl (ZZ fun D B L hI=>Zx rfl rfl ZeJ rfl (atL 0 (hI.2.1.trans rfl) rfl rfl) r4) (h:=aM 4 rfl (h:=aT 5 rfl (ZZ fun D B L hI=>ZiN rfl rfl Tryz.underlying3 rfl rfl r4) (h:=Zw 6 kr rfl kr (ZP (parts:=[(0,_)]) [_] rfl rfl Tryz.underlying252 sz3 zo3 rfl rfl rfl rfl rfl (fun b1=>?_))))))))
 refine ⟨⟨Kn.le.refl _,t1⟩,(Zw 7 kr rfl kr (ZkT (z:=z) (R:=ZdE) 1 rfl hv rfl rfl rfl Zuq Zud rfl rfl (Zcm.box 2 rfl) rfl rfl (rfl) om (fun l2 p2 c2 hv2=>?_)))⟩
 refine ⟨⟨Kn.le.refl _,t1⟩,(aNc 8 rfl (h:=Zav 9 kr rfl kr kr kr (ZT [_] 0 [_] rfl rfl Zsz rfl rfl rfl rfl rfl rfl rfl rfl ?_)))⟩
 exact Zbw .normal (.inr rfl) [] [0,1] rfl trivial ⟨rfl,_,_,_,rfl,hv2⟩

set_option maxHeartbeats 400000 in
theorem Zrp (b:Nat) (q:Option Addr) (cp:Nat) (xs:List Int) (l:Cells) (z:Int) (hz:xs[xs.length - 1]? = some z) (hn:xs.length≤2000000) (B:Kn) (hv:Zaa B l q cp 3 1 ZdE xs):ZL (pj J) 285 [ptr ⟨b,0,none⟩] B [ZaE b [.slice q xs.length cp] 253,l] (fun v B' Ls=>B'=B∧v = .iface 3 (.int .i64 z)∧Ls=[ZaE b [.slice q (xs.length - 1) cp] 253,l]∧Zaa B l q cp 3 1 ZdE (xs.take (xs.length - 1))):=by
 refine Zd 25 Tryz.func285 rfl rfl rfl (Nat.le_of_ble_eq_true rfl) ?_
 have hl1:=ZbH hz
 have hcp:=hv.cap
 have hv9:=hv.take (k:=xs.length - 1) oz
 have hs0:=hv.slice0 (sz:=1)
 refine Za (xA (h:=Za (xM (h:=xNc (h:=x1 ZeJ 0 (h:=xV Tryz.underlying253 (h:=Zq (Zh8 (r:=((xs.length - 1:Nat):Int)) rfl rfl rfl rfl (by rw [show ((xs.length:Int) - 1)=((xs.length - 1:Nat):Int) from by omega];exact Zcp oz oz) ?_))))))))
 refine xA (h:=Za (xM (h:=xNc (h:=x1 ZeJ 0 (h:=xM (h:=?_))))))
 obtain ⟨w,hw⟩:=Zae (xs:=xs) (i:=(xs.length - 1)) om
 obtain ⟨bb2,_,hp2,rfl,hw2,hc2⟩:=hv.row hw
 refine xIp hp2 Tryz.underlying252 sz3 (h:=?_)
 rw [hz] at hw
 cases hw
 refine Zq (Zx rfl rfl lk3 rfl (hc2 _ 1 rfl 0 _ rfl) (xA (h:=Za (xM (h:=xM (h:=xNc (h:=x1 ZeJ 0 (h:=xM (h:=Zq (ZkQ rfl rfl Tryz.underlying252 sz3 rfl (a:=0) (b:=xs.length - 1) rfl ⟨_,_,rfl,rfl⟩ oz oz ?_))))))))))
 rw [hs0]
 refine xNc (h:=xS [_] 0 [_] Zsz (h:=ZI [_,_] rfl (Za (xM (h:=Zq (ZdG rfl rfl Tryz.underlying3 rfl rfl (xA (h:=Zj ?_))))))))
 exact Zbw .ret (.inl rfl) [_] [0,1] rfl t1 ⟨rfl,rfl,rfl,hv9⟩

set_option maxHeartbeats 400000 in
theorem Zfw (q:Option Addr) (cp:Nat) (xs:List Int) (l:Cells) (i j:Nat) (a b:Int) (hi:xs[i]? = some a) (hj:xs[j]? = some b) (hn:xs.length≤2000000) (B:Kn) (hv:Zaa B l q cp 3 1 ZdE xs):ZL (pj J) 287 [.slice q xs.length cp,.int .i64 i,.int .i64 j] B [l] (fun v B' Ls=>B'=B∧∃l',Ls=[l']∧Zaa B l' q cp 3 1 ZdE ((xs.set i b).set j a)):=by
 refine Zd 20 Tryz.func287 rfl rfl rfl (Nat.le_of_ble_eq_true rfl) ?_
 have hil:=ZbH hi
 have hjl:=ZbH hj
 refine Zac (keeps _ [0] _) mo kr ⟨Kn.le.refl _,ZaM.refl _ _⟩ (fun _ _=>?_)
 refine aM 0 rfl (h:=aM 1 rfl (h:=aM 2 rfl (h:=aM 3 rfl (h:=aM 4 rfl (h:=aM 5 rfl (h:=?_))))))
 obtain ⟨y,hy⟩:=Zae (xs:=xs) (i:=j) om
 obtain ⟨bb2,_,hp2,rfl,hw2,hc2⟩:=hv.row hy
 refine aT 6 rfl (ZZ fun D B L hI=>ZmJ hp2 rfl rfl Tryz.underlying252 sz3 rfl rfl om om r4) (h:=?_)
 refine aT 7 rfl (ZZ fun D B L hI=>Zx rfl rfl lk3 rfl (hc2 _ 0 (hI.2.1.trans rfl) 0 _ rfl) r4) (h:=aM 8 rfl (h:=aM 9 rfl (h:=?_)))
 obtain ⟨x,hx⟩:=Zae (xs:=xs) (i:=i) om
 obtain ⟨bb4,_,hp4,rfl,hw4,hc4⟩:=hv.row hx
 refine aT 10 rfl (ZZ fun D B L hI=>ZmJ hp4 rfl rfl Tryz.underlying252 sz3 rfl rfl om om r4) (h:=?_)
 refine aT 11 rfl (ZZ fun D B L hI=>Zx rfl rfl lk3 rfl (hc4 _ 0 (hI.2.1.trans rfl) 0 _ rfl) r4) (h:=?_)
 obtain ⟨bb5,_,hp5,rfl,hw5,hc5⟩:=hv.row hx
 refine aT 12 rfl (ZZ fun D B L hI=>ZmJ hp5 rfl rfl Tryz.underlying252 sz3 rfl rfl om om r4) (h:=?_)
 refine ZaG 13 kr rfl kr kr (Zgz (k:=i) (off:=0) (y) [_] 0 hv hp5 hx rfl rfl sz3 rfl rfl rfl rfl rfl rfl ((fun row h=>by cases h;rfl)) (fun l6 hv6=>?_))
 obtain ⟨w,hw⟩:=Zae (xs:=(xs.set i (y))) (i:=j) om
 obtain ⟨bb8,_,hp8,rfl,hw8,hc8⟩:=hv6.row hw
 refine aT 14 rfl (ZZ fun D B L hI=>ZmJ hp8 rfl rfl Tryz.underlying252 sz3 rfl rfl om om r4) (h:=?_)
 refine Zav 15 kr rfl kr kr kr (Zgz (k:=j) (off:=0) (x) [_] 0 hv6 hp8 hw rfl rfl sz3 rfl rfl rfl rfl rfl rfl ((fun row h=>by cases h;rfl)) (fun l9 hv9=>?_))
 rw [hi] at hx
 cases hx
 rw [hj] at hy
 cases hy
 exact Zbw .normal (.inr rfl) [] [0] rfl trivial ⟨rfl,_,rfl,hv9⟩

set_option maxHeartbeats 400000 in
theorem Zpz (b:Nat) (q:Option Addr) (cp:Nat) (xs:List Int) (l:Cells) (j:Nat) (hj:j<xs.length) (hn:xs.length≤2000000) (hh:Zfe xs j) (B:Kn) (hv:Zaa B l q cp 3 1 ZdE xs):ZL (pj J) 229 [.iface 251 (ptr ⟨b,0,none⟩),.int .i64 j] B [ZaE b [.slice q xs.length cp] 253,l] (fun v B' Ls=>B'=B∧∃ys l',Ls=[ZaE b [.slice q ys.length cp] 253,l']∧Zaa B l' q cp 3 1 ZdE ys∧ys.Perm xs∧Zc2 ys):=by
 refine Zd 23 Tryz.func229 rfl rfl rfl (Nat.le_of_ble_eq_true rfl) ?_
 refine Zm (ZO (α:=Nat × List Int × Cells) [0] (fun g=>[(1,.int .i64 g.1)]) [0,1] (fun g=>[ZaE b [.slice q g.2.1.length cp] 253,g.2.2]) (fun g Bx=>Bx=B∧g.1<g.2.1.length∧g.2.1.Perm xs∧Zfe g.2.1 g.1∧Zaa B g.2.2 q cp 3 1 ZdE g.2.1) (fun g=>g.1) (j,xs,l) t1 rfl (⟨rfl,hj,.refl _,hh,hv⟩) (fun g B1 hle1 hI=>?_))
 obtain ⟨rfl,hk,hp,hb,hv⟩:=hI
 have hpl:=hp.length_eq
 refine ZR [(0,_),(1,_)] [_,_] t2 rfl (Zm (Za (xM (h:=Zq (Zh8 rfl rfl rfl rfl (Zcp oz oz) ?_)))))
 refine Zq (Zr8 (r:=(((g.1 - 1) / 2:Nat):Int)) rfl rfl rfl rfl oz (by rw [show Int.tdiv ((g.1:Int) - 1) 2=(((g.1 - 1) / 2:Nat):Int) from Zt5 g.1];exact Zcp oz oz) ?_)
 refine xA (h:=Zh (Za (xM (h:=xM (h:=ZmB (h:=xM (h:=ZC (d:=11) rfl (fun g1=>?_) (fun g1=>?_))))))))
 try simp only [sQ,ne_eq] at g1
 refine xP (h:=xP (h:=xP (h:=xP (h:=xP (h:=xT (h:=Ze (t:=true) rfl (fun _=>ZS (Zaf (Zez rfl (ZW (ZG ?_))))) (fun h=>Bool.noConfusion h)))))))
 exact Zbw .normal (.inr rfl) [] [0,1] rfl trivial ⟨rfl,_,_,rfl,hv,hp,ZqS (by rw [show g.1=0 from by omega] at hb;exact hb)⟩
 try simp only [sQ,ne_eq] at g1
 refine xM (h:=xM (h:=xM (h:=Zq (ZeV 1 rfl rfl rfl Zop rfl rfl (Zbh Zdv Tryz.underlying251 ZeJ (atL 0 rfl rfl rfl)) (Z8.borrow fun hm2=>Zfx _ _ _ _ _ _ _ (ZaW oz) (ZaW oz) _ (hv.lend ZdE.mono hm2 om)) ?_))))
 refine xN (h:=xF (h:=Ze rfl (fun g2=>?_) (fun g2=>?_)))
 try simp only [sQ,ne_eq] at g2
 refine ZS (Zaf (Zez rfl (ZW (ZG ?_))))
 exact Zbw .normal (.inr rfl) [] [0,1] rfl trivial ⟨rfl,_,_,rfl,hv,hp,ZqU hb (by simpa using g2)⟩
 try simp only [sQ,ne_eq] at g2
 refine Zg (Zf (Za (xM (h:=xM (h:=xM (h:=Zq (Zf9 [1] rfl rfl rfl rfl Zoo rfl rfl (Zbh Zdu Tryz.underlying251 ZeJ (atL 0 rfl rfl rfl)) (Zfw _ _ _ _ _ _ _ _ (ZaW oz) (ZaW oz) oz _ hv) ?_)))))))
 rintro _ B3 _ hle3 ⟨rfl,l3,rfl,hv3⟩
 refine ZI [_,_] rfl (Zn (xM (h:=xA (h:=Z7 ?_))))
 rw [← ZcT g.2.1 ((g.1 - 1) / 2) g.1]
 exact ZU ((g.1 - 1) / 2,(swp g.2.1 ((g.1 - 1) / 2) g.1),l3) [0,1] (so) ⟨rfl,by have:=ZcT g.2.1 ((g.1 - 1) / 2) g.1;simp only [];omega,(Zfk oz oz).trans hp,ZqT oz oz hb (by simpa using g2),hv3⟩ t2 rfl

set_option maxHeartbeats 400000 in
theorem Zma (b:Nat) (q:Option Addr) (cp:Nat) (xs:List Int) (l:Cells) (z:Int) (hn:xs.length<2000000) (hh:Zc2 xs) (B:Kn) (hv:Zaa B l q cp 3 1 ZdE xs):ZL (pj J) 196 [.iface 251 (ptr ⟨b,0,none⟩),.iface 3 (.int .i64 z)] B [ZaE b [.slice q xs.length cp] 253,l] (fun v B' Ls=>B'=B∧∃q' c' ys l',Ls=[ZaE b [.slice q' ys.length c'] 253,l']∧Zaa B l' q' c' 3 1 ZdE ys∧ys.Perm (xs ++ [z])∧Zc2 ys):=by
 refine Zd 12 Tryz.func196 rfl rfl rfl (Nat.le_of_ble_eq_true rfl) ?_
 refine Za (xM (h:=xM (h:=Zq (Zf9 [0,1] rfl rfl rfl rfl Zuv rfl rfl (Zjt ZlZ Tryz.underlying251) (Zpw _ _ _ _ _ _ oz _ hv) ?_))))
 rintro _ B1 _ hle1 ⟨rfl,q1,c1,l1,rfl,hv1⟩
 refine ZI [_,_] rfl (Zn (xM (h:=xM (h:=Zq (ZeV 1 rfl rfl rfl Ztf rfl rfl (Zbh Zi8 Tryz.underlying251 ZeJ (atL 0 rfl rfl rfl)) (Z8.borrow fun hm2=>ZnR _ _ _ _) (Zq (Zh8 (r:=((xs.length:Nat):Int)) rfl rfl rfl rfl ((congrArg _ (show _=((xs.length:Nat):Int) from by rw [List.length_append,List.length_singleton];omega)).trans (Zcp oz oz)) ?_)))))))
 refine Zq (Zam [0,1] rfl rfl rfl rfl Zuy rfl (Zpz _ _ _ _ _ _ (by simp) (by simp;omega) (Zo5 hh) _ hv1) ?_)
 rintro _ Bu _ hleu ⟨rfl,ysu,lu,rfl,hvu,hpu,hhu⟩
 exact Zbw .normal (.inr rfl) [] [0,1] rfl trivial ⟨rfl,_,_,_,_,rfl,hvu,hpu,hhu⟩

set_option maxHeartbeats 400000 in
theorem Zmc (b:Nat) (q:Option Addr) (cp:Nat) (xs:List Int) (l:Cells) (m:Nat) (hm:m≤xs.length) (hm0:0<xs.length) (hn:xs.length≤2000000) (hh:Zet xs m 0) (B:Kn) (hv:Zaa B l q cp 3 1 ZdE xs):ZL (pj J) 230 [.iface 251 (ptr ⟨b,0,none⟩),.int .i64 0,.int .i64 m] B [ZaE b [.slice q xs.length cp] 253,l] (fun v B' Ls=>B'=B∧∃ys l',Ls=[ZaE b [.slice q ys.length cp] 253,l']∧Zaa B l' q cp 3 1 ZdE ys∧ys.Perm xs∧Zp8 ys m∧(∀k,m≤k→hat ys k=hat xs k)):=by
 refine Zd 48 Tryz.func230 rfl rfl rfl (Nat.le_of_ble_eq_true rfl) ?_
 refine Za (xA (h:=Za (xM (h:=xA (h:=Zh (Zm (ZO (α:=Nat × List Int × Cells) [0,1,2,6] (fun g=>[(7,.int .i64 g.1)]) [0,1] (fun g=>[ZaE b [.slice q g.2.1.length cp] 253,g.2.2]) (fun g Bx=>Bx=B∧g.1<g.2.1.length∧g.2.1.Perm xs∧Zet g.2.1 m g.1∧(∀k,m≤k→hat g.2.1 k=hat xs k)∧Zaa B g.2.2 q cp 3 1 ZdE g.2.1) (fun g=>xs.length - g.1) (0,xs,l) t1 rfl (⟨rfl,hm0,.refl _,hh,fun _ _=>rfl,hv⟩) (fun g B1 hle1 hI=>?_))))))))
 obtain ⟨rfl,hk,hp,hb,hs,hv⟩:=hI
 have hpl:=hp.length_eq
 refine ZR [(0,_),(1,_),(2,_),(6,_),(7,_)] [_,_] t5 rfl (Zm (Za (xM (h:=Zq (Zt0 (r:=((2*g.1:Nat):Int)) rfl rfl rfl rfl ((congrArg _ (show _=((2*g.1:Nat):Int) from by omega)).trans (Zcp oz oz)) ?_)))))
 refine Zq (Zgl (r:=((2*g.1+1:Nat):Int)) rfl rfl rfl rfl ((congrArg _ (show _=((2*g.1+1:Nat):Int) from by omega)).trans (Zcp oz oz)) ?_)
 refine xA (h:=Zh (Za (xM (h:=xM (h:=Zd9 (h:=xM (h:=ZC (d:=18) rfl (fun g1=>?_) (fun g1=>?_))))))))
 try simp only [sQ,ne_eq] at g1
 refine xP (h:=xP (h:=xT (h:=Ze (t:=true) rfl (fun _=>ZS (Zaf (Zez rfl (ZW (ZG (Zf (Za (xM (h:=xM (h:=Zd8 (h:=xA (h:=Zj ?_)))))))))))) (fun h=>Bool.noConfusion h))))
 exact Zbw .ret (.inl rfl) [_] [0,1] rfl t1 ⟨rfl,_,_,rfl,hv,hp,Zot hb oz,hs⟩
 try simp only [sQ,ne_eq] at g1
 refine xM (h:=ZM (h:=xF (h:=Ze rfl (fun g2=>by have:=of_decide_eq_true g2;omega) (fun g2=>?_))))
 try simp only [sQ,ne_eq] at g2
 refine Zg (Zf (Za (xM (h:=xA (h:=Zh (Za (xM (h:=Zq (Zgl (r:=((2*g.1+1+1:Nat):Int)) rfl rfl rfl rfl ((congrArg _ (show _=((2*g.1+1+1:Nat):Int) from by omega)).trans (Zcp oz oz)) ?_)))))))))
 refine xA (h:=Za (xM (h:=xM (h:=ZM (h:=xM (h:=ZC (d:=28) rfl (fun g3=>?_) (fun g3=>?_)))))))
 try simp only [sQ,ne_eq] at g3
 refine xM (h:=xM (h:=xM (h:=Zq (ZeV 1 rfl rfl rfl Zop rfl rfl (Zbh Zdv Tryz.underlying251 ZeJ (atL 0 rfl rfl rfl)) (Z8.borrow fun hm2=>Zfx _ _ _ _ _ _ _ (ZaW oz) (ZaW oz) _ (hv.lend ZdE.mono hm2 om)) ?_))))
 refine xT (h:=Ze rfl (fun g4=>?_) (fun g4=>?_))
 try simp only [sQ,ne_eq] at g4
 refine Zn (xM (h:=xA (h:=Zf (Zh (Za (xM (h:=xM (h:=xM (h:=Zq (ZeV 1 rfl rfl rfl Zop rfl rfl (Zbh Zdv Tryz.underlying251 ZeJ (atL 0 rfl rfl rfl)) (Z8.borrow fun hm3=>Zfx _ _ _ _ _ _ _ (ZaW oz) (ZaW oz) _ (hv.lend ZdE.mono hm3 om)) ?_))))))))))
 refine xN (h:=Ze rfl (fun g5=>?_) (fun g5=>?_))
 try simp only [sQ,ne_eq] at g5
 refine ZS (Zaf (Zez rfl (ZW (ZG (Zf (Za (xM (h:=xM (h:=Zd8 (h:=xA (h:=Zj ?_)))))))))))
 exact Zbw .ret (.inl rfl) [_] [0,1] rfl t1 ⟨rfl,_,_,rfl,hv,hp,Zhi hb (by intro k h0 hk he;(try simp only [decide_eq_true_eq,decide_eq_false_iff_not,Bool.not_eq_true',Bool.not_eq_false',Int.not_lt] at *);rcases (show k=2*g.1+1∨k=2*g.1+1+1 from by omega) with rfl | rfl <;> omega),hs⟩
 try simp only [sQ,ne_eq] at g5
 refine Zg (Zf (Za (xM (h:=xM (h:=xM (h:=Zq (Zf9 [1] rfl rfl rfl rfl Zoo rfl rfl (Zbh Zdu Tryz.underlying251 ZeJ (atL 0 rfl rfl rfl)) (Zfw _ _ _ _ _ _ _ _ (ZaW oz) (ZaW oz) oz _ hv) ?_)))))))
 rintro _ B4 _ hle4 ⟨rfl,l4,rfl,hv4⟩
 refine ZI [_,_] rfl (Zn (xM (h:=xA (h:=Z7 ?_))))
 rw [← ZcT g.2.1 g.1 (2*g.1+1+1)]
 have h5:hat g.2.1 (2*g.1+1+1)<hat g.2.1 g.1:=by simpa using g5
 exact ZU (2*g.1+1+1,(swp g.2.1 g.1 (2*g.1+1+1)),l4) [0,1] (so) ⟨rfl,by have:=ZcT g.2.1 g.1 (2*g.1+1+1);simp only [];omega,(Zfk oz oz).trans hp,Zhh oz oz oz oz hb (by intro k h0 hk he;(try simp only [decide_eq_true_eq,decide_eq_false_iff_not,Bool.not_eq_true',Bool.not_eq_false',Int.not_lt] at *);rcases (show k=2*g.1+1∨k=2*g.1+1+1 from by omega) with rfl | rfl <;> omega) h5,(fun k hk=>by rw [Zel oz oz,if_neg oz,if_neg oz];exact hs k hk),hv4⟩ t5 rfl
 try simp only [sQ,ne_eq] at g4
 refine Zg (Zf (Zh (Za (xM (h:=xM (h:=xM (h:=Zq (ZeV 1 rfl rfl rfl Zop rfl rfl (Zbh Zdv Tryz.underlying251 ZeJ (atL 0 rfl rfl rfl)) (Z8.borrow fun hm5=>Zfx _ _ _ _ _ _ _ (ZaW oz) (ZaW oz) _ (hv.lend ZdE.mono hm5 om)) ?_))))))))
 refine xN (h:=Ze rfl (fun g5=>?_) (fun g5=>?_))
 try simp only [sQ,ne_eq] at g5
 refine ZS (Zaf (Zez rfl (ZW (ZG (Zf (Za (xM (h:=xM (h:=Zd8 (h:=xA (h:=Zj ?_)))))))))))
 exact Zbw .ret (.inl rfl) [_] [0,1] rfl t1 ⟨rfl,_,_,rfl,hv,hp,Zhi hb (by intro k h0 hk he;(try simp only [decide_eq_true_eq,decide_eq_false_iff_not,Bool.not_eq_true',Bool.not_eq_false',Int.not_lt] at *);rcases (show k=2*g.1+1∨k=2*g.1+1+1 from by omega) with rfl | rfl <;> omega),hs⟩
 try simp only [sQ,ne_eq] at g5
 refine Zg (Zf (Za (xM (h:=xM (h:=xM (h:=Zq (Zf9 [1] rfl rfl rfl rfl Zoo rfl rfl (Zbh Zdu Tryz.underlying251 ZeJ (atL 0 rfl rfl rfl)) (Zfw _ _ _ _ _ _ _ _ (ZaW oz) (ZaW oz) oz _ hv) ?_)))))))
 rintro _ B6 _ hle6 ⟨rfl,l6,rfl,hv6⟩
 refine ZI [_,_] rfl (Zn (xM (h:=xA (h:=Z7 ?_))))
 rw [← ZcT g.2.1 g.1 (2*g.1+1)]
 have h5:hat g.2.1 (2*g.1+1)<hat g.2.1 g.1:=by simpa using g5
 exact ZU (2*g.1+1,(swp g.2.1 g.1 (2*g.1+1)),l6) [0,1] (so) ⟨rfl,by have:=ZcT g.2.1 g.1 (2*g.1+1);simp only [];omega,(Zfk oz oz).trans hp,Zhh oz oz oz oz hb (by intro k h0 hk he;(try simp only [decide_eq_true_eq,decide_eq_false_iff_not,Bool.not_eq_true',Bool.not_eq_false',Int.not_lt] at *);rcases (show k=2*g.1+1∨k=2*g.1+1+1 from by omega) with rfl | rfl <;> omega) h5,(fun k hk=>by rw [Zel oz oz,if_neg oz,if_neg oz];exact hs k hk),hv6⟩ t5 rfl
 try simp only [sQ,ne_eq] at g3
 refine xP (h:=xP (h:=xP (h:=xP (h:=xF (h:=Ze (t:=false) rfl (fun h=>Bool.noConfusion h) (fun _=>Zg (Zf (Zh (Za (xM (h:=xM (h:=xM (h:=?_)))))))))))))
 refine Zq (ZeV 1 rfl rfl rfl Zop rfl rfl (Zbh Zdv Tryz.underlying251 ZeJ (atL 0 rfl rfl rfl)) (Z8.borrow fun hm7=>Zfx _ _ _ _ _ _ _ (ZaW oz) (ZaW oz) _ (hv.lend ZdE.mono hm7 om)) ?_)
 refine xN (h:=Ze rfl (fun g5=>?_) (fun g5=>?_))
 try simp only [sQ,ne_eq] at g5
 refine ZS (Zaf (Zez rfl (ZW (ZG (Zf (Za (xM (h:=xM (h:=Zd8 (h:=xA (h:=Zj ?_)))))))))))
 exact Zbw .ret (.inl rfl) [_] [0,1] rfl t1 ⟨rfl,_,_,rfl,hv,hp,Zhi hb (by intro k h0 hk he;(try simp only [decide_eq_true_eq,decide_eq_false_iff_not,Bool.not_eq_true',Bool.not_eq_false',Int.not_lt] at *);rcases (show k=2*g.1+1∨k=2*g.1+1+1 from by omega) with rfl | rfl <;> omega),hs⟩
 try simp only [sQ,ne_eq] at g5
 refine Zg (Zf (Za (xM (h:=xM (h:=xM (h:=Zq (Zf9 [1] rfl rfl rfl rfl Zoo rfl rfl (Zbh Zdu Tryz.underlying251 ZeJ (atL 0 rfl rfl rfl)) (Zfw _ _ _ _ _ _ _ _ (ZaW oz) (ZaW oz) oz _ hv) ?_)))))))
 rintro _ B8 _ hle8 ⟨rfl,l8,rfl,hv8⟩
 refine ZI [_,_] rfl (Zn (xM (h:=xA (h:=Z7 ?_))))
 rw [← ZcT g.2.1 g.1 (2*g.1+1)]
 have h5:hat g.2.1 (2*g.1+1)<hat g.2.1 g.1:=by simpa using g5
 exact ZU (2*g.1+1,(swp g.2.1 g.1 (2*g.1+1)),l8) [0,1] (so) ⟨rfl,by have:=ZcT g.2.1 g.1 (2*g.1+1);simp only [];omega,(Zfk oz oz).trans hp,Zhh oz oz oz oz hb (by intro k h0 hk he;(try simp only [decide_eq_true_eq,decide_eq_false_iff_not,Bool.not_eq_true',Bool.not_eq_false',Int.not_lt] at *);rcases (show k=2*g.1+1∨k=2*g.1+1+1 from by omega) with rfl | rfl <;> omega) h5,(fun k hk=>by rw [Zel oz oz,if_neg oz,if_neg oz];exact hs k hk),hv8⟩ t5 rfl

set_option maxHeartbeats 400000 in
theorem ZnT (b:Nat) (q:Option Addr) (cp:Nat) (xs:List Int) (l:Cells) (hm0:0<xs.length) (hn:xs.length≤2000000) (hh:Zc2 xs) (B:Kn) (hv:Zaa B l q cp 3 1 ZdE xs):ZL (pj J) 197 [.iface 251 (ptr ⟨b,0,none⟩)] B [ZaE b [.slice q xs.length cp] 253,l] (fun v B' Ls=>B'=B∧v = .iface 3 (.int .i64 (hat xs 0))∧∃ys l',Ls=[ZaE b [.slice q ys.length cp] 253,l']∧Zaa B l' q cp 3 1 ZdE ys∧(hat xs 0 :: ys).Perm xs∧Zc2 ys):=by
 refine Zd 15 Tryz.func197 rfl rfl rfl (Nat.le_of_ble_eq_true rfl) ?_
 refine Za (xA (h:=Za (xM (h:=Zq (ZeV 1 rfl rfl rfl Ztf rfl rfl (Zbh Zi8 Tryz.underlying251 ZeJ (atL 0 rfl rfl rfl)) (Z8.borrow fun hm1=>ZnR _ _ _ _) (Zq (Zh8 (r:=((xs.length - 1:Nat):Int)) rfl rfl rfl rfl ((congrArg _ (show _=((xs.length - 1:Nat):Int) from by omega)).trans (Zcp oz oz)) ?_)))))))
 refine xA (h:=Za (xM (h:=xM (h:=Zq (Zf9 [1] rfl rfl rfl rfl Zoo rfl rfl (Zbh Zdu Tryz.underlying251 ZeJ (atL 0 rfl rfl rfl)) (Zfw _ _ _ _ _ _ _ _ (ZaW oz) (ZaW oz) oz _ hv) ?_)))))
 rintro _ Bs _ hles ⟨rfl,ls,rfl,hvs⟩
 refine ZI [_,_] rfl ?_
 obtain ⟨zs,hzs,hzl⟩ :∃zs,zs=swp xs 0 (xs.length - 1)∧zs.length=xs.length:=⟨_,rfl,ZcT _ _ _⟩
 have hzz:=hvs
 change Zaa _ _ _ _ _ _ _ (swp xs 0 (xs.length - 1)) at hzz
 rw [← hzs] at hzz
 have hdb:Zet zs (zs.length - 1) 0:=by rw [hzl,hzs];exact Zq6 hh hm0
 have hlz:hat zs (zs.length - 1)=hat xs 0:=by rw [hzl,hzs];exact ZoZ hm0
 have hpz:zs.Perm xs:=hzs ▸ Zfk hm0 oz
 rw [← hzl]
 refine Za (xM (h:=xM (h:=Zq (Zam [0,1] rfl rfl rfl rfl Zux rfl (Zmc _ _ _ _ _ _ oz oz oz hdb _ hzz) ?_))))
 rintro _ Bd _ hled ⟨rfl,ysd,ld,rfl,hvd,hpd,hhd,hsd⟩
 refine ZI [_,_] rfl ?_
 have hdl:=hpd.length_eq
 refine Za (xM (h:=Zq (Zf9 [0,1] rfl rfl rfl rfl Zuw rfl rfl (Zjt Znx Tryz.underlying251) (Zrp _ _ _ _ _ _ (ZaW oz) oz _ hvd) ?_)))
 rintro _ Bo _ hleo ⟨rfl,rfl,rfl,hvo⟩
 refine xA (h:=ZI [_,_] rfl (Zj ?_))
 have hz9:hat ysd (ysd.length - 1)=hat xs 0:=by rw [hsd _ oz,hdl];exact hlz
 exact Zbw .ret (.inl rfl) [_] [0,1] rfl t1 ⟨rfl,by rw [hz9];rfl,_,_,by rw [show (ysd.take (ysd.length - 1)).length=ysd.length - 1 from by simp],hvo,Zo7 oz (hpd.trans hpz) hz9,Zmb (by rw [hdl];exact hhd) oz⟩

set_option maxHeartbeats 400000 in
theorem Zkp (q:Option Addr) (cp:Nat) (xs:List DItem) (last:Int) (B:Kn) (ha:SlK B q cp 4 Zi xs):Z8 (pj J) 165 [.slice q xs.length cp,.int .i64 last] B (.bool (asc 0 last (xs.map (·.id)))):=by
 refine Zd 53 Tryz.func165 rfl rfl rfl (Nat.le_of_ble_eq_true rfl) ?_
 have hxn:=ha.len
 refine Za (xA (h:=Za (xBs [] [] Tryz.underlying252 sz3 zo3 (h:=fun b1=>xBx [_] (h:=fun b2=>xA (h:=ZI [_,_] rfl (Zh (Za (xM (h:=xV Tryz.underlying32 (h:=xM (h:=Zm ?_))))))))))))
 refine ZO (α:=Gh Int) [0,1,4,5,14,15] (fun g=>[(16,.int .i64 g.k)]) [0,1] (fun g=>[g.l,ZaE b2 [.slice g.a g.xs.length g.c] 253]) (fun g Bx=>Bx=B∧g.k≤xs.length∧g.xs.Perm ((xs.take g.k).map (·.id))∧Zc2 g.xs∧Zaa Bx g.l g.a g.c 3 1 ZdE g.xs) (fun g=>xs.length - g.k) ⟨0,0,_,_,_,[]⟩ t1 rfl (⟨rfl,Nat.zero_le _,.refl _,Zpx,.lit0⟩) (fun g B3 hle3 hI=>?_)
 obtain ⟨rfl,hk,hp,hh,hv⟩:=hI
 have hpl:=hp.length_eq
 rw [List.length_map,List.length_take] at hpl
 refine ZR [(0,_),(1,_),(4,_),(5,_),(14,_),(15,_),(16,_)] [_,_] t7 rfl (Za (ZM (h:=Zh (Ze rfl (fun g1=>?_) (fun g1=>?_)))))
 try simp only [sQ,ne_eq] at g1
 refine Zg (Zf (Zh (Zm (Za ?_))))
 obtain ⟨x,hx⟩:=Zae (xs:=xs) (i:=g.k) om
 obtain ⟨bb5,oo5,rfl⟩:=ha.base hx
 obtain ⟨_,⟨qi6,ci6,rfl,hi6,hb6,hb6b⟩,hc6⟩:=ha.elem hx
 have hi6n:=hi6.len
 refine xIx Tryz.underlying32 Zbl (h:=yL [_,_,_,_] Zd4 hc6 0 (h:=xAl [_,_,_,_] Zde (h:=fun b7=>xS [_,_,_,_] 2 [_,_,_,_] Zbl (h:=ZI [_,_,_] rfl (Zn (xM (h:=Zq (ZdG rfl rfl Tryz.underlying251 rfl rfl (xW ZdX (h:=x1 lk3 2 (h:=Zq (ZdG rfl rfl Tryz.underlying3 rfl rfl (Zq (Zam [1,0] rfl rfl rfl rfl ZuI rfl (Zma _ _ _ _ _ _ oz hh _ hv) ?_))))))))))))))
 rintro _ Bp _ hlep ⟨rfl,qp,cp,ysp,lp,rfl,hvp,hpp,hhp⟩
 refine Z7 (Zf (Zn (xD (h:=xM (h:=?_)))))
 exact ZU ⟨g.k+1,0,lp,_,_,ysp⟩ [0,1] so2 ⟨rfl,so,by simp only [];rw [Zcq hx,List.map_append];exact hpp.trans (hp.append_right _),hhp,hvp⟩ t7 rfl
 try simp only [sQ,ne_eq] at g1
 have hxe:xs.take g.k=xs:=List.take_of_length_le oz
 rw [hxe] at hp
 refine ZS (Zaf (ZW (ZG (Zf (Za (xA (h:=Zh (Za (xM (h:=xV Tryz.underlying32 (h:=xM (h:=Zm (ZO (α:=Gh2 Int Int) [0,1,5,14,15,16,17,27,28] (fun h=>[(8,.int .i64 h.e),(29,.int .i64 h.k)]) [0,1] (fun h=>[h.l,ZaE b2 [.slice h.a h.xs.length h.c] 253]) (fun h Bx=>Bx=B3∧h.k≤xs.length∧h.xs.Perm ((xs.drop h.k).map (·.id))∧Zc2 h.xs∧asc 0 last (xs.map (·.id))=asc h.e last ((xs.drop h.k).map (·.id))∧Zaa Bx h.l h.a h.c 3 1 ZdE h.xs) (fun h=>xs.length - h.k) ⟨0,0,g.l,g.a,g.c,g.xs,0⟩ t2 rfl (⟨rfl,Nat.zero_le _,hp,hh,rfl,hv⟩) (fun h B9 hle9 hI=>?_))))))))))))))
 clear hv hp hpl hh
 obtain ⟨rfl,hk,hp,hh,hs,hv⟩:=hI
 have hpl:=hp.length_eq
 rw [List.length_map,List.length_drop] at hpl
 refine ZR [(0,_),(1,_),(5,_),(8,_),(14,_),(15,_),(16,_),(17,_),(27,_),(28,_),(29,_)] [_,_] t11 rfl (Za (ZM (h:=Zh (Ze rfl (fun g2=>?_) (fun g2=>?_)))))
 try simp only [sQ,ne_eq] at g2
 refine Zg (Zf (Zh (Zm (Za ?_))))
 obtain ⟨x,hx⟩:=Zae (xs:=xs) (i:=h.k) om
 obtain ⟨bb11,oo11,rfl⟩:=ha.base hx
 obtain ⟨_,⟨qi12,ci12,rfl,hi12,hb12,hb12b⟩,hc12⟩:=ha.elem hx
 have hi12n:=hi12.len
 refine xIx Tryz.underlying32 Zbl (h:=?_)
 rw [ZiD hx,List.map_cons] at hp hs
 refine yL [_,_,_,_] Zd4 hc12 0 (h:=xAl [_,_,_,_] Zde (h:=fun b13=>xS [_,_,_,_] 2 [_,_,_,_] Zbl (h:=ZI [_,_,_] rfl (Za (xM (h:=Zq (ZdG rfl rfl Tryz.underlying251 rfl rfl (Zq (Zam [1,0] rfl rfl rfl rfl ZuH rfl (ZnT _ _ _ _ _ oz oz hh _ hv) ?_)))))))))
 rintro _ Bo _ hleo ⟨rfl,rfl,yso,lo,rfl,hvo,hpo,hho⟩
 refine Zq (ZiN rfl rfl Tryz.underlying3 rfl rfl (xA (h:=ZI [_,_,_] rfl (Zh (Za (xM (h:=xW ZdX (h:=x1 lk3 2 (h:=Z4 (h:=xM (h:=ZC (d:=41) rfl (fun g3=>?_) (fun g3=>?_))))))))))))
 try simp only [sQ,ne_eq] at g3
 refine xP (h:=xP (h:=xP (h:=xT (h:=xM (h:=xP (h:=xP (h:=xP (h:=xT (h:=Ze (t:=true) rfl (fun _=>Za (xA (h:=Zj (Zt (ZN (Zt (Z2 (ZN (Zt ?_))))))))) (fun h=>Bool.noConfusion h))))))))))
 exact ZK .ret (.inl rfl) [_] t1 ⟨Zk (by rw [hs];exact ZpX hp hh (by simpa using g3)),rfl,rfl⟩
 try simp only [sQ,ne_eq] at g3
 refine xM (h:=xM (h:=Zca (h:=xF (h:=xM (h:=ZC (d:=46) rfl (fun g4=>?_) (fun g4=>?_))))))
 try simp only [sQ,ne_eq] at g4
 refine xP (h:=xP (h:=xP (h:=xT (h:=Ze (t:=true) rfl (fun _=>Za (xA (h:=Zj (Zt (ZN (Zt (Z2 (ZN (Zt ?_))))))))) (fun h=>Bool.noConfusion h)))))
 exact ZK .ret (.inl rfl) [_] t1 ⟨Zk (by rw [hs];exact ZpW (by rw [← g3];simpa using g4)),rfl,rfl⟩
 try simp only [sQ,ne_eq] at g4
 refine xM (h:=xM (h:=Zd8 (h:=xF (h:=Ze rfl (fun g5=>?_) (fun g5=>?_)))))
 try simp only [sQ,ne_eq] at g5
 refine Za (xA (h:=Zj (Zt (ZN (Zt (Z2 (ZN (Zt ?_))))))))
 exact ZK .ret (.inl rfl) [_] t1 ⟨Zk (by rw [hs];exact ZpV (by rw [← g3];simpa using g5)),rfl,rfl⟩
 try simp only [sQ,ne_eq] at g5
 refine Zg (Zf (Zn (xM (h:=xA (h:=Z7 (Zf (Zn (xD (h:=xM (h:=?_))))))))))
 exact ZU ⟨h.k+1,0,lo,_,_,yso,hat h.xs 0⟩ [0,1] so2 ⟨rfl,so,List.Perm.cons_inv ((show (x.id :: yso).Perm (hat h.xs 0 :: yso) from by rw [g3]).trans (hpo.trans hp)),hho,by simp only [];rw [hs,g3];exact Ztt (by rw [← g3];simpa using g4) (by rw [← g3];simpa using g5),hvo⟩ t11 rfl
 try simp only [sQ,ne_eq] at g2
 rw [Zos oz,List.map_nil,asc] at hs
 refine ZS (Zaf (ZW (ZG (Zf (Za (xA (h:=Zj ?_)))))))
 exact ZK .ret (.inl rfl) [_] t1 ⟨Zk hs.symm,rfl,rfl⟩

set_option maxHeartbeats 400000 in
theorem Zg0 (aq:Option Addr) (cq:Nat) (q:DQueue) (B:Kn) (hq:SlK B aq cq 4 Zi q.items):Z8 (pj J) 117 [.agg #[.int .i64 q.next,.slice aq q.items.length cq]] B (.bool (ZaP q)):=by
 refine Zd 42 Tryz.func117 rfl rfl rfl (Nat.le_of_ble_eq_true rfl) ?_
 have hqn:=hq.len
 refine Za (xBx [_,_] (h:=fun b1=>xA (h:=ZI [_] rfl (Zh (Za (xW Zba (h:=x1 Zgt 0 (h:=xV Tryz.underlying32 (h:=Zd8 (h:=xM (h:=ZC (d:=9) rfl (fun g1=>?_) (fun g1=>?_))))))))))))
 try simp only [sQ,ne_eq] at g1
 refine xP (h:=xP (h:=xP (h:=xT (h:=xM (h:=xP (h:=xP (h:=xP (h:=xT (h:=Ze (t:=true) rfl (fun _=>Za (xA (h:=Zj (Zt ?_)))) (fun h=>Bool.noConfusion h))))))))))
 exact ZK .ret (.inl rfl) [_] t1 ⟨Zk (ZfT oz),rfl,rfl⟩
 try simp only [sQ,ne_eq] at g1
 refine xW Zcw (h:=x1 lk3 0 (h:=ZM (h:=xF (h:=xM (h:=ZC (d:=14) rfl (fun g2=>?_) (fun g2=>?_))))))
 try simp only [sQ,ne_eq] at g2
 refine xP (h:=xP (h:=xP (h:=xT (h:=Ze (t:=true) rfl (fun _=>Za (xA (h:=Zj (Zt ?_)))) (fun h=>Bool.noConfusion h)))))
 exact ZK .ret (.inl rfl) [_] t1 ⟨Zk (ZfT oz),rfl,rfl⟩
 try simp only [sQ,ne_eq] at g2
 refine xW Zcw (h:=x1 lk3 0 (h:=Zd8 (h:=xF (h:=Ze rfl (fun g3=>?_) (fun g3=>?_)))))
 try simp only [sQ,ne_eq] at g3
 refine Za (xA (h:=Zj (Zt ?_)))
 exact ZK .ret (.inl rfl) [_] t1 ⟨Zk (ZfT oz),rfl,rfl⟩
 try simp only [sQ,ne_eq] at g3
 refine Zg (Zf (Zh (Za (xW Zba (h:=x1 Zgt 0 (h:=xV Tryz.underlying32 (h:=xM (h:=Zm (ZO (α:=Nat) [0,1,18,20,21] (fun k=>[(22,.int .i64 k)]) [] (fun k=>[]) (fun k Bx=>Bx=B∧k≤q.items.length∧(q.items.take k).all Zfv=true) (fun k=>q.items.length - k) 0 t1 rfl (⟨rfl,Nat.zero_le _,by simp⟩) (fun k B2 hle2 hI=>?_))))))))))
 obtain ⟨rfl,hk,ha⟩:=hI
 refine ZR [(0,_),(1,_),(18,_),(20,_),(21,_),(22,_)] [_] t6 rfl (Za (ZM (h:=Zh (Ze rfl (fun g4=>?_) (fun g4=>?_)))))
 try simp only [sQ,ne_eq] at g4
 refine Zg (Zf (Zh (Zm (Za ?_))))
 obtain ⟨x,hx⟩:=Zae (xs:=q.items) (i:=k) om
 obtain ⟨bb4,oo4,rfl⟩:=hq.base hx
 obtain ⟨_,⟨qi5,ci5,rfl,hi5,hb5,hb5b⟩,hc5⟩:=hq.elem hx
 have hi5n:=hi5.len
 refine xIx Tryz.underlying32 Zbl (h:=yL [_,_,_,_] Zd4 hc5 0 (h:=xAl [_,_,_,_] Zde (h:=fun b6=>xS [_,_,_,_] 1 [_,_,_,_] Zbl (h:=ZI [_,_] rfl (Za (xW ZdW (h:=x1 lk9 1 (h:=xW Zcj (h:=x1 Zgs 1 (h:=xW Ze8 (h:=x1 lk9 1 (h:=xB [(0,_),(1,_),(2,_)] [_,_,_] [_,_,_] ZvS Zp9 (h:=?_)))))))))))))
 refine xR Zut rfl (Zej _ _ ⟨x.fr,x.left,x.text⟩ _ hi5 oa oa) (h:=?_)
 refine xN (h:=Ze rfl (fun g5=>?_) (fun g5=>?_))
 try simp only [sQ,ne_eq] at g5
 refine Za (xA (h:=Zj (ZN (Zt (Z2 (ZN (Zt ?_)))))))
 exact ZK .ret (.inl rfl) [_] t1 ⟨Zk (Zj5 hx g5),rfl,rfl⟩
 try simp only [sQ,ne_eq] at g5
 refine Zg (Z7 (Zf (Zn (xD (h:=xM (h:=?_))))))
 exact ZU (k+1) [0] so2 ⟨rfl,oz,Ztu hx g5 ha⟩ t6 rfl
 try simp only [sQ,ne_eq] at g4
 refine ZS (Zaf (ZW (ZG (Zf (Za (xW Zba (h:=x1 Zgt 0 (h:=xW Zcw (h:=x1 lk3 0 (h:=xU (h:=xR Zu2 rfl (Zkp _ _ _ _ _ hq) (h:=xA (h:=Zj ?_)))))))))))))
 exact ZK .ret (.inl rfl) [_] t1 ⟨Zk (Zj4 oz ha oz oz oz),rfl,rfl⟩

set_option maxHeartbeats 400000 in
theorem Zg1 (aq:Option Addr) (cq:Nat) (q:DQueue) (qx:Option Addr) (cx:Nat) (x:DLetter) (B:Kn) (hq:SlK B aq cq 4 Zi q.items) (hx:SlK B qx cx 1 ZJ x.to_) (h1:x.fr.length≤2000000) (h2:x.text.length≤2000000):ZL (pj J) 62 [.agg #[.int .i64 q.next,.slice aq q.items.length cq],.agg #[str x.fr,.slice qx x.to_.length cx,str x.text]] B [] (fun v B' Ls=>(∃l a cp,Ls=[l]∧v = .tuple #[.agg #[.int .i64 (ZeR q x).1.next,.slice a (ZeR q x).1.items.length cp],.bool (ZeR q x).2]∧Zbb l a cp 126 4 (Z3 9) (ZeR q x).1.items)):=by
 refine Zd 50 Tryz.func62 rfl rfl rfl (Nat.le_of_ble_eq_true rfl) ?_
 have hqn:=hq.len
 have hxn:=hx.len
 refine Za (xBx [_,_] (h:=fun b1=>xBx [_,_,_] (h:=fun b2=>xAl [_,_] Zhp (h:=fun b3=>xA (h:=ZI [_,_,_] rfl (Zh (Za (xL [_,_] Zdg 0 (h:=xR Ztl rfl (Zg0 _ _ q _ hq) (h:=xN (h:=xM (h:=ZC (d:=11) rfl (fun g1=>?_) (fun g1=>?_)))))))))))))
 try simp only [sQ,ne_eq] at g1
 refine xP (h:=xP (h:=xP (h:=xT (h:=Ze (t:=true) rfl (fun _=>Za (xB [] [_,_] [_,_] Zr1 Zhp (h:=xS [_,_] 2 [_,_] ZfM (h:=xA (h:=ZI [_,_,_] rfl (Zj (Zt ?_))))))) (fun h=>Bool.noConfusion h)))))
 have he:=ZjJ (x:=x) g1
 exact Zte .ret (.inl rfl) [_,_] ⟨⟨_,rfl,.inr ⟨[_,_],Zdg,Za9 2 rfl rfl rfl,rfl⟩⟩,rfl,trivial⟩ ⟨_,none,0,rfl,by rw [he];rfl,by rw [he];exact Zbb.nil⟩
 try simp only [sQ,ne_eq] at g1
 refine xL [_,_,_] ZhQ 1 (h:=xR Zut rfl (Zej _ _ x _ hx oa oa) (h:=?_))
 refine xN (h:=xF (h:=Ze rfl (fun g2=>?_) (fun g2=>?_)))
 try simp only [sQ,ne_eq] at g2
 refine Za (xB [] [_,_] [_,_] Zr1 Zhp (h:=xS [_,_] 2 [_,_] ZfM (h:=xA (h:=ZI [_,_,_] rfl (Zj (Zt ?_))))))
 have he:=ZjI (q:=q) g2
 exact Zte .ret (.inl rfl) [_,_] ⟨⟨_,rfl,.inr ⟨[_,_],Zdg,Za9 2 rfl rfl rfl,rfl⟩⟩,rfl,trivial⟩ ⟨_,none,0,rfl,by rw [he];rfl,by rw [he];exact Zbb.nil⟩
 try simp only [sQ,ne_eq] at g2
 have hqb:=Zct g1
 refine Zg (Zf (Za (xL [_,_] Zdg 0 (h:=Zq (ZF rfl rfl Ztk rfl (Zga _ _ q _ hq) ?_)))))
 rintro _ Bk _ hlek ⟨lk,qk,ck,rfl,rfl,hdk⟩
 replace hq:=hq.mono Zi.mono hlek
 replace hx:=hx.mono ZJ.mono hlek
 refine xAl [_,_] Zhp (h:=fun b7=>xS [_,_] 4 [_,_] ZfM (h:=ZI [_,_,_,_,_] rfl (Zh (Za (xW Zba (h:=x1 Zgt 0 (h:=xV Tryz.underlying32 (h:=ZmB (h:=xM (h:=ZC (d:=23) rfl (fun g3=>?_) (fun g3=>?_)))))))))))
 try simp only [sQ,ne_eq] at g3
 refine xP (h:=xP (h:=xP (h:=xT (h:=Ze (t:=true) rfl (fun _=>Za (xL [_,_] Zdg 4 (h:=xS [_,_] 2 [_,_] ZfM (h:=xA (h:=ZI [_,_,_,_,_] rfl (Zj (Zt ?_))))))) (fun h=>Bool.noConfusion h)))))
 have he:=ZfF g1 g2 (.inl oz)
 exact Zbw .ret (.inl rfl) [_,_] [3] rfl ⟨⟨_,rfl,.inr ⟨[_,_],Zdg,Za9 2 rfl rfl rfl,rfl⟩⟩,rfl,trivial⟩ ⟨_,_,_,rfl,by rw [he];rfl,by rw [he];exact hdk⟩
 try simp only [sQ,ne_eq] at g3
 refine xW Zcw (h:=x1 lk3 0 (h:=Zd8 (h:=xF (h:=Ze rfl (fun g4=>?_) (fun g4=>?_)))))
 try simp only [sQ,ne_eq] at g4
 refine Za (xL [_,_] Zdg 4 (h:=xS [_,_] 2 [_,_] ZfM (h:=xA (h:=ZI [_,_,_,_,_] rfl (Zj (Zt ?_))))))
 have he:=ZfF g1 g2 (.inr oz)
 exact Zbw .ret (.inl rfl) [_,_] [3] rfl ⟨⟨_,rfl,.inr ⟨[_,_],Zdg,Za9 2 rfl rfl rfl,rfl⟩⟩,rfl,trivial⟩ ⟨_,_,_,rfl,by rw [he];rfl,by rw [he];exact hdk⟩
 try simp only [sQ,ne_eq] at g4
 refine Zg (Zf (Za (xW Zcw (h:=x1 lk3 0 (h:=xW Zfz (h:=x1 lk9 1 (h:=xW Zg9 (h:=x1 lk9 1 (h:=xW Zeo (h:=x1 Zgs 1 (h:=xB [(0,_),(1,_),(2,_),(3,_)] [_,_,_,_] [_,_,_,_] ZsJ Zde (h:=xAl [_,_,_,_] Zde (h:=fun b8=>?_)))))))))))))
 refine xS [_,_,_,_] 5 [_,_,_,_] Zbl (h:=ZI [_,_,_,_,_,_] rfl (Zh (Zac (keeps _ [4,5] _) mo kr ⟨Kn.le.refl _,ZaM.refl _ _⟩ (fun _ _=>?_))))
 refine aW 0 rfl Zba (h:=aT 1 rfl (ZZ fun D B L hI=>Zx rfl rfl Zgt rfl (atL 4 (hI.2.1.trans rfl) rfl rfl) r4) (h:=aT 2 rfl (ZZ fun D B L hI=>ZV [_,_,_,_] rfl rfl Zd4 rfl (Za9 5 (hI.2.2.1.trans rfl) rfl rfl) r4) (h:=Zw 3 kr rfl kr (ZF rfl rfl Ztj rfl (ZgX _ _ ⟨q.next,x.fr,x.text,x.to_⟩ _ hx) ?_))))
 rintro _ B9 _ hle9 ⟨rfl,ins9,a9,c9,rfl,rfl,hs9⟩
 refine ⟨⟨Kn.le.refl _,t2⟩,(Zw 4 kr rfl kr (ZP (parts:=[(0,_)]) [_,_,_,_] rfl rfl Tryz.underlying32 Zbl Zde rfl rfl rfl rfl rfl (fun b10=>?_)))⟩
 refine ⟨⟨Kn.le.refl _,t2⟩,(Zw 5 kr rfl kr (Zqm (R:=Z3 9) (z:=⟨q.next,x.fr,x.text,x.to_⟩) 3 6 rfl rfl rfl hdk rfl rfl rfl Ztd ZtD rfl rfl (Zcm.box 7 rfl) rfl rfl (⟨_,_,rfl,hs9,by first | assumption | omega | (simp;done) | (simp;omega),by first | assumption | omega | (simp;done) | (simp;omega),by first | assumption | omega | (simp;done) | (simp;omega)⟩) om (fun l11 p11 c11 hd11=>?_)))⟩
 refine ⟨⟨Kn.le.refl _,t2⟩,(aW 6 rfl Zba (h:=Zav 7 kr rfl kr kr kr (ZT [_] 4 [_,_] rfl rfl Zsx rfl rfl rfl rfl rfl rfl rfl rfl ?_)))⟩
 refine Zf (ZI [_,_,_,_,_,_,_,_] rfl (Za (xW Zcw (h:=x1 lk3 4 (h:=xD (h:=xW Zcw (h:=xS [_] 4 [_,_] sz3 (h:=ZI [_,_,_,_,_,_,_,_] rfl (Za (xL [_,_] Zdg 4 (h:=xS [_,_] 2 [_,_] ZfM (h:=xA (h:=?_)))))))))))))
 refine ZI [_,_,_,_,_,_,_,_] rfl (Zj ?_)
 have he:=ZoE g1 g2 oz oz
 exact Zbw .ret (.inl rfl) [_,_] [3] rfl ⟨⟨_,rfl,.inr ⟨[_,_],Zdg,Za9 2 rfl rfl rfl,rfl⟩⟩,rfl,trivial⟩ ⟨_,_,_,rfl,by rw [he];rfl,by rw [he];exact hd11⟩

set_option maxHeartbeats 400000 in
theorem ZnF (n:Int) (B:Kn):Z8 (pj J) 65 [.int .i64 n] B (.bool (decide (0≤n) && decide (n≤31))):=by
 refine Zd 5 Tryz.func65 rfl rfl rfl (Nat.le_of_ble_eq_true rfl) ?_
 refine Za (xA (h:=Za (xM (h:=xR ZpO rfl (Zft _ _ _ _) (h:=xA (h:=Zj ?_))))))
 exact ZK .ret (.inl rfl) [_] t1 ⟨rfl,rfl,rfl⟩

set_option maxHeartbeats 400000 in
theorem Zkn (n:Int) (B:Kn):Z8 (pj J) 67 [.int .i64 n] B (.bool (decide (0≤n) && decide (n≤31))):=by
 refine Zd 9 Tryz.func67 rfl rfl rfl (Nat.le_of_ble_eq_true rfl) ?_
 refine Za (xA (h:=Za (xM (h:=Zd9 (h:=xM (h:=ZC (d:=5) rfl (fun g1=>?_) (fun g1=>?_)))))))
 try simp only [sQ,ne_eq] at g1
 refine xM (h:=Zca (h:=xT (h:=xA (h:=Zj ?_))))
 exact ZK .ret (.inl rfl) [_] t1 ⟨Zk (by rw [Bool.eq_iff_iff];simp [g1];try omega),rfl,rfl⟩
 try simp only [sQ,ne_eq] at g1
 refine xP (h:=xP (h:=xF (h:=xA (h:=Zj ?_))))
 exact ZK .ret (.inl rfl) [_] t1 ⟨Zk (by rw [Bool.eq_iff_iff];simp [g1];try omega),rfl,rfl⟩

set_option maxHeartbeats 400000 in
theorem ZnL (m:DMail) (hm:m.text.length≤2000000) (B:Kn):Z8 (pj J) 178 [.agg #[.int .i64 m.uid,.int .i64 m.flags,str m.text]] B (.bool (ZcF m)):=by
 refine Zd 17 Tryz.func178 rfl rfl rfl (Nat.le_of_ble_eq_true rfl) ?_
 refine Za (xBx [_,_,_] (h:=fun b1=>xA (h:=ZI [_] rfl (Za (xW ZcA (h:=x1 lk3 0 (h:=xR ZpO rfl (Zft _ _ _ _) (h:=xM (h:=ZC (d:=6) rfl (fun g1=>?_) (fun g1=>?_))))))))))
 try simp only [sQ,ne_eq] at g1
 refine xW Ze7 (h:=x1 lk3 0 (h:=xR Zwx rfl (ZnF _ _) (h:=xT (h:=xM (h:=ZC (d:=11) rfl (fun g2=>?_) (fun g2=>?_))))))
 try simp only [sQ,ne_eq] at g2
 refine xW ZdU (h:=x1 lk9 0 (h:=xVs Tryz.underlying9 (h:=Zca (h:=xT (h:=xA (h:=Zj ?_))))))
 exact ZK .ret (.inl rfl) [_] t1 ⟨Zk (by rw [Bool.eq_iff_iff];simp [ZcF,g1,g2];try omega),rfl,rfl⟩
 try simp only [sQ,ne_eq] at g2
 refine xP (h:=xP (h:=xP (h:=xP (h:=xF (h:=xA (h:=Zj ?_))))))
 exact ZK .ret (.inl rfl) [_] t1 ⟨Zk (by rw [Bool.eq_iff_iff];simp [ZcF,g1,g2];try omega),rfl,rfl⟩
 try simp only [sQ,ne_eq] at g1
 refine xP (h:=xP (h:=xP (h:=xF (h:=xM (h:=xP (h:=xP (h:=xP (h:=xP (h:=xF (h:=xA (h:=Zj ?_)))))))))))
 exact ZK .ret (.inl rfl) [_] t1 ⟨Zk (by rw [Bool.eq_iff_iff];simp [ZcF,g1];try omega),rfl,rfl⟩

set_option maxHeartbeats 400000 in
theorem Zl4 (m:DMail) (hm:m.text.length≤2000000) (B:Kn):Z8 (pj J) 199 [.agg #[.int .i64 m.uid,.int .i64 m.flags,str m.text]] B (.bool (ZcF m)):=by
 refine Zd 22 Tryz.func199 rfl rfl rfl (Nat.le_of_ble_eq_true rfl) ?_
 refine Za (xBx [_,_,_] (h:=fun b1=>xA (h:=ZI [_] rfl (Za (xW ZcA (h:=x1 lk3 0 (h:=Zd9 (h:=xM (h:=ZC (d:=6) rfl (fun g1=>?_) (fun g1=>?_))))))))))
 try simp only [sQ,ne_eq] at g1
 refine xW ZcA (h:=x1 lk3 0 (h:=Zca (h:=xT (h:=xM (h:=ZC (d:=11) rfl (fun g2=>?_) (fun g2=>?_))))))
 try simp only [sQ,ne_eq] at g2
 refine xW Ze7 (h:=x1 lk3 0 (h:=xR Zww rfl (Zkn _ _) (h:=xT (h:=xM (h:=ZC (d:=16) rfl (fun g3=>?_) (fun g3=>?_))))))
 try simp only [sQ,ne_eq] at g3
 refine xW ZdU (h:=x1 lk9 0 (h:=xVs Tryz.underlying9 (h:=Zca (h:=xT (h:=xA (h:=Zj ?_))))))
 exact ZK .ret (.inl rfl) [_] t1 ⟨Zk (by rw [Bool.eq_iff_iff];simp [ZcF,g1,g2,g3];try omega),rfl,rfl⟩
 try simp only [sQ,ne_eq] at g3
 refine xP (h:=xP (h:=xP (h:=xP (h:=xF (h:=xA (h:=Zj ?_))))))
 exact ZK .ret (.inl rfl) [_] t1 ⟨Zk (by rw [Bool.eq_iff_iff];simp [ZcF,g1,g2,g3];try omega),rfl,rfl⟩
 try simp only [sQ,ne_eq] at g2
 refine xP (h:=xP (h:=xP (h:=xF (h:=xM (h:=xP (h:=xP (h:=xP (h:=xP (h:=xF (h:=xA (h:=Zj ?_)))))))))))
 exact ZK .ret (.inl rfl) [_] t1 ⟨Zk (by rw [Bool.eq_iff_iff];simp [ZcF,g1,g2];try omega),rfl,rfl⟩
 try simp only [sQ,ne_eq] at g1
 refine xP (h:=xP (h:=xP (h:=xF (h:=xM (h:=xP (h:=xP (h:=xP (h:=xF (h:=xM (h:=xP (h:=xP (h:=xP (h:=?_)))))))))))))
 refine xP (h:=xF (h:=xA (h:=Zj ?_)))
 exact ZK .ret (.inl rfl) [_] t1 ⟨Zk (by rw [Bool.eq_iff_iff];simp [ZcF,g1];try omega),rfl,rfl⟩

set_option maxHeartbeats 400000 in
theorem Zm9 (q:Option Addr) (cp:Nat) (x:DBox) (B:Kn) (hx:SlK B q cp 3 Zaw x.mail):Z8 (pj J) 142 [.agg #[.int .i64 x.next,.slice q x.mail.length cp]] B (.bool (Zf1 x)):=by
 refine Zd 46 Tryz.func142 rfl rfl rfl (Nat.le_of_ble_eq_true rfl) ?_
 have hxn:=hx.len
 refine Za (xBx [_,_] (h:=fun b1=>xA (h:=ZI [_] rfl (Za (xA (h:=Zh (Za (xA (h:=Zm (ZO (α:=Nat × Int) [0,1] (fun g=>[(3,.int .i64 g.2),(4,.int .i64 g.1)]) [] (fun g=>[]) (fun g Bx=>Bx=B∧g.1≤x.mail.length∧ZdQ (x.mail.take g.1)=(true,g.2)∧0≤g.2∧g.2≤99) (fun g=>x.mail.length - g.1) (0,0) t2 rfl (⟨rfl,Nat.zero_le _,Ze1,oz,oz⟩) (fun g B2 hle2 hI=>?_)))))))))))
 obtain ⟨rfl,hk,hs,hl0,hl1⟩:=hI
 refine ZR [(0,_),(1,_),(3,_),(4,_)] [_] t4 rfl (Zh (Za (xM (h:=xW Zb8 (h:=x1 ZjN 0 (h:=xV Tryz.underlying71 (h:=ZM (h:=Ze rfl (fun g1=>?_) (fun g1=>?_)))))))))
 try simp only [sQ,ne_eq] at g1
 refine Zg (Zf (Zh (Zm (Zh (Za (xW Zb8 (h:=x1 ZjN 0 (h:=xM (h:=?_)))))))))
 obtain ⟨m,hm⟩:=Zae (xs:=x.mail) (i:=g.1) om
 obtain ⟨bb4,oo4,rfl⟩:=hx.base hm
 obtain ⟨_,⟨rfl,hb5⟩,hc5⟩:=hx.elem hm
 refine xIx Tryz.underlying71 Zdf (h:=yL [_,_,_] Zjg hc5 0 (h:=xR ZuU rfl (ZnL m om2 _) (h:=?_)))
 refine xN (h:=xM (h:=ZC (d:=19) rfl (fun g2=>?_) (fun g2=>?_)))
 try simp only [sQ,ne_eq] at g2
 refine xP (h:=xP (h:=xP (h:=xP (h:=xP (h:=xP (h:=xP (h:=xP (h:=xT (h:=Ze (t:=true) rfl (fun _=>Za (xA (h:=Zj (Zt (ZN (Zt (Z2 (ZN (Zt ?_))))))))) (fun h=>Bool.noConfusion h))))))))))
 exact ZK .ret (.inl rfl) [_] t1 ⟨Zk (ZfD (Ze2 hm (by rw [show (scn Ze4 (fun _ m=>m.uid) 0 (x.mail.take g.1)).2=g.2 from congrArg Prod.snd hs];simp [Ze4,g2]))).symm,rfl,rfl⟩
 try simp only [sQ,ne_eq] at g2
 refine xW Zb8 (h:=x1 ZjN 0 (h:=xM (h:=xIx Tryz.underlying71 Zdf (h:=xW ZcA (h:=y1 lk3 hc5 0 (h:=xM (h:=Zca (h:=xF (h:=Ze rfl (fun g3=>?_) (fun g3=>?_))))))))))
 try simp only [sQ,ne_eq] at g3
 refine Za (xA (h:=Zj (Zt (ZN (Zt (Z2 (ZN (Zt ?_))))))))
 exact ZK .ret (.inl rfl) [_] t1 ⟨Zk (ZfD (Ze2 hm (by rw [show (scn Ze4 (fun _ m=>m.uid) 0 (x.mail.take g.1)).2=g.2 from congrArg Prod.snd hs];simp [Ze4,g2];omega))).symm,rfl,rfl⟩
 try simp only [sQ,ne_eq] at g3
 refine Zg (Zf (Zn (xW Zb8 (h:=x1 ZjN 0 (h:=xM (h:=xIx Tryz.underlying71 Zdf (h:=xW ZcA (h:=y1 lk3 hc5 0 (h:=xA (h:=Z7 (Zf (Zn (xM (h:=?_))))))))))))))
 refine xD (h:=xA (h:=?_))
 exact ZU (g.1+1,m.uid) [0] so2 ⟨rfl,oz,Zco hm hs (by simp [Ze4,g2];omega),ZhO g2⟩ t4 rfl
 try simp only [sQ,ne_eq] at g1
 refine ZS (Zaf (ZW (ZG (Zf (Za (xW Zfy (h:=x1 lk3 0 (h:=xM (h:=xD (h:=xR ZpO rfl (Zft _ _ _ _) (h:=xM (h:=ZC (d:=40) rfl (fun g4=>?_) (fun g4=>?_)))))))))))))
 try simp only [sQ,ne_eq] at g4
 refine xW Zb8 (h:=x1 ZjN 0 (h:=xV Tryz.underlying71 (h:=Zca (h:=xT (h:=xA (h:=Zj ?_))))))
 exact ZK .ret (.inl rfl) [_] t1 ⟨Zk (by rw [ZfC (ZdP hs oz),g4,Bool.true_and,Bool.eq_iff_iff];simp;omega),rfl,rfl⟩
 try simp only [sQ,ne_eq] at g4
 refine xP (h:=xP (h:=xP (h:=xP (h:=xF (h:=xA (h:=Zj ?_))))))
 exact ZK .ret (.inl rfl) [_] t1 ⟨Zk (by rw [ZfC (ZdP hs oz),g4,Bool.false_and]),rfl,rfl⟩

set_option maxHeartbeats 400000 in
theorem Zjk (q:Option Addr) (cp:Nat) (x:DBox) (B:Kn) (hx:SlK B q cp 3 Zaw x.mail):Z8 (pj J) 167 [.agg #[.int .i64 x.next,.slice q x.mail.length cp]] B (.bool (Zf1 x)):=by
 refine Zd 38 Tryz.func167 rfl rfl rfl (Nat.le_of_ble_eq_true rfl) ?_
 have hxn:=hx.len
 refine Za (xBx [_,_] (h:=fun b1=>xA (h:=ZI [_] rfl (Zh (Za (xW Zb8 (h:=x1 ZjN 0 (h:=xV Tryz.underlying71 (h:=Zd8 (h:=Ze rfl (fun g0=>?_) (fun g0=>?_)))))))))))
 try simp only [sQ,ne_eq] at g0
 refine Za (xA (h:=Zj (Zt ?_)))
 exact ZK .ret (.inl rfl) [_] t1 ⟨Zk (by simp [Zf1];omega),rfl,rfl⟩
 try simp only [sQ,ne_eq] at g0
 refine Zg (Zf (Za (xA (h:=Zh (Za (xW Zb8 (h:=x1 ZjN 0 (h:=xV Tryz.underlying71 (h:=xM (h:=Zm (ZO (α:=Nat × Int) [0,1,9,11,12] (fun g=>[(3,.int .i64 g.2),(13,.int .i64 g.1)]) [] (fun g=>[]) (fun g Bx=>Bx=B∧g.1≤x.mail.length∧ZdQ (x.mail.take g.1)=(true,g.2)∧0≤g.2∧g.2≤99) (fun g=>x.mail.length - g.1) (0,0) t2 rfl (⟨rfl,Nat.zero_le _,Ze1,oz,oz⟩) (fun g B2 hle2 hI=>?_))))))))))))
 obtain ⟨rfl,hk,hs,hl0,hl1⟩:=hI
 refine ZR [(0,_),(1,_),(3,_),(9,_),(11,_),(12,_),(13,_)] [_] t7 rfl (Za (ZM (h:=Zh (Ze rfl (fun g1=>?_) (fun g1=>?_)))))
 try simp only [sQ,ne_eq] at g1
 refine Zg (Zf (Zh (Zm (Za ?_))))
 obtain ⟨m,hm⟩:=Zae (xs:=x.mail) (i:=g.1) om
 obtain ⟨bb4,oo4,rfl⟩:=hx.base hm
 obtain ⟨_,⟨rfl,hb5⟩,hc5⟩:=hx.elem hm
 refine xIx Tryz.underlying71 Zdf (h:=yL [_,_,_] Zjg hc5 0 (h:=xAl [_,_,_] ZjO (h:=fun b6=>xS [_,_,_] 1 [_,_,_] Zdf (h:=ZI [_,_] rfl (Zh (Za (xL [_,_,_] Zjg 1 (h:=xR ZuF rfl (Zl4 m om2 _) (h:=?_)))))))))
 refine xN (h:=xM (h:=ZC (d:=20) rfl (fun g2=>?_) (fun g2=>?_)))
 try simp only [sQ,ne_eq] at g2
 refine xP (h:=xP (h:=xP (h:=xP (h:=xT (h:=Ze (t:=true) rfl (fun _=>Za (xA (h:=Zj (Zt (ZN (Zt (Z2 (ZN (Zt ?_))))))))) (fun h=>Bool.noConfusion h))))))
 exact ZK .ret (.inl rfl) [_] t1 ⟨Zk (ZfD (Ze2 hm (by rw [show (scn Ze4 (fun _ m=>m.uid) 0 (x.mail.take g.1)).2=g.2 from congrArg Prod.snd hs];simp [Ze4,g2]))).symm,rfl,rfl⟩
 try simp only [sQ,ne_eq] at g2
 refine xW ZcA (h:=x1 lk3 1 (h:=xM (h:=Zca (h:=xF (h:=Ze rfl (fun g3=>?_) (fun g3=>?_))))))
 try simp only [sQ,ne_eq] at g3
 refine Za (xA (h:=Zj (Zt (ZN (Zt (Z2 (ZN (Zt ?_))))))))
 exact ZK .ret (.inl rfl) [_] t1 ⟨Zk (ZfD (Ze2 hm (by rw [show (scn Ze4 (fun _ m=>m.uid) 0 (x.mail.take g.1)).2=g.2 from congrArg Prod.snd hs];simp [Ze4,g2];omega))).symm,rfl,rfl⟩
 try simp only [sQ,ne_eq] at g3
 refine Zg (Zf (Zn (xW ZcA (h:=x1 lk3 1 (h:=xA (h:=Z7 (Zf (Zn (xD (h:=xM (h:=?_)))))))))))
 exact ZU (g.1+1,m.uid) [0] so2 ⟨rfl,oz,Zco hm hs (by simp [Ze4,g2];omega),ZhO g2⟩ t7 rfl
 try simp only [sQ,ne_eq] at g1
 refine ZS (Zaf (ZW (ZG (Zf (Za (xW Zfy (h:=x1 lk3 0 (h:=xM (h:=Zd8 (h:=xM (h:=ZC (d:=33) rfl (fun g4=>?_) (fun g4=>?_))))))))))))
 try simp only [sQ,ne_eq] at g4
 refine xW Zfy (h:=x1 lk3 0 (h:=Zca (h:=xT (h:=xA (h:=Zj ?_)))))
 exact ZK .ret (.inl rfl) [_] t1 ⟨Zk (by rw [ZfC (ZdP hs oz),Bool.eq_iff_iff];simp;omega),rfl,rfl⟩
 try simp only [sQ,ne_eq] at g4
 refine xP (h:=xP (h:=xP (h:=xF (h:=xA (h:=Zj ?_)))))
 exact ZK .ret (.inl rfl) [_] t1 ⟨Zk (by rw [ZfC (ZdP hs oz),Bool.eq_iff_iff];simp;omega),rfl,rfl⟩

set_option maxHeartbeats 400000 in
theorem ZnK (q:Option Addr) (cp:Nat) (x:DBox) (B:Kn) (hx:SlK B q cp 3 Zaw x.mail):Z8 (pj J) 143 [.agg #[.int .i64 x.next,.slice q x.mail.length cp]] B (.int .i64 (ZbE x.mail)):=by
 refine Zd 22 Tryz.func143 rfl rfl rfl (Nat.le_of_ble_eq_true rfl) ?_
 have hxn:=hx.len
 refine Za (xBx [_,_] (h:=fun b1=>xA (h:=ZI [_] rfl (Za (xA (h:=Zh (Za (xA (h:=Zm (ZO (α:=Nat × Nat) [0,1,2] (fun g=>[(3,.int .i64 g.2),(4,.int .i64 g.1)]) [] (fun g=>[]) (fun g Bx=>Bx=B∧g.1≤x.mail.length∧g.2=ZbE (x.mail.take g.1)∧g.2≤g.1*2000000) (fun g=>x.mail.length - g.1) (0,0) t2 rfl (⟨rfl,Nat.zero_le _,by simp [ZbE],oz⟩) (fun g B2 hle2 hI=>?_)))))))))))
 obtain ⟨rfl,hk,hs,hl⟩:=hI
 refine ZR [(0,_),(1,_),(2,_),(3,_),(4,_)] [_] t5 rfl (Zh (Za (xM (h:=xW Zb8 (h:=x1 ZjN 0 (h:=xV Tryz.underlying71 (h:=ZM (h:=Ze rfl (fun g1=>?_) (fun g1=>?_)))))))))
 try simp only [sQ,ne_eq] at g1
 refine Zg (Zf (Zh (Zm (Zn (xM (h:=xW Zb8 (h:=x1 ZjN 0 (h:=xM (h:=?_)))))))))
 obtain ⟨m,hm⟩:=Zae (xs:=x.mail) (i:=g.1) om
 obtain ⟨bb4,oo4,rfl⟩:=hx.base hm
 obtain ⟨_,⟨rfl,hb5⟩,hc5⟩:=hx.elem hm
 refine xIx Tryz.underlying71 Zdf (h:=xW ZdU (h:=y1 lk9 hc5 2 (h:=xVs Tryz.underlying9 (h:=xD (h:=xA (h:=Z7 (Zf (Zn (xM (h:=xD (h:=xA (h:=?_))))))))))))
 exact ZU (g.1+1,g.2+m.text.length) [0] so2 ⟨rfl,oz,by rw [ZgL hm,← hs],oz⟩ t5 rfl
 try simp only [sQ,ne_eq] at g1
 refine ZS (Zaf (ZW (ZG (Zf (Za (xM (h:=xA (h:=Zj ?_))))))))
 exact ZK .ret (.inl rfl) [_] t1 ⟨ZX (by rw [← ZhG hs oz]),rfl,rfl⟩

set_option maxHeartbeats 400000 in
theorem Zoz (q:Option Addr) (cp:Nat) (x:DBox) (B:Kn) (hx:SlK B q cp 3 Zaw x.mail):Z8 (pj J) 198 [.agg #[.int .i64 x.next,.slice q x.mail.length cp]] B (.int .i64 (Zdj x)):=by
 refine Zd 23 Tryz.func198 rfl rfl rfl (Nat.le_of_ble_eq_true rfl) ?_
 have hxn:=hx.len
 refine Za (xBx [_,_] (h:=fun b1=>xA (h:=ZI [_] rfl (Zh (Za (xL [_,_] Zlh 0 (h:=xR Ztg rfl (Zjk _ _ (⟨x.next,x.mail⟩:DBox) _ hx) (h:=xN (h:=Ze rfl (fun g0=>?_) (fun g0=>?_))))))))))
 try simp only [sQ,ne_eq] at g0
 refine Za (xA (h:=Zj (Zt ?_)))
 exact ZK .ret (.inl rfl) [_] t1 ⟨ZX (by simp [Zdj,g0]),rfl,rfl⟩
 try simp only [sQ,ne_eq] at g0
 refine Zg (Zf (Za (xA (h:=Zh (Za (xW Zb8 (h:=x1 ZjN 0 (h:=xV Tryz.underlying71 (h:=xM (h:=Zm (ZO (α:=Nat × Nat) [0,1,2,8,10,11] (fun g=>[(3,.int .i64 g.2),(12,.int .i64 g.1)]) [] (fun g=>[]) (fun g Bx=>Bx=B∧g.1≤x.mail.length∧g.2=ZbE (x.mail.take g.1)∧g.2≤g.1*2000000) (fun g=>x.mail.length - g.1) (0,0) t2 rfl (⟨rfl,Nat.zero_le _,by simp [ZbE],oz⟩) (fun g B3 hle3 hI=>?_))))))))))))
 obtain ⟨rfl,hk,hs,hl⟩:=hI
 refine ZR [(0,_),(1,_),(2,_),(3,_),(8,_),(10,_),(11,_),(12,_)] [_] t8 rfl (Za (ZM (h:=Zh (Ze rfl (fun g1=>?_) (fun g1=>?_)))))
 try simp only [sQ,ne_eq] at g1
 refine Zg (Zf (Zh (Zm (Za ?_))))
 obtain ⟨m,hm⟩:=Zae (xs:=x.mail) (i:=g.1) om
 obtain ⟨bb5,oo5,rfl⟩:=hx.base hm
 obtain ⟨_,⟨rfl,hb6⟩,hc6⟩:=hx.elem hm
 refine xIx Tryz.underlying71 Zdf (h:=yL [_,_,_] Zjg hc6 0 (h:=xAl [_,_,_] ZjO (h:=fun b7=>xS [_,_,_] 1 [_,_,_] Zdf (h:=ZI [_,_] rfl (Zn (xM (h:=xW ZdU (h:=x1 lk9 1 (h:=xVs Tryz.underlying9 (h:=xD (h:=xA (h:=Z7 (Zf ?_)))))))))))))
 refine Zn (xD (h:=xM (h:=?_)))
 exact ZU (g.1+1,g.2+m.text.length) [0] so2 ⟨rfl,oz,by rw [ZgL hm,← hs],oz⟩ t8 rfl
 try simp only [sQ,ne_eq] at g1
 refine ZS (Zaf (ZW (ZG (Zf (Za (xM (h:=xA (h:=Zj ?_))))))))
 exact ZK .ret (.inl rfl) [_] t1 ⟨ZX (by rw [Zdj,if_pos g0,← ZhG hs oz]),rfl,rfl⟩

set_option maxHeartbeats 400000 in
theorem Zo3 (n:Int) (B:Kn):Z8 (pj J) 41 [.int .i64 n] B (.bool (decide (0≤n) && decide (n≤63))):=by
 refine Zd 9 Tryz.func41 rfl rfl rfl (Nat.le_of_ble_eq_true rfl) ?_
 refine Za (xA (h:=Za (xM (h:=Zd9 (h:=xM (h:=ZC (d:=5) rfl (fun g1=>?_) (fun g1=>?_)))))))
 try simp only [sQ,ne_eq] at g1
 refine xM (h:=Zca (h:=xT (h:=xA (h:=Zj ?_))))
 exact ZK .ret (.inl rfl) [_] t1 ⟨Zk (by rw [Bool.eq_iff_iff];simp [g1];try omega),rfl,rfl⟩
 try simp only [sQ,ne_eq] at g1
 refine xP (h:=xP (h:=xF (h:=xA (h:=Zj ?_))))
 exact ZK .ret (.inl rfl) [_] t1 ⟨Zk (by rw [Bool.eq_iff_iff];simp [g1];try omega),rfl,rfl⟩

set_option maxHeartbeats 400000 in
theorem ZjU (u:DUser) (h1:u.name.length≤2000000) (h2:u.pass.length≤2000000) (B:Kn):Z8 (pj J) 183 [.agg #[str u.name,str u.pass,.int .i64 u.quota]] B (.bool (Zc4 u)):=by
 refine Zd 26 Tryz.func183 rfl rfl rfl (Nat.le_of_ble_eq_true rfl) ?_
 refine Za (xBx [_,_,_] (h:=fun b1=>xA (h:=ZI [_] rfl (Za (xW Zbe (h:=x1 lk9 0 (h:=xR Zr2 rfl (ZcN _ om2 _) (h:=?_))))))))
 refine xM (h:=ZC (d:=6) rfl (fun g1=>?_) (fun g1=>?_))
 try simp only [sQ,ne_eq] at g1
 refine xW Zbe (h:=x1 lk9 0 (h:=Zd1 (h:=xT (h:=xM (h:=ZC (d:=11) rfl (fun g2=>?_) (fun g2=>?_))))))
 try simp only [sQ,ne_eq] at g2
 refine xW Ze9 (h:=x1 lk9 0 (h:=xR Zr2 rfl (ZcN _ om2 _) (h:=?_)))
 refine xT (h:=xM (h:=ZC (d:=16) rfl (fun g3=>?_) (fun g3=>?_)))
 try simp only [sQ,ne_eq] at g3
 refine xW Zdi (h:=x1 lk3 0 (h:=Zd9 (h:=xT (h:=xM (h:=ZC (d:=21) rfl (fun g4=>?_) (fun g4=>?_))))))
 try simp only [sQ,ne_eq] at g4
 refine xW Zdi (h:=x1 lk3 0 (h:=Zca (h:=xT (h:=xA (h:=Zj ?_)))))
 exact ZK .ret (.inl rfl) [_] t1 ⟨Zk (by rw [Bool.eq_iff_iff];simp [Zc4,anyone,g1,g2,g3,g4];try omega),rfl,rfl⟩
 try simp only [sQ,ne_eq] at g4
 refine xP (h:=xP (h:=xP (h:=xF (h:=xA (h:=Zj ?_)))))
 exact ZK .ret (.inl rfl) [_] t1 ⟨Zk (by rw [Bool.eq_iff_iff];simp [Zc4,anyone,g1,g2,g3,g4];try omega),rfl,rfl⟩
 try simp only [sQ,ne_eq] at g3
 refine xP (h:=xP (h:=xP (h:=xF (h:=xM (h:=xP (h:=xP (h:=xP (h:=xF (h:=xA (h:=Zj ?_))))))))))
 exact ZK .ret (.inl rfl) [_] t1 ⟨Zk (by rw [Bool.eq_iff_iff];simp [Zc4,anyone,g1,g2,g3];try omega),rfl,rfl⟩
 try simp only [sQ,ne_eq] at g2
 refine xP (h:=xP (h:=xP (h:=xF (h:=xM (h:=xP (h:=xP (h:=xP (h:=xF (h:=xM (h:=xP (h:=xP (h:=xP (h:=?_)))))))))))))
 refine xF (h:=xA (h:=Zj ?_))
 exact ZK .ret (.inl rfl) [_] t1 ⟨Zk (by rw [Bool.eq_iff_iff];simp [Zc4,anyone,g1,g2];try omega),rfl,rfl⟩
 try simp only [sQ,ne_eq] at g1
 refine xP (h:=xP (h:=xP (h:=xF (h:=xM (h:=xP (h:=xP (h:=xP (h:=xF (h:=xM (h:=xP (h:=xP (h:=xP (h:=?_)))))))))))))
 refine xF (h:=xM (h:=xP (h:=xP (h:=xP (h:=xF (h:=xA (h:=Zj ?_)))))))
 exact ZK .ret (.inl rfl) [_] t1 ⟨Zk (by rw [Bool.eq_iff_iff];simp [Zc4,anyone,g1];try omega),rfl,rfl⟩

set_option maxHeartbeats 400000 in
theorem ZgZ (q:Option Addr) (cp:Nat) (us:List DUser) (B:Kn) (hu:SlK B q cp 3 Zc us):Z8 (pj J) 150 [.slice q us.length cp] B (.bool (ZaS us)):=by
 refine Zd 32 Tryz.func150 rfl rfl rfl (Nat.le_of_ble_eq_true rfl) ?_
 have hun:=hu.len
 refine Za (xA (h:=Zh (Za (xM (h:=xV Tryz.underlying30 (h:=ZM (h:=xM (h:=ZC (d:=9) rfl (fun g0=>?_) (fun g0=>?_)))))))))
 try simp only [sQ,ne_eq] at g0
 refine xP (h:=xP (h:=xP (h:=xT (h:=Ze (t:=true) rfl (fun _=>Za (xA (h:=Zj (Zt ?_)))) (fun h=>Bool.noConfusion h)))))
 exact ZK .ret (.inl rfl) [_] t1 ⟨Zk (by rw [Bool.eq_iff_iff];simp [ZaS];omega),rfl,rfl⟩
 try simp only [sQ,ne_eq] at g0
 refine xM (h:=xV Tryz.underlying30 (h:=Zd8 (h:=xF (h:=Ze rfl (fun g0b=>?_) (fun g0b=>?_)))))
 try simp only [sQ,ne_eq] at g0b
 refine Za (xA (h:=Zj (Zt ?_)))
 exact ZK .ret (.inl rfl) [_] t1 ⟨Zk (by rw [Bool.eq_iff_iff];simp [ZaS];omega),rfl,rfl⟩
 try simp only [sQ,ne_eq] at g0b
 refine Zg (Zf (Za (xA (h:=Zh (Za (xM (h:=xV Tryz.underlying30 (h:=xM (h:=Zm (ZO (α:=Nat × Str) [0,13,14,15] (fun g=>[(3,str g.2),(16,.int .i64 g.1)]) [] (fun g=>[]) (fun g Bx=>Bx=B∧g.1≤us.length∧ZdI (us.take g.1)=(true,g.2)∧g.2.length≤2000000) (fun g=>us.length - g.1) (0,[]) t2 rfl (⟨rfl,Nat.zero_le _,Ze1,by simp⟩) (fun g B1 hle1 hI=>?_)))))))))))
 obtain ⟨rfl,hk,hs,hl⟩:=hI
 refine ZR [(0,_),(3,_),(13,_),(14,_),(15,_),(16,_)] [] t6 rfl (Za (ZM (h:=Zh (Ze rfl (fun g1=>?_) (fun g1=>?_)))))
 try simp only [sQ,ne_eq] at g1
 refine Zg (Zf (Zh (Zm (Za ?_))))
 obtain ⟨m,hm⟩:=Zae (xs:=us) (i:=g.1) om
 obtain ⟨bb3,oo3,rfl⟩:=hu.base hm
 obtain ⟨_,⟨rfl,hb4,hb4b⟩,hc4⟩:=hu.elem hm
 refine xIx Tryz.underlying30 Zbs (h:=yL [_,_,_] ZeK hc4 0 (h:=xAl [_,_,_] ZdF (h:=fun b5=>xS [_,_,_] 0 [_,_,_] Zbs (h:=ZI [_] rfl (Zh (Za (xL [_,_,_] ZeK 0 (h:=xR ZuQ rfl (ZjU m om2 om2 _) (h:=?_)))))))))
 refine xN (h:=xM (h:=ZC (d:=23) rfl (fun g2=>?_) (fun g2=>?_)))
 try simp only [sQ,ne_eq] at g2
 refine xP (h:=xP (h:=xP (h:=xP (h:=xT (h:=Ze (t:=true) rfl (fun _=>Za (xA (h:=Zj (Zt (ZN (Zt (Z2 (ZN (Zt ?_))))))))) (fun h=>Bool.noConfusion h))))))
 exact ZK .ret (.inl rfl) [_] t1 ⟨Zk (ZeW (Ze2 hm (by rw [show (scn ZeI (fun _ u=>u.name) [] (us.take g.1)).2=g.2 from congrArg Prod.snd hs];simp [ZeI,g2]))).symm,rfl,rfl⟩
 try simp only [sQ,ne_eq] at g2
 refine xW Zbe (h:=x1 lk9 0 (h:=xM (h:=Zq (Zqh rfl rfl rfl rfl (xF (h:=Ze rfl (fun g3=>?_) (fun g3=>?_)))))))
 try simp only [sQ,ne_eq] at g3
 refine Za (xA (h:=Zj (Zt (ZN (Zt (Z2 (ZN (Zt ?_))))))))
 exact ZK .ret (.inl rfl) [_] t1 ⟨Zk (ZeW (Ze2 hm (by rw [show (scn ZeI (fun _ u=>u.name) [] (us.take g.1)).2=g.2 from congrArg Prod.snd hs,ZeI,Zbz g.2 m.name,g3];simp))).symm,rfl,rfl⟩
 try simp only [sQ,ne_eq] at g3
 refine Zg (Zf (Zn (xW Zbe (h:=x1 lk9 0 (h:=xA (h:=Z7 (Zf (Zn (xD (h:=xM (h:=?_)))))))))))
 exact ZU (g.1+1,m.name) [] so2 ⟨rfl,oz,Zco hm hs (by rw [ZeI,Zbz g.2 m.name,g2,g3];rfl),oy⟩ t6 rfl
 try simp only [sQ,ne_eq] at g1
 refine ZS (Zaf (ZW (ZG (Zf (Za (xA (h:=Zj ?_)))))))
 exact ZK .ret (.inl rfl) [_] t1 ⟨Zk (by rw [ZgE (ZdP hs oz),Bool.eq_iff_iff];simp;omega),rfl,rfl⟩

set_option maxHeartbeats 400000 in
theorem ZiP (x:DUser) (u:Str) (b:Nat) (h1:x.name.length≤2000000) (h2:u.length≤2000000) (B:Kn) (hb:ZaX B b 0 [str u]):Z8 (pj J) 157 [.agg #[str x.name,str x.pass,.int .i64 x.quota],ptr ⟨b,0,none⟩] B (.bool (decide (x.name=u))):=by
 refine Zd 8 Tryz.func157 rfl rfl rfl (Nat.le_of_ble_eq_true rfl) ?_
 refine Za (xBx [_,_,_] (h:=fun b1=>xA (h:=ZI [_] rfl (Za (xW Zbe (h:=x1 lk9 0 (h:=Zq (Zx rfl rfl lk9 rfl (hb _ 0 _ rfl) (Zea (h:=xA (h:=Zj ?_)))))))))))
 exact ZK .ret (.inl rfl) [_] t1 ⟨rfl,rfl,rfl⟩

set_option maxHeartbeats 400000 in
theorem Zoe (q:Option Addr) (cp:Nat) (us:List DUser) (F:FuncId) (cap:Array Value) (t:DUser→Bool) (B:Kn) (hu:SlK B q cp 3 Zc us) (he:enters (pj J) F=true) (hF :∀x:DUser,x.name.length≤2000000→x.pass.length≤2000000→Z8 (pj J) F ([.agg #[str x.name,str x.pass,.int .i64 x.quota]] ++ cap.toList) B (.bool (t x))):Z8 (pj J) 156 [.slice q us.length cp,.func (.func F) #[] cap] B (.tuple #[.agg #[str (Zgn t us).1.name,str (Zgn t us).1.pass,.int .i64 (Zgn t us).1.quota],.bool (Zgn t us).2]):=by
 refine Zd 21 Tryz.func156 rfl rfl rfl (Nat.le_of_ble_eq_true rfl) ?_
 have hun:=hu.len
 refine Za (xAl [_,_,_] ZdF (h:=fun b1=>xA (h:=ZI [_] rfl (Zh (Za (xM (h:=xV Tryz.underlying30 (h:=xM (h:=Zm (ZO (α:=Nat) [0,1,4,9,10] (fun k=>[(11,.int .i64 k)]) [] (fun k=>[]) (fun k Bx=>Bx=B∧k≤us.length∧∀y,y∈us.take k→t y=false) (fun k=>us.length - k) 0 t1 rfl (⟨rfl,Nat.zero_le _,by simp⟩) (fun k B2 hle2 hI=>?_)))))))))))
 obtain ⟨rfl,hk,ha⟩:=hI
 refine ZR [(0,_),(1,_),(4,_),(9,_),(10,_),(11,_)] [_] t6 rfl (Za (ZM (h:=Zh (Ze rfl (fun g1=>?_) (fun g1=>?_)))))
 try simp only [sQ,ne_eq] at g1
 refine Zg (Zf (Zh (Zm (Za ?_))))
 obtain ⟨m,hm⟩:=Zae (xs:=us) (i:=k) om
 obtain ⟨bb4,oo4,rfl⟩:=hu.base hm
 obtain ⟨_,⟨rfl,hb5,hb5b⟩,hc5⟩:=hu.elem hm
 refine xIx Tryz.underlying30 Zbs (h:=yL [_,_,_] ZeK hc5 0 (h:=xAl [_,_,_] ZdF (h:=fun b6=>xS [_,_,_] 1 [_,_,_] Zbs (h:=ZI [_,_] rfl (Za (xM (h:=xL [_,_,_] ZeK 1 (h:=Zq (Zqb rfl rfl he rfl rfl (hF m om2 om2) ?_)))))))))
 refine Ze rfl (fun g2=>?_) (fun g2=>?_)
 try simp only [sQ,ne_eq] at g2
 refine Za (xL [_,_,_] ZeK 1 (h:=xS [_,_,_] 0 [_,_,_] Zbs (h:=xA (h:=ZI [_,_] rfl (Zj (ZN (Zt (Z2 (ZN (Zt ?_))))))))))
 exact ZK .ret (.inl rfl) [_,_] ⟨⟨_,rfl,.inr ⟨[_,_,_],ZeK,Za9 0 rfl rfl rfl,rfl⟩⟩,rfl,trivial⟩ ⟨by rw [Zod hm g2 ha];rfl,rfl,rfl⟩
 try simp only [sQ,ne_eq] at g2
 refine Zg (Z7 (Zf (Zn (xD (h:=xM (h:=?_))))))
 exact ZU (k+1) [0] so2 ⟨rfl,oz,Zbf hm ha g2⟩ t6 rfl
 try simp only [sQ,ne_eq] at g1
 refine ZS (Zaf (ZW (ZG (Zf (Za (xAl [_,_,_] ZdF (h:=fun b8=>ZI [_,_] rfl (Za (xL [_,_,_] ZeK 1 (h:=xS [_,_,_] 0 [_,_,_] Zbs (h:=xA (h:=ZI [_,_] rfl (Zj ?_)))))))))))))
 exact ZK .ret (.inl rfl) [_,_] ⟨⟨_,rfl,.inr ⟨[_,_,_],ZeK,Za9 0 rfl rfl rfl,rfl⟩⟩,rfl,trivial⟩ ⟨by rw [Zmi (Zbp oz ha)];rfl,rfl,rfl⟩

set_option maxHeartbeats 400000 in
theorem ZgG (q:Option Addr) (cp:Nat) (us:List DUser) (nm:Str) (hn:nm.length≤2000000) (B:Kn) (hu:SlK B q cp 3 Zc us):Z8 (pj J) 102 [.slice q us.length cp,str nm] B (.tuple #[.agg #[str (Zao us nm).1.name,str (Zao us nm).1.pass,.int .i64 (Zao us nm).1.quota],.bool (Zao us nm).2]):=by
 refine Zd 15 Tryz.func102 rfl rfl rfl (Nat.le_of_ble_eq_true rfl) ?_
 have hun:=hu.len
 refine Za (xBx [_] (h:=fun b1=>xAl [_,_,_] ZdF (h:=fun b2=>xA (h:=ZI [_,_] rfl (Zh (Za (xM (h:=xR Zth rfl (ZgZ _ _ _ _ hu) (h:=xN (h:=Ze rfl (fun g0=>?_) (fun g0=>?_)))))))))))
 try simp only [sQ,ne_eq] at g0
 refine Za (xB [] [_,_,_] [_,_,_] Zuf ZdF (h:=xS [_,_,_] 1 [_,_,_] Zbs (h:=xA (h:=ZI [_,_] rfl (Zj (Zt ?_))))))
 exact ZK .ret (.inl rfl) [_,_] ⟨⟨_,rfl,.inr ⟨[_,_,_],ZeK,Za9 1 rfl rfl rfl,rfl⟩⟩,rfl,trivial⟩ ⟨by rw [Zao,g0];rfl,rfl,rfl⟩
 try simp only [sQ,ne_eq] at g0
 refine Zg (Zf (Za (xM (h:=Zq (Zdn (xs:=[]) (ys:=[_]) rfl rfl rfl rfl (Zq (Zfi 0 rfl rfl rfl Zu9 rfl (Z8.borrow fun hm=>Zoe _ _ us 157 _ (fun y=>decide (y.name=nm)) _ (hu.mono Zc.mono (Kn.le_add _ _)) Zu8 (fun y h1 h2=>ZiP y nm _ h1 hn _ (Zig hm))) (xE (h:=xE (h:=xS [_,_,_] 1 [_,_,_] Zbs (h:=xA (h:=ZI [_,_] rfl (Zj ?_)))))))))))))
 exact ZK .ret (.inl rfl) [_,_] ⟨⟨_,rfl,.inr ⟨[_,_,_],ZeK,Za9 1 rfl rfl rfl,rfl⟩⟩,rfl,trivial⟩ ⟨by rw [Zao,if_pos g0];rfl,rfl,rfl⟩

set_option maxHeartbeats 400000 in
theorem Zgu (b o:Nat) (q1 q2 q3:Option Addr) (c1 c2 c3:Nat) (x:DHost) (nm:Str) (hn:nm.length≤2000000) (B:Kn) (hh:ZaX B b o [str x.domain,.slice q1 x.users.length c1,.slice q2 x.folders.length c2,.int .i64 x.queue.next,.slice q3 x.queue.items.length c3]) (hu:SlK B q1 c1 3 Zc x.users):Z8 (pj J) 44 [ptr ⟨b,o,none⟩,str nm] B (.bool (Zao x.users nm).2):=by
 refine Zd 17 Tryz.func44 rfl rfl rfl (Nat.le_of_ble_eq_true rfl) ?_
 refine Za (xA (h:=Za (xM (h:=xNc (h:=xW ZbW (h:=Zq (Zx rfl rfl Zio rfl (hh _ 1 _ rfl) (xM (h:=xR Ztm rfl (ZgG _ _ _ nm om2 _ hu) (h:=?_))))))))))
 refine xM (h:=xE (h:=xE (h:=xAl [_,_,_] ZdF (h:=fun b2=>xS [_,_,_] 0 [_,_,_] Zbs (h:=xA (h:=ZI [_] rfl (Za (xM (h:=xA (h:=Zj ?_))))))))))
 exact ZK .ret (.inl rfl) [_] t1 ⟨rfl,rfl,rfl⟩

set_option maxHeartbeats 400000 in
theorem ZnI (q1 q2 q3:Option Addr) (c1 c2 c3:Nat) (x:DHost) (ow nm:Str) (ho:ow.length≤2000000) (hn:nm.length≤2000000) (B:Kn) (hf:SlK B q2 c2 5 Zb x.folders):Z8 (pj J) 33 [.agg #[str x.domain,.slice q1 x.users.length c1,.slice q2 x.folders.length c2,.int .i64 x.queue.next,.slice q3 x.queue.items.length c3],str ow,str nm] B (.int .i64 (Zho (inF ow nm) x.folders)):=by
 refine Zd 34 Tryz.func33 rfl rfl rfl (Nat.le_of_ble_eq_true rfl) ?_
 have hfn:=hf.len
 refine Za (xBx [_,_,_,_,_] (h:=fun b1=>xA (h:=ZI [_] rfl (Zh (Za (xA (h:=Zm (ZO (α:=Nat) [0,1,2,3] (fun k=>[(7,.int .i64 k)]) [] (fun k=>[]) (fun k Bx=>Bx=B∧k≤x.folders.length∧∀y,y∈x.folders.take k→inF ow nm y=false) (fun k=>x.folders.length - k) 0 t1 rfl (⟨rfl,Nat.zero_le _,by simp⟩) (fun k B2 hle2 hI=>?_)))))))))
 obtain ⟨rfl,hk,ha⟩:=hI
 refine ZR [(0,_),(1,_),(2,_),(3,_),(7,_)] [_] t5 rfl (Zh (Za (xM (h:=xW Za5 (h:=x1 Zgf 0 (h:=xV Tryz.underlying31 (h:=ZM (h:=Ze rfl (fun g1=>?_) (fun g1=>?_)))))))))
 try simp only [sQ,ne_eq] at g1
 refine Zg (Zf (Zh (Zm (Za (xW Za5 (h:=x1 Zgf 0 (h:=xM (h:=?_))))))))
 obtain ⟨y,hy⟩:=Zae (xs:=x.folders) (i:=k) om
 obtain ⟨bb4,oo4,rfl⟩:=hf.base hy
 obtain ⟨_,⟨qg5,cg5,qm5,cm5,rfl,hg5,hm5,hb5,hb5b⟩,hc5⟩:=hf.elem hy
 have hg5n:=hg5.len
 have hm5n:=hm5.len
 have hm5s:=ZaT hm5
 refine xIx Tryz.underlying31 Zcr (h:=xW Zcv (h:=y1 lk9 hc5 0 (h:=xM (h:=Zea (h:=xM (h:=ZC (d:=23) rfl (fun g2=>?_) (fun g2=>?_)))))))
 try simp only [sQ,ne_eq] at g2
 refine xW Za5 (h:=x1 Zgf 0 (h:=xM (h:=xIx Tryz.underlying31 Zcr (h:=xW Zdy (h:=y1 lk9 hc5 1 (h:=xM (h:=Zea (h:=xT (h:=Ze rfl (fun g3=>?_) (fun g3=>?_))))))))))
 try simp only [sQ,ne_eq] at g3
 refine Za (xM (h:=xA (h:=Zj (ZN (Zt (Z2 (ZN (Zt ?_))))))))
 exact ZK .ret (.inl rfl) [_] t1 ⟨ZX (Zgv hy (by simp [inF,g2,g3]) ha).symm,rfl,rfl⟩
 try simp only [sQ,ne_eq] at g3
 refine Zg (Z7 (Zf (Zn (xM (h:=xD (h:=xA (h:=?_)))))))
 exact ZU (k+1) [0] so2 ⟨rfl,oz,Zbf hy ha (by simp [inF,g2,g3])⟩ t5 rfl
 try simp only [sQ,ne_eq] at g2
 refine xP (h:=xP (h:=xP (h:=xP (h:=xP (h:=xP (h:=xP (h:=xP (h:=xF (h:=Ze (t:=false) rfl (fun h=>Bool.noConfusion h) (fun _=>Zg (Z7 (Zf (Zn ?_)))))))))))))
 refine xM (h:=xD (h:=xA (h:=?_)))
 exact ZU (k+1) [0] so2 ⟨rfl,oz,Zbf hy ha (by simp [inF,g2])⟩ t5 rfl
 try simp only [sQ,ne_eq] at g1
 refine ZS (Zaf (ZW (ZG (Zf (Za (xA (h:=Zj ?_)))))))
 exact ZK .ret (.inl rfl) [_] t1 ⟨ZX (Zek (Zbp oz ha)).symm,rfl,rfl⟩

set_option maxHeartbeats 400000 in
theorem ZrD (f:DFolder) (qa qb:Option Addr) (ca cb:Nat) (ow nm:Str) (b b':Nat) (h1:f.owner.length≤2000000) (h2:f.name.length≤2000000) (h3:ow.length≤2000000) (h4:nm.length≤2000000) (B:Kn) (hb:ZaX B b 0 [str ow]) (hb2:ZaX B b' 0 [str nm]):Z8 (pj J) 126 [.agg #[str f.owner,str f.name,.slice qa f.grants.length ca,.int .i64 f.next,.slice qb f.mail.length cb],ptr ⟨b,0,none⟩,ptr ⟨b',0,none⟩] B (.bool (inF ow nm f)):=by
 refine Zd 15 Tryz.func126 rfl rfl rfl (Nat.le_of_ble_eq_true rfl) ?_
 refine Za (xBx [_,_,_,_,_] (h:=fun b1=>xA (h:=ZI [_] rfl (Za (xW Zcv (h:=x1 lk9 0 (h:=Zq (Zx rfl rfl lk9 rfl (hb _ 0 _ rfl) (Zea (h:=xM (h:=ZC (d:=9) rfl (fun g1=>?_) (fun g1=>?_))))))))))))
 try simp only [sQ,ne_eq] at g1
 refine xW Zdy (h:=x1 lk9 0 (h:=Zq (Zx rfl rfl lk9 rfl (hb2 _ 0 _ rfl) (Zea (h:=xT (h:=xA (h:=Zj ?_)))))))
 exact ZK .ret (.inl rfl) [_] t1 ⟨Zk (by rw [Bool.eq_iff_iff];simp [inF,g1]),rfl,rfl⟩
 try simp only [sQ,ne_eq] at g1
 refine xP (h:=xP (h:=xP (h:=xP (h:=xF (h:=xA (h:=Zj ?_))))))
 exact ZK .ret (.inl rfl) [_] t1 ⟨Zk (by rw [Bool.eq_iff_iff];simp [inF,g1]),rfl,rfl⟩

set_option maxHeartbeats 400000 in
theorem Zpr (q:Option Addr) (cp:Nat) (fs:List DFolder) (F:FuncId) (cap:Array Value) (t:DFolder→Bool) (B:Kn) (hf:SlK B q cp 5 Zb fs) (he:enters (pj J) F=true) (hF :∀(f:DFolder) (qa qb:Option Addr) (ca cb:Nat),f.owner.length≤2000000→f.name.length≤2000000→Z8 (pj J) F ([.agg #[str f.owner,str f.name,.slice qa f.grants.length ca,.int .i64 f.next,.slice qb f.mail.length cb]] ++ cap.toList) B (.bool (t f))):Z8 (pj J) 125 [.slice q fs.length cp,.func (.func F) #[] cap] B (.int .i64 (Zho t fs)):=by
 refine Zd 19 Tryz.func125 rfl rfl rfl (Nat.le_of_ble_eq_true rfl) ?_
 have hfn:=hf.len
 refine Za (xA (h:=Zh (Za (xM (h:=xV Tryz.underlying31 (h:=xM (h:=Zm (ZO (α:=Nat) [0,1,7] (fun k=>[(8,.int .i64 k)]) [] (fun k=>[]) (fun k Bx=>Bx=B∧k≤fs.length∧∀y,y∈fs.take k→t y=false) (fun k=>fs.length - k) 0 t1 rfl (⟨rfl,Nat.zero_le _,by simp⟩) (fun k B1 hle1 hI=>?_)))))))))
 obtain ⟨rfl,hk,ha⟩:=hI
 refine ZR [(0,_),(1,_),(7,_),(8,_)] [] t4 rfl (Za (ZM (h:=Zh (Ze rfl (fun g1=>?_) (fun g1=>?_)))))
 try simp only [sQ,ne_eq] at g1
 refine Zg (Zf (Zh (Zm (Za (xM (h:=xA (h:=Za (xM (h:=xM (h:=xM (h:=?_)))))))))))
 obtain ⟨y,hy⟩:=Zae (xs:=fs) (i:=k) om
 obtain ⟨bb3,oo3,rfl⟩:=hf.base hy
 obtain ⟨_,⟨qg4,cg4,qm4,cm4,rfl,hg4,hm4,hb4,hb4b⟩,hc4⟩:=hf.elem hy
 have hg4n:=hg4.len
 have hm4n:=hm4.len
 have hm4s:=ZaT hm4
 refine xIx Tryz.underlying31 Zcr (h:=yL [_,_,_,_,_] ZhP hc4 0 (h:=Zq (Zqb rfl rfl he rfl rfl (hF y _ _ _ _ om2 om2) ?_)))
 refine Ze rfl (fun g2=>?_) (fun g2=>?_)
 try simp only [sQ,ne_eq] at g2
 refine Za (xM (h:=xA (h:=Zj (ZN (Zt (Z2 (ZN (Zt ?_))))))))
 exact ZK .ret (.inl rfl) [_] t1 ⟨ZX (Zgv hy g2 ha).symm,rfl,rfl⟩
 try simp only [sQ,ne_eq] at g2
 refine Zg (Z7 (Zf (Zn (xD (h:=xM (h:=?_))))))
 exact ZU (k+1) [] so2 ⟨rfl,oz,Zbf hy ha g2⟩ t4 rfl
 try simp only [sQ,ne_eq] at g1
 refine ZS (Zaf (ZW (ZG (Zf (Za (xA (h:=Zj ?_)))))))
 exact ZK .ret (.inl rfl) [_] t1 ⟨ZX (Zek (Zbp oz ha)).symm,rfl,rfl⟩

set_option maxHeartbeats 400000 in
theorem Zs5 (b o:Nat) (q1 q2 q3:Option Addr) (c1 c2 c3:Nat) (x:DHost) (ow nm:Str) (ho:ow.length≤2000000) (hn:nm.length≤2000000) (B:Kn) (hh:ZaX B b o [str x.domain,.slice q1 x.users.length c1,.slice q2 x.folders.length c2,.int .i64 x.queue.next,.slice q3 x.queue.items.length c3]) (hf:SlK B q2 c2 5 Zb x.folders):Z8 (pj J) 74 [ptr ⟨b,o,none⟩,str ow,str nm] B (.int .i64 (Zho (inF ow nm) x.folders)):=by
 refine Zd 13 Tryz.func74 rfl rfl rfl (Nat.le_of_ble_eq_true rfl) ?_
 refine Za (xBx [_] (h:=fun b1=>xBx [_] (h:=fun b2=>xA (h:=ZI [_,_] rfl (Za (xM (h:=xNc (h:=xW Za5 (h:=Zq (Zx rfl rfl Zgf rfl (hh _ 2 _ rfl) (Zq (Zdn (xs:=[]) (ys:=[_,_]) rfl rfl rfl rfl (Zq (Zr7 0 1 rfl rfl rfl rfl rfl Zvv rfl (Z8.borrow2 fun hm1 hm2=>Zpr _ _ x.folders 126 _ (inF ow nm) _ ((hf.mono Zb.mono (Kn.le_add _ _)).mono Zb.mono (Kn.le_add _ _)) Zvu (fun f qa qb ca cb h1 h2=>ZrD f qa qb ca cb ow nm _ _ h1 h2 ho hn _ (Zig hm1) (Zig hm2))) (xA (h:=?_))))))))))))))))
 refine Zj ?_
 exact ZK .ret (.inl rfl) [_] t1 ⟨rfl,rfl,rfl⟩

set_option maxHeartbeats 400000 in
theorem Zj7 (b o:Nat) (q1 q2 q3:Option Addr) (c1 c2 c3:Nat) (x:DHost) (B:Kn) (hh:ZaX B b o [str x.domain,.slice q1 x.users.length c1,.slice q2 x.folders.length c2,.int .i64 x.queue.next,.slice q3 x.queue.items.length c3]) (hu:SlK B q1 c1 3 Zc x.users) (hi:SlK B q3 c3 4 Zi x.queue.items):Z8 (pj J) 153 [ptr ⟨b,o,none⟩] B (.bool (x.queue.items.all (ZcK x.users))):=by
 refine Zd 35 Tryz.func153 rfl rfl rfl (Nat.le_of_ble_eq_true rfl) ?_
 have hin:=hi.len
 refine Za (xA (h:=Zh (Za (xM (h:=xNc (h:=xW Zb9 (h:=xW Zba (h:=Zq (Zx rfl rfl Zgt rfl (hh _ 4 _ rfl) (xV Tryz.underlying32 (h:=xM (h:=Zm (ZO (α:=Nat) [0,11,12] (fun k=>[(13,.int .i64 k)]) [] (fun k=>[]) (fun k Bx=>Bx=B∧k≤x.queue.items.length∧∀y,y∈x.queue.items.take k→ZcK x.users y=true) (fun k=>x.queue.items.length - k) 0 t1 rfl (⟨rfl,Nat.zero_le _,by simp⟩) (fun k B1 hle1 hI=>?_))))))))))))))
 obtain ⟨rfl,hk,ha⟩:=hI
 refine ZR [(0,_),(11,_),(12,_),(13,_)] [] t4 rfl (Za (ZM (h:=Zh (Ze rfl (fun g1=>?_) (fun g1=>?_)))))
 try simp only [sQ,ne_eq] at g1
 refine Zg (Zf (Zh (Zm (Za ?_))))
 obtain ⟨y,hy⟩:=Zae (xs:=x.queue.items) (i:=k) om
 obtain ⟨bb3,oo3,rfl⟩:=hi.base hy
 obtain ⟨_,⟨qi4,ci4,rfl,hi4,hb4,hb4b⟩,hc4⟩:=hi.elem hy
 have hi4n:=hi4.len
 refine xIx Tryz.underlying32 Zbl (h:=yL [_,_,_,_] Zd4 hc4 0 (h:=xAl [_,_,_,_] Zde (h:=fun b5=>xS [_,_,_,_] 0 [_,_,_,_] Zbl (h:=ZI [_] rfl (Zh (Za (xM (h:=xW ZdW (h:=x1 lk9 0 (h:=xR ZtJ rfl (Zgu _ _ _ _ _ _ _ _ x y.fr om2 _ hh hu) (h:=?_)))))))))))
 refine xN (h:=Ze rfl (fun g2=>?_) (fun g2=>?_))
 try simp only [sQ,ne_eq] at g2
 refine Za (xA (h:=Zj (Zt (ZN (Zt (Z2 (ZN (Zt ?_))))))))
 exact ZK .ret (.inl rfl) [_] t1 ⟨Zk (Zdb hy (by simp [ZcK,g2])).symm,rfl,rfl⟩
 try simp only [sQ,ne_eq] at g2
 refine Zg (Zf (Za (xW Zcj (h:=x1 Zgs 0 (h:=xV Tryz.underlying43 (h:=xM (h:=Zm (ZO (α:=Nat) [0,4,11,12,13,14,21,23,24] (fun j=>[(25,.int .i64 j)]) [] (fun j=>[]) (fun j Bx=>Bx=B1∧j≤y.left.length∧∀z,z∈y.left.take j→(Zao x.users z).2=true) (fun j=>y.left.length - j) 0 t1 rfl (⟨rfl,Nat.zero_le _,by simp⟩) (fun j B7 hle7 hI=>?_)))))))))
 obtain ⟨rfl,hj,hb⟩:=hI
 refine ZR [(0,_),(4,_),(11,_),(12,_),(13,_),(14,_),(21,_),(23,_),(24,_),(25,_)] [_] t10 rfl (Za (ZM (h:=Zh (Ze rfl (fun g3=>?_) (fun g3=>?_)))))
 try simp only [sQ,ne_eq] at g3
 refine Zg (Zf (Zh (Zm (Za ?_))))
 obtain ⟨z,hz⟩:=Zae (xs:=y.left) (i:=j) om
 obtain ⟨bb9,oo9,rfl⟩:=hi4.base hz
 obtain ⟨_,⟨rfl,hb10⟩,hc10⟩:=hi4.elem hz
 refine xIx Tryz.underlying43 sz9 (h:=y1 lk9 hc10 0 (h:=xA (h:=Za (xM (h:=xM (h:=xR ZtJ rfl (Zgu _ _ _ _ _ _ _ _ x z om2 _ hh hu) (h:=?_)))))))
 refine xN (h:=Ze rfl (fun g4=>?_) (fun g4=>?_))
 try simp only [sQ,ne_eq] at g4
 refine Za (xA (h:=Zj (ZN (Zt (Z2 (ZN (ZN (Zt (Z2 (ZN (Zt ?_)))))))))))
 exact ZK .ret (.inl rfl) [_] t1 ⟨Zk (Zdb hy (by rw [ZcK,Zdb hz g4,Bool.and_false])).symm,rfl,rfl⟩
 try simp only [sQ,ne_eq] at g4
 refine Zg (Z7 (Zf (Zn (xD (h:=xM (h:=?_))))))
 exact ZU (j+1) [0] so2 ⟨rfl,oz,Zbf hz hb g4⟩ t10 rfl
 try simp only [sQ,ne_eq] at g3
 refine ZS (Zaf (ZW (ZG (Z7 (Zf (Zn (xD (h:=xM (h:=?_)))))))))
 exact ZU (k+1) [] so2 ⟨rfl,oz,Zbf hy ha (by rw [ZcK,g2,ZeH (Zbp oz hb)];rfl)⟩ t4 rfl
 try simp only [sQ,ne_eq] at g1
 refine ZS (Zaf (ZW (ZG (Zf (Za (xA (h:=Zj ?_)))))))
 exact ZK .ret (.inl rfl) [_] t1 ⟨Zk (ZeH (Zbp oz ha)).symm,rfl,rfl⟩

set_option maxHeartbeats 400000 in
theorem ZnH (f g:DFolder) (qa qb qc qd:Option Addr) (ca cb cc cd:Nat) (B:Kn):Z8 (pj J) 71 [.agg #[str f.owner,str f.name,.slice qa f.grants.length ca,.int .i64 f.next,.slice qb f.mail.length cb],.agg #[str g.owner,str g.name,.slice qc g.grants.length cc,.int .i64 g.next,.slice qd g.mail.length cd]] B (.bool (Zfs f g)):=by
 refine Zd 24 Tryz.func71 rfl rfl rfl (Nat.le_of_ble_eq_true rfl) ?_
 refine Za (xBx [_,_,_,_,_] (h:=fun b1=>xBx [_,_,_,_,_] (h:=fun b2=>xA (h:=ZI [_,_] rfl (Za (xW Zcv (h:=x1 lk9 0 (h:=xW Zcv (h:=x1 lk9 1 (h:=Zqa (h:=xM (h:=ZC (d:=10) rfl (fun g1=>?_) (fun g1=>?_)))))))))))))
 try simp only [sQ,ne_eq] at g1
 refine xP (h:=xP (h:=xP (h:=xP (h:=xP (h:=xP (h:=xP (h:=xP (h:=xP (h:=xP (h:=xP (h:=xP (h:=xT (h:=?_)))))))))))))
 refine xA (h:=Zj ?_)
 exact ZK .ret (.inl rfl) [_] t1 ⟨Zk (by rw [Bool.eq_iff_iff];simp [Zfs,ZdR,g1]),rfl,rfl⟩
 try simp only [sQ,ne_eq] at g1
 refine xW Zcv (h:=x1 lk9 0 (h:=xW Zcv (h:=x1 lk9 1 (h:=Zea (h:=xM (h:=ZC (d:=16) rfl (fun g2=>?_) (fun g2=>?_)))))))
 try simp only [sQ,ne_eq] at g2
 refine xW Zdy (h:=x1 lk9 0 (h:=xW Zdy (h:=x1 lk9 1 (h:=Zqa (h:=xT (h:=xF (h:=xA (h:=Zj ?_))))))))
 exact ZK .ret (.inl rfl) [_] t1 ⟨Zk (by rw [Bool.eq_iff_iff];simp [Zfs,ZdR,g1,g2]),rfl,rfl⟩
 try simp only [sQ,ne_eq] at g2
 refine xP (h:=xP (h:=xP (h:=xP (h:=xP (h:=xF (h:=xF (h:=xA (h:=Zj ?_))))))))
 exact ZK .ret (.inl rfl) [_] t1 ⟨Zk (by rw [Bool.eq_iff_iff];simp [Zfs,ZdR,g1,g2]),rfl,rfl⟩

end Go.Proofs.YthgggppcgbglkaaGreatDoor
