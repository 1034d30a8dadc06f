/-
  WHAT THE FUNCTIONS THAT THE LAWS REACH COMPUTE: each function's contract, proved off its printed body (the text is written by program). No condition beyond those that each theorem states.
-/
import Derived.Test.YthgggppcgbglkaaGreatDoorRows
import Derived.Test.YthgggppcgbglkaaGreatDoorL0
import Derived.KernelRfl
namespace Go.Proofs.YthgggppcgbglkaaGreatDoor
open Go Go.BL
set_option linter.unusedVariables false
set_option linter.unusedSimpArgs false
noncomputable abbrev pj (J : JoinT) : PJ := ⟨Tryz.prog, J⟩
noncomputable abbrev wgL : Go.Conc.Lib.WgLink := { add := 184, done := 186, wait := 188, relMerge := 206, disable := 207, enable := 208, inBubble := 209, associate := 210, fatal := 211, uOr := 212, uAdd := 213, raceRead := 214, uLoad := 215, uStore := 216, disassociate := 217, semrelease := 218, acquire := 219, isAssociated := 220, uCas := 221, raceWrite := 222, semacquire := 223, orU64 := 231, addU64 := 232, loadU64 := 233, storeU64 := 234, casU64 := 235, tWg := 245, tUP := 268, tAssoc := 269, tAU := 242, tU64 := 240, tUint := 273, tU32 := 243, tNoCopy := 237, tANoCopy := 238, tAlign64 := 239, tWgP := 266, tPU32 := 274, tPAU := 295, tPU64 := 297 }
theorem Zkf : Go.Conc.Lib.WgLib Tryz.prog wgL :=
  ⟨Tryz.func184, Tryz.func186, Tryz.func188, Tryz.func206, Tryz.func207, Tryz.func208, Tryz.func209, Tryz.func210, Tryz.func211, Tryz.func212, Tryz.func213, Tryz.func214, Tryz.func215, Tryz.func216, Tryz.func217, Tryz.func218, Tryz.func219, Tryz.func220, Tryz.func221, Tryz.func222, Tryz.func223, Tryz.func231, Tryz.func232, Tryz.func233, Tryz.func234, Tryz.func235, Tryz.underlying266, Tryz.runUnderlying266, Tryz.sizeOf266, Tryz.isAgg266, Tryz.zeroValue266, Tryz.underlying268, Tryz.runUnderlying268, Tryz.sizeOf268, Tryz.isAgg268, Tryz.zeroValue268, Tryz.underlying269, Tryz.runUnderlying269, Tryz.sizeOf269, Tryz.isAgg269, Tryz.zeroValue269, Tryz.underlying245, Tryz.runUnderlying245, Tryz.sizeOf245, Tryz.isAgg245, Tryz.zeroValue245, Tryz.underlying242, Tryz.runUnderlying242, Tryz.sizeOf242, Tryz.isAgg242, Tryz.zeroValue242, Tryz.underlying240, Tryz.runUnderlying240, Tryz.sizeOf240, Tryz.isAgg240, Tryz.zeroValue240, Tryz.underlying273, Tryz.runUnderlying273, Tryz.sizeOf273, Tryz.isAgg273, Tryz.zeroValue273, Tryz.underlying243, Tryz.runUnderlying243, Tryz.sizeOf243, Tryz.isAgg243, Tryz.zeroValue243, Tryz.underlying274, Tryz.runUnderlying274, Tryz.sizeOf274, Tryz.isAgg274, Tryz.zeroValue274, Tryz.underlying295, Tryz.runUnderlying295, Tryz.sizeOf295, Tryz.isAgg295, Tryz.zeroValue295, Tryz.underlying297, Tryz.runUnderlying297, Tryz.sizeOf297, Tryz.isAgg297, Tryz.zeroValue297, Tryz.underlying0, Tryz.runUnderlying0, Tryz.sizeOf0, Tryz.isAgg0, Tryz.zeroValue0, Tryz.underlying3, Tryz.runUnderlying3, Tryz.sizeOf3, Tryz.isAgg3, Tryz.zeroValue3, Tryz.underlying4, Tryz.runUnderlying4, Tryz.sizeOf4, Tryz.isAgg4, Tryz.zeroValue4, Tryz.underlying9, Tryz.runUnderlying9, Tryz.sizeOf9, Tryz.isAgg9, Tryz.zeroValue9, Tryz.underlying20, Tryz.runUnderlying20, Tryz.sizeOf20, Tryz.isAgg20, Tryz.zeroValue20, Tryz.underlying21, Tryz.runUnderlying21, Tryz.sizeOf21, Tryz.isAgg21, Tryz.zeroValue21, (by kernel_rfl), (by kernel_rfl)⟩
theorem ZqY : enters Tryz.prog 90 = true := by kernel_rfl
theorem mo : Tryz.prog.follows .mixedOrders = true := by kernel_rfl
theorem ZbI : Zy Tryz.prog 158 1 = some 1 := by kernel_rfl
theorem lk3 : lk Tryz.prog 3 = some none := by kernel_rfl
theorem Zf9 : Zy Tryz.prog 158 0 = some 0 := by kernel_rfl
theorem lk9 : lk Tryz.prog 9 = some none := by kernel_rfl
theorem ZqZ : enters Tryz.prog 124 = true := by kernel_rfl
theorem sz3 : ZR Tryz.prog 3 = some 1 := by kernel_rfl
theorem Zwe : enters Tryz.prog 172 = true := by kernel_rfl
theorem Zs5 : enters Tryz.prog 123 = true := by kernel_rfl
theorem ZvQ : enters Tryz.prog 205 = true := by kernel_rfl
theorem ZtW : Zbh Tryz.prog 158 = some [(0, 1), (1, 1)] := by kernel_rfl
theorem ZpK : Zak Tryz.prog 158 = some (.agg #[.string ⟨#[]⟩, .int .i64 0]) := by kernel_rfl
theorem ZtP : ZR Tryz.prog 158 = some 2 := by kernel_rfl
theorem sz9 : ZR Tryz.prog 9 = some 1 := by kernel_rfl
theorem zo9 : Zak Tryz.prog 9 = some (.string ⟨#[]⟩) := by kernel_rfl
theorem Zur : Zcz Tryz.prog 43 9 1 16 = true := by kernel_rfl
theorem ZuS : (match Program.underlying Tryz.prog 43 with | some (.slice _) => true | _ => false) = true := by kernel_rfl
theorem ZwC : enters Tryz.prog 141 = true := by kernel_rfl
theorem Zs1 : enters Tryz.prog 70 = true := by kernel_rfl
theorem Za3 : ZR Tryz.prog 123 = some 3 := by kernel_rfl
theorem ZaV : Zy Tryz.prog 123 0 = some 0 := by kernel_rfl
theorem ZwK : enters Tryz.prog 130 = true := by kernel_rfl
theorem ZrD : Zy Tryz.prog 48 0 = some 0 := by kernel_rfl
theorem ZoM : Zy Tryz.prog 48 1 = some 1 := by kernel_rfl
theorem ZkP : lk Tryz.prog 43 = some none := by kernel_rfl
theorem ZwT : enters Tryz.prog 115 = true := by kernel_rfl
theorem ZrC : Zy Tryz.prog 48 2 = some 2 := by kernel_rfl
theorem ZwI : enters Tryz.prog 133 = true := by kernel_rfl
theorem ZrK : enters Tryz.prog 72 = true := by kernel_rfl
theorem Zwj : enters Tryz.prog 164 = true := by kernel_rfl
theorem ZwS : enters Tryz.prog 116 = true := by kernel_rfl
theorem Zbx : Zy Tryz.prog 34 1 = some 1 := by kernel_rfl
theorem ZhY : lk Tryz.prog 32 = some none := by kernel_rfl
theorem Zbg : ZR Tryz.prog 126 = some 4 := by kernel_rfl
theorem Zef : lk Tryz.prog 126 = some (some 4) := by kernel_rfl
theorem ZeH : Zak Tryz.prog 126 = some (.agg #[.int .i64 0, .string ⟨#[]⟩, .string ⟨#[]⟩, .slice none 0 0]) := by kernel_rfl
theorem Zd0 : Zy Tryz.prog 126 0 = some 0 := by kernel_rfl
theorem ZdZ : Zy Tryz.prog 126 1 = some 1 := by kernel_rfl
theorem Zcc : Zy Tryz.prog 126 3 = some 3 := by kernel_rfl
theorem Zff : Zy Tryz.prog 126 2 = some 2 := by kernel_rfl
theorem Zxe : Zbh Tryz.prog 48 = some [(0, 1), (1, 1), (2, 1)] := by kernel_rfl
theorem Zw7 : Zak Tryz.prog 48 = some (.agg #[.string ⟨#[]⟩, .slice none 0 0, .string ⟨#[]⟩]) := by kernel_rfl
theorem Zx6 : enters Tryz.prog 56 = true := by kernel_rfl
theorem ZfI : Zy Tryz.prog 34 0 = some 0 := by kernel_rfl
theorem ZpJ : Zak Tryz.prog 34 = some (.agg #[.int .i64 0, .slice none 0 0]) := by kernel_rfl
theorem Zxf : Zbh Tryz.prog 34 = some [(0, 1), (1, 1)] := by kernel_rfl
theorem Zr7 : ZR Tryz.prog 34 = some 2 := by kernel_rfl
theorem Zvp : ZR Tryz.prog 43 = some 1 := by kernel_rfl
theorem ZvG : Zcz Tryz.prog 32 126 4 64 = true := by kernel_rfl
theorem Zxb : (match Program.underlying Tryz.prog 32 with | some (.slice _) => true | _ => false) = true := by kernel_rfl
theorem Zvq : ZR Tryz.prog 32 = some 1 := by kernel_rfl
theorem Zke : lk Tryz.prog 34 = some (some 2) := by kernel_rfl
theorem ZxR : enters Tryz.prog 87 = true := by kernel_rfl
theorem ZiP : enters Tryz.prog 91 = true := by kernel_rfl
theorem Zu8 : Zak Tryz.prog 167 = some (.pointer none) := by kernel_rfl
theorem Zwc : enters Tryz.prog 175 = true := by kernel_rfl
theorem ZvT : enters Tryz.prog 202 = true := by kernel_rfl
theorem Zss : lk Tryz.prog 167 = some none := by kernel_rfl
theorem ZwP : enters Tryz.prog 119 = true := by kernel_rfl
theorem Zvv : Zbh Tryz.prog 171 = some [(0, 4), (4, 1)] := by kernel_rfl
theorem Zu7 : Zak Tryz.prog 171 = some (.agg #[.int .i64 0, .string ⟨#[]⟩, .string ⟨#[]⟩, .slice none 0 0, .pointer none]) := by kernel_rfl
theorem Zvs : ZR Tryz.prog 167 = some 1 := by kernel_rfl
theorem ZsO : Zy Tryz.prog 171 0 = some 0 := by kernel_rfl
theorem ZsN : Zy Tryz.prog 171 1 = some 4 := by kernel_rfl
theorem ZwJ : enters Tryz.prog 132 = true := by kernel_rfl
theorem ZwH : enters Tryz.prog 135 = true := by kernel_rfl
theorem ZeJ : lk Tryz.prog 253 = some none := by kernel_rfl
theorem zo3 : Zak Tryz.prog 3 = some (.int .i64 0) := by kernel_rfl
theorem ZvH : Zcz Tryz.prog 253 3 1 8 = true := by kernel_rfl
theorem Zvt : (match Program.underlying Tryz.prog 253 with | some (.slice _) => true | _ => false) = true := by kernel_rfl
theorem ZtM : ZR Tryz.prog 253 = some 1 := by kernel_rfl
theorem Zdv : Zit Tryz.prog 251 "Less" 284 false = true := by kernel_rfl
theorem Zpd : enters Tryz.prog 284 = true := by kernel_rfl
theorem Zdu : Zit Tryz.prog 251 "Swap" 287 false = true := by kernel_rfl
theorem Zpc : enters Tryz.prog 287 = true := by kernel_rfl
theorem ZmF : Zit Tryz.prog 251 "Push" 286 true = true := by kernel_rfl
theorem ZvK : enters Tryz.prog 286 = true := by kernel_rfl
theorem Zjv : Zit Tryz.prog 251 "Len" 283 false = true := by kernel_rfl
theorem Zut : enters Tryz.prog 283 = true := by kernel_rfl
theorem ZvN : enters Tryz.prog 229 = true := by kernel_rfl
theorem ZvM : enters Tryz.prog 230 = true := by kernel_rfl
theorem Zol : Zit Tryz.prog 251 "Pop" 285 true = true := by kernel_rfl
theorem ZvL : enters Tryz.prog 285 = true := by kernel_rfl
theorem ZvX : enters Tryz.prog 196 = true := by kernel_rfl
theorem ZvW : enters Tryz.prog 197 = true := by kernel_rfl
theorem Zx3 : enters Tryz.prog 60 = true := by kernel_rfl
theorem Zwi : enters Tryz.prog 165 = true := by kernel_rfl
theorem ZwR : enters Tryz.prog 117 = true := by kernel_rfl
theorem ZwQ : enters Tryz.prog 118 = true := by kernel_rfl
theorem Zcu : Zy Tryz.prog 205 0 = some 0 := by kernel_rfl
theorem Zfe : Zy Tryz.prog 205 1 = some 1 := by kernel_rfl
theorem Zxq : enters Tryz.prog 65 = true := by kernel_rfl
theorem ZdY : Zy Tryz.prog 205 2 = some 2 := by kernel_rfl
theorem ZvJ : enters Tryz.prog 67 = true := by kernel_rfl
theorem Zbd : Zy Tryz.prog 73 1 = some 1 := by kernel_rfl
theorem ZhX : lk Tryz.prog 71 = some none := by kernel_rfl
theorem Zcs : ZR Tryz.prog 205 = some 3 := by kernel_rfl
theorem Zf5 : lk Tryz.prog 205 = some (some 3) := by kernel_rfl
theorem Zv9 : enters Tryz.prog 178 = true := by kernel_rfl
theorem Zcy : Zy Tryz.prog 73 0 = some 0 := by kernel_rfl
theorem ZfT : Zak Tryz.prog 205 = some (.agg #[.int .i64 0, .int .i64 0, .string ⟨#[]⟩]) := by kernel_rfl
theorem ZvU : enters Tryz.prog 199 = true := by kernel_rfl
theorem Zfa : lk Tryz.prog 73 = some (some 2) := by kernel_rfl
theorem Zs4 : enters Tryz.prog 167 = true := by kernel_rfl
theorem Zfg : Zy Tryz.prog 123 1 = some 1 := by kernel_rfl
theorem Zc1 : Zy Tryz.prog 123 2 = some 2 := by kernel_rfl
theorem ZeK : lk Tryz.prog 123 = some (some 3) := by kernel_rfl
theorem ZdK : Zak Tryz.prog 123 = some (.agg #[.string ⟨#[]⟩, .string ⟨#[]⟩, .int .i64 0]) := by kernel_rfl
theorem Zv5 : enters Tryz.prog 183 = true := by kernel_rfl
theorem Zuv : enters Tryz.prog 150 = true := by kernel_rfl
theorem Zvw : Zbh Tryz.prog 123 = some [(0, 1), (1, 1), (2, 1)] := by kernel_rfl
theorem Zwp : enters Tryz.prog 156 = true := by kernel_rfl
theorem Zwo : enters Tryz.prog 157 = true := by kernel_rfl
theorem Zbn : Zy Tryz.prog 36 1 = some 1 := by kernel_rfl
theorem ZhA : lk Tryz.prog 30 = some none := by kernel_rfl
theorem ZuA : enters Tryz.prog 102 = true := by kernel_rfl
theorem Zar : Zy Tryz.prog 36 2 = some 2 := by kernel_rfl
theorem Zew : lk Tryz.prog 31 = some none := by kernel_rfl
theorem ZbO : ZR Tryz.prog 75 = some 5 := by kernel_rfl
theorem Zbw : Zy Tryz.prog 75 0 = some 0 := by kernel_rfl
theorem Zdz : Zy Tryz.prog 75 1 = some 1 := by kernel_rfl
theorem Zhx : lk Tryz.prog 75 = some (some 5) := by kernel_rfl
theorem ZwM : enters Tryz.prog 125 = true := by kernel_rfl
theorem ZwL : enters Tryz.prog 126 = true := by kernel_rfl
theorem Zd5 : Zy Tryz.prog 36 3 = some 3 := by kernel_rfl
theorem ZuX : enters Tryz.prog 44 = true := by kernel_rfl
theorem Zdh : ZR Tryz.prog 133 = some 2 := by kernel_rfl
theorem ZbZ : Zy Tryz.prog 133 0 = some 0 := by kernel_rfl
theorem Zc0 : Zy Tryz.prog 133 1 = some 1 := by kernel_rfl
theorem Zus : enters Tryz.prog 35 = true := by kernel_rfl
theorem ZbY : Zy Tryz.prog 75 3 = some 3 := by kernel_rfl
theorem ZwA : enters Tryz.prog 143 = true := by kernel_rfl
theorem ZfR : Zak Tryz.prog 75 = some (.agg #[.string ⟨#[]⟩, .string ⟨#[]⟩, .slice none 0 0, .int .i64 0, .slice none 0 0]) := by kernel_rfl
theorem Zdy : Zy Tryz.prog 75 2 = some 2 := by kernel_rfl
theorem ZpI : lk Tryz.prog 68 = some none := by kernel_rfl
theorem ZxO : enters Tryz.prog 94 = true := by kernel_rfl
theorem ZwB : enters Tryz.prog 142 = true := by kernel_rfl
theorem ZxY : enters Tryz.prog 71 = true := by kernel_rfl
theorem Zhd : Zy Tryz.prog 36 0 = some 0 := by kernel_rfl
theorem ZxT : enters Tryz.prog 85 = true := by kernel_rfl
theorem ZxS : enters Tryz.prog 86 = true := by kernel_rfl
theorem Zcx : lk Tryz.prog 36 = some (some 5) := by kernel_rfl
theorem ZxQ : enters Tryz.prog 88 = true := by kernel_rfl
theorem Zxs : enters Tryz.prog 33 = true := by kernel_rfl
theorem Zxn : enters Tryz.prog 89 = true := by kernel_rfl
theorem Zx5 : enters Tryz.prog 57 = true := by kernel_rfl
theorem Zot : lk Tryz.prog 133 = some (some 2) := by kernel_rfl
theorem Zme : Zak Tryz.prog 133 = some (.agg #[.string ⟨#[]⟩, .int .i64 0]) := by kernel_rfl
theorem Zyi : enters Tryz.prog 41 = true := by kernel_rfl
theorem Zuz : enters Tryz.prog 103 = true := by kernel_rfl
theorem Zuk : Extern.findNext Tryz.f200 = none := by kernel_rfl
theorem Zul : Extern.find Tryz.f200 = some Extern.BytealgCompare.compare := by kernel_rfl
theorem Zwd : enters Tryz.prog 173 = true := by kernel_rfl
theorem Zux : enters Tryz.prog 127 = true := by kernel_rfl
theorem ZvV : enters Tryz.prog 198 = true := by kernel_rfl
theorem Zwh : enters Tryz.prog 166 = true := by kernel_rfl
theorem Zxo : enters Tryz.prog 74 = true := by kernel_rfl
theorem Zuy : enters Tryz.prog 121 = true := by kernel_rfl
theorem sz4 : ZR Tryz.prog 4 = some 1 := by kernel_rfl
theorem lk4 : lk Tryz.prog 4 = some none := by kernel_rfl
theorem ZvP : enters Tryz.prog 224 = true := by kernel_rfl
theorem Zv6 : enters Tryz.prog 182 = true := by kernel_rfl
theorem Zt5 : lk Tryz.prog 235 = some none := by kernel_rfl
theorem Zvz : lk Tryz.prog 80 = some none := by kernel_rfl
theorem Zv3 : enters Tryz.prog 187 = true := by kernel_rfl
theorem Zu2 : Zak Tryz.prog 245 = some (.agg #[.int .u64 0, .int .u32 0]) := by kernel_rfl
theorem ZvI : Zcz Tryz.prog 235 4 1 1 = true := by kernel_rfl
theorem zo4 : Zak Tryz.prog 4 = some (.bool false) := by kernel_rfl
theorem Zu3 : Zak Tryz.prog 235 = some (.slice none 0 0) := by kernel_rfl
theorem Zvr : ZR Tryz.prog 235 = some 1 := by kernel_rfl
theorem Zv4 : enters Tryz.prog 184 = true := by kernel_rfl
theorem Zv2 : enters Tryz.prog 188 = true := by kernel_rfl
theorem Zv1 : enters Tryz.prog 189 = true := by kernel_rfl
theorem Zwv : enters Tryz.prog 149 = true := by kernel_rfl
theorem ZxX : enters Tryz.prog 75 = true := by kernel_rfl
theorem Zwu : enters Tryz.prog 151 = true := by kernel_rfl
theorem Zwt : enters Tryz.prog 152 = true := by kernel_rfl
theorem Zws : enters Tryz.prog 153 = true := by kernel_rfl
theorem Zo0 : Zy Tryz.prog 112 0 = some 0 := by kernel_rfl
theorem ZoZ : Zy Tryz.prog 112 1 = some 1 := by kernel_rfl
theorem ZoQ : Zy Tryz.prog 229 0 = some 0 := by kernel_rfl
theorem ZoN : Zy Tryz.prog 264 2 = some 2 := by kernel_rfl
theorem ZtR : ZR Tryz.prog 112 = some 3 := by kernel_rfl
theorem Zuc : lk Tryz.prog 112 = some (some 3) := by kernel_rfl
theorem ZxW : enters Tryz.prog 82 = true := by kernel_rfl
theorem ZtN : ZR Tryz.prog 229 = some 2 := by kernel_rfl
theorem Zt6 : lk Tryz.prog 229 = some (some 2) := by kernel_rfl
theorem Zwb : enters Tryz.prog 176 = true := by kernel_rfl
theorem ZtL : ZR Tryz.prog 264 = some 3 := by kernel_rfl
theorem Zt4 : lk Tryz.prog 264 = some (some 3) := by kernel_rfl
theorem ZvS : enters Tryz.prog 203 = true := by kernel_rfl
theorem ZoT : Zy Tryz.prog 183 1 = some 1 := by kernel_rfl
theorem ZoS : Zy Tryz.prog 183 2 = some 2 := by kernel_rfl
theorem ZoR : Zy Tryz.prog 183 3 = some 3 := by kernel_rfl
theorem Zx7 : enters Tryz.prog 55 = true := by kernel_rfl
theorem ZtO : ZR Tryz.prog 183 = some 4 := by kernel_rfl
theorem Zt7 : lk Tryz.prog 183 = some (some 4) := by kernel_rfl
theorem ZwD : enters Tryz.prog 140 = true := by kernel_rfl
theorem ZoY : Zy Tryz.prog 117 1 = some 1 := by kernel_rfl
theorem Zua : lk Tryz.prog 115 = some none := by kernel_rfl
theorem Zwa : enters Tryz.prog 177 = true := by kernel_rfl
theorem ZrI : Zy Tryz.prog 26 1 = some 1 := by kernel_rfl
theorem Zxi : lk Tryz.prog 24 = some none := by kernel_rfl
theorem ZxU : enters Tryz.prog 84 = true := by kernel_rfl
theorem ZoX : Zy Tryz.prog 119 0 = some 0 := by kernel_rfl
theorem ZoW : Zy Tryz.prog 119 1 = some 1 := by kernel_rfl
theorem ZoV : Zy Tryz.prog 119 2 = some 2 := by kernel_rfl
theorem Zub : lk Tryz.prog 114 = some none := by kernel_rfl
theorem ZwF : enters Tryz.prog 138 = true := by kernel_rfl
theorem ZoU : Zy Tryz.prog 119 3 = some 3 := by kernel_rfl
theorem Zt9 : lk Tryz.prog 117 = some (some 2) := by kernel_rfl
theorem ZwE : enters Tryz.prog 139 = true := by kernel_rfl
theorem ZtQ : ZR Tryz.prog 119 = some 5 := by kernel_rfl
theorem Zt8 : lk Tryz.prog 119 = some (some 5) := by kernel_rfl
theorem ZxV : enters Tryz.prog 83 = true := by kernel_rfl
theorem ZrH : Zy Tryz.prog 28 0 = some 0 := by kernel_rfl
theorem ZrG : Zy Tryz.prog 28 1 = some 1 := by kernel_rfl
theorem Zxk : lk Tryz.prog 22 = some none := by kernel_rfl
theorem Zyq : enters Tryz.prog 27 = true := by kernel_rfl
theorem ZrF : Zy Tryz.prog 28 2 = some 2 := by kernel_rfl
theorem Zxj : lk Tryz.prog 23 = some none := by kernel_rfl
theorem Zyp : enters Tryz.prog 28 = true := by kernel_rfl
theorem ZrE : Zy Tryz.prog 28 3 = some 3 := by kernel_rfl
theorem Zxh : lk Tryz.prog 26 = some (some 2) := by kernel_rfl
theorem Zyo : enters Tryz.prog 29 = true := by kernel_rfl
theorem ZsQ : Zy Tryz.prog 112 2 = some 2 := by kernel_rfl
theorem ZsL : Zy Tryz.prog 229 1 = some 1 := by kernel_rfl
theorem ZsJ : Zy Tryz.prog 264 0 = some 0 := by kernel_rfl
theorem ZsI : Zy Tryz.prog 264 1 = some 1 := by kernel_rfl
theorem Zm4 : Zcz Tryz.prog 30 123 3 40 = true := by kernel_rfl
theorem ZxN : enters Tryz.prog 95 = true := by kernel_rfl
theorem ZvF : Zcz Tryz.prog 68 133 2 24 = true := by kernel_rfl
theorem Zv8 : enters Tryz.prog 180 = true := by kernel_rfl
theorem Zth : Zcz Tryz.prog 71 205 3 32 = true := by kernel_rfl
theorem ZvR : enters Tryz.prog 204 = true := by kernel_rfl
theorem ZsM : Zy Tryz.prog 183 0 = some 0 := by kernel_rfl
theorem Zx4 : enters Tryz.prog 59 = true := by kernel_rfl
theorem Zww : enters Tryz.prog 148 = true := by kernel_rfl
theorem Zuj : Zy Tryz.prog 26 0 = some 0 := by kernel_rfl
theorem ZxL : enters Tryz.prog 97 = true := by kernel_rfl
theorem Znl : Zak Tryz.prog 73 = some (.agg #[.int .i64 0, .slice none 0 0]) := by kernel_rfl
theorem ZsP : Zy Tryz.prog 117 0 = some 0 := by kernel_rfl
theorem Zv7 : enters Tryz.prog 181 = true := by kernel_rfl
theorem Zvn : ZR Tryz.prog 71 = some 1 := by kernel_rfl
theorem Zjg : ZR Tryz.prog 73 = some 2 := by kernel_rfl
theorem Zwy : enters Tryz.prog 146 = true := by kernel_rfl
theorem Zvo : ZR Tryz.prog 68 = some 1 := by kernel_rfl
theorem Zwx : enters Tryz.prog 147 = true := by kernel_rfl
theorem ZuV : Zcz Tryz.prog 31 75 5 88 = true := by kernel_rfl
theorem ZxM : enters Tryz.prog 96 = true := by kernel_rfl
theorem Zch : Zak Tryz.prog 36 = some (.agg #[.string ⟨#[]⟩, .slice none 0 0, .slice none 0 0, .int .i64 0, .slice none 0 0]) := by kernel_rfl
theorem Zyl : enters Tryz.prog 37 = true := by kernel_rfl
theorem ZxB : ZR Tryz.prog 30 = some 1 := by kernel_rfl
theorem Zyk : enters Tryz.prog 38 = true := by kernel_rfl
theorem Zw9 : ZR Tryz.prog 31 = some 1 := by kernel_rfl
theorem Zyj : enters Tryz.prog 39 = true := by kernel_rfl
theorem Zdn : ZR Tryz.prog 36 = some 5 := by kernel_rfl
theorem Zw2 : enters Tryz.prog 105 = true := by kernel_rfl
theorem ZvZ : enters Tryz.prog 194 = true := by kernel_rfl
theorem ZvO : enters Tryz.prog 228 = true := by kernel_rfl
theorem Zx2 : enters Tryz.prog 63 = true := by kernel_rfl
theorem Zwl : enters Tryz.prog 162 = true := by kernel_rfl
theorem Zw0 : enters Tryz.prog 107 = true := by kernel_rfl
theorem ZvY : enters Tryz.prog 195 = true := by kernel_rfl
theorem Zwn : enters Tryz.prog 160 = true := by kernel_rfl
theorem Zwm : enters Tryz.prog 161 = true := by kernel_rfl
theorem Zw1 : enters Tryz.prog 106 = true := by kernel_rfl
theorem Zyg : enters Tryz.prog 46 = true := by kernel_rfl
theorem Zyf : enters Tryz.prog 47 = true := by kernel_rfl
theorem Zye : enters Tryz.prog 48 = true := by kernel_rfl
theorem ZuR : (match Program.underlying Tryz.prog 71 with | some (.slice _) => true | _ => false) = true := by kernel_rfl
theorem Zxd : Zbh Tryz.prog 73 = some [(0, 1), (1, 1)] := by kernel_rfl
theorem Zxa : (match Program.underlying Tryz.prog 68 with | some (.slice _) => true | _ => false) = true := by kernel_rfl
theorem Zs3 : enters Tryz.prog 168 = true := by kernel_rfl
theorem sz5 : ZR Tryz.prog 5 = some 1 := by kernel_rfl
theorem zo5 : Zak Tryz.prog 5 = some (.int .u8 0) := by kernel_rfl
theorem Zd9 : enters Tryz.prog 108 = true := by kernel_rfl
theorem Zs2 : enters Tryz.prog 179 = true := by kernel_rfl
theorem Zwz : enters Tryz.prog 145 = true := by kernel_rfl
theorem Zxm : enters Tryz.prog 93 = true := by kernel_rfl
theorem Zuw : enters Tryz.prog 144 = true := by kernel_rfl
theorem Znj : (match Program.underlying Tryz.prog 30 with | some (.slice _) => true | _ => false) = true := by kernel_rfl
theorem Zgl : Zbh Tryz.prog 36 = some [(0, 1), (1, 1), (2, 1), (3, 2)] := by kernel_rfl
theorem ZxP : enters Tryz.prog 92 = true := by kernel_rfl
theorem Zxc : (match Program.underlying Tryz.prog 31 with | some (.slice _) => true | _ => false) = true := by kernel_rfl
theorem ZtV : Zbh Tryz.prog 205 = some [(0, 1), (1, 1), (2, 1)] := by kernel_rfl
theorem Zxt : enters Tryz.prog 32 = true := by kernel_rfl
theorem ZwO : enters Tryz.prog 120 = true := by kernel_rfl
theorem Zyn : enters Tryz.prog 30 = true := by kernel_rfl
theorem Zym : enters Tryz.prog 34 = true := by kernel_rfl
theorem Zx0 : enters Tryz.prog 66 = true := by kernel_rfl
theorem Zwq : enters Tryz.prog 155 = true := by kernel_rfl
theorem Zx1 : enters Tryz.prog 64 = true := by kernel_rfl
theorem ZwZ : enters Tryz.prog 109 = true := by kernel_rfl
theorem ZwY : enters Tryz.prog 110 = true := by kernel_rfl
theorem ZwX : enters Tryz.prog 111 = true := by kernel_rfl
theorem Zyd : enters Tryz.prog 49 = true := by kernel_rfl
theorem Zyc : enters Tryz.prog 50 = true := by kernel_rfl
theorem Zyb : enters Tryz.prog 51 = true := by kernel_rfl
theorem ZwW : enters Tryz.prog 112 = true := by kernel_rfl
theorem ZwV : enters Tryz.prog 113 = true := by kernel_rfl
theorem Zwk : enters Tryz.prog 163 = true := by kernel_rfl
theorem ZwU : enters Tryz.prog 114 = true := by kernel_rfl
theorem Zya : enters Tryz.prog 52 = true := by kernel_rfl
theorem Zx9 : enters Tryz.prog 53 = true := by kernel_rfl
theorem Zx8 : enters Tryz.prog 54 = true := by kernel_rfl
theorem Zxx : (Tryz.prog.info? 321).map (·.comparable) = some true := by kernel_rfl
theorem ZtK : ZR Tryz.prog 345 = some 1 := by kernel_rfl
theorem Zu6 : Zak Tryz.prog 220 = some (.nilIface) := by kernel_rfl
theorem Zu5 : Zak Tryz.prog 223 = some (.nilIface) := by kernel_rfl
theorem Zu4 : Zak Tryz.prog 225 = some (.nilIface) := by kernel_rfl
theorem ZwG : enters Tryz.prog 137 = true := by kernel_rfl
theorem Zqv : lk Tryz.prog 82 = some none := by kernel_rfl
theorem ZuW : enters Tryz.prog 81 = true := by kernel_rfl
theorem ZuB : enters Tryz.prog 101 = true := by kernel_rfl
theorem Zv0 : enters Tryz.prog 190 = true := by kernel_rfl
theorem Zwr : enters Tryz.prog 154 = true := by kernel_rfl
theorem ZxK : enters Tryz.prog 98 = true := by kernel_rfl
theorem ZxJ : enters Tryz.prog 99 = true := by kernel_rfl
theorem Zw3 : enters Tryz.prog 100 = true := by kernel_rfl
theorem Zxr : enters Tryz.prog 40 = true := by kernel_rfl
theorem Zt3 : lk Tryz.prog 28 = some (some 5) := by kernel_rfl
theorem en8 : enters Tryz.prog 8 = true := by kernel_rfl
theorem ZuZ : enters Tryz.prog 10 = true := by kernel_rfl
theorem ZuY : enters Tryz.prog 12 = true := by kernel_rfl
theorem Zxw : enters Tryz.prog 13 = true := by kernel_rfl
theorem Zxv : enters Tryz.prog 14 = true := by kernel_rfl
theorem ZtU : Zbh Tryz.prog 260 = some [(0, 3), (3, 1)] := by kernel_rfl
theorem Zti : Zak Tryz.prog 260 = some (.agg #[.int .i64 0, .int .i64 0, .string ⟨#[]⟩, .pointer none]) := by kernel_rfl
theorem Zhf : Zy Tryz.prog 258 1 = some 1 := by kernel_rfl
theorem Zos : lk Tryz.prog 256 = some none := by kernel_rfl
theorem ZoP : Zy Tryz.prog 258 0 = some 0 := by kernel_rfl
theorem Zp3 : ZR Tryz.prog 256 = some 1 := by kernel_rfl
theorem Zhe : Zy Tryz.prog 258 2 = some 2 := by kernel_rfl
theorem ZoO : Zy Tryz.prog 260 1 = some 3 := by kernel_rfl
theorem Zvu : Zbh Tryz.prog 258 = some [(0, 1), (1, 1), (2, 1)] := by kernel_rfl
theorem Zu1 : Zak Tryz.prog 258 = some (.agg #[.pointer none, .pointer none, .int .i64 0]) := by kernel_rfl
theorem Zuu : enters Tryz.prog 170 = true := by kernel_rfl
theorem ZsK : Zy Tryz.prog 260 0 = some 0 := by kernel_rfl
theorem Zwg : enters Tryz.prog 169 = true := by kernel_rfl
theorem Zwf : enters Tryz.prog 171 = true := by kernel_rfl
theorem ZwN : enters Tryz.prog 122 = true := by kernel_rfl
theorem Zyh : enters Tryz.prog 43 = true := by kernel_rfl
theorem ZxZ : enters Tryz.prog 69 = true := by kernel_rfl
theorem Zxp : enters Tryz.prog 68 = true := by kernel_rfl
theorem Zyr : enters Tryz.prog 21 = true := by kernel_rfl
theorem Zxu : enters Tryz.prog 22 = true := by kernel_rfl
set_option maxRecDepth 4000
variable {J : JoinT}
abbrev cur (b : Nat) (l : List UInt8) (i : Nat) : Cells := Zae b [str l, .int .i64 i] 158
set_option maxHeartbeats 400000 in
theorem ZfE (n lo hi:Int) (B:Kn):Z9 (pj J) 90 [.int .i64 n,.int .i64 lo,.int .i64 hi] B (.bool (decide (lo≤n) && decide (n≤hi))):=by
 refine Zb 15 Tryz.func90 rfl rfl rfl (Nat.le_of_ble_eq_true rfl) ?_
 refine Za (xA (h:=ZX [(0,_),(1,_),(2,_),(6,_)] t4 (Za (xM (h:=xM (h:=Zd6 (h:=xM (h:=Zw (d:=10) rfl (fun g1=>?_) (fun g1=>?_)))))))))
 try simp only [sQ,ne_eq] at g1
 refine xM (h:=xM (h:=Zb3 (h:=xT (h:=xA (h:=ZX [(0,_),(1,_),(2,_),(6,_)] t4 (Zh ?_))))))
 exact ZB .ret (.inl rfl) [_] t1 ⟨by exact Zg (by rw [Bool.eq_iff_iff];simp [];omega),rfl,rfl⟩
 try simp only [sQ,ne_eq] at g1
 refine xP (h:=xP (h:=xP (h:=xF (h:=xA (h:=ZX [(0,_),(1,_),(2,_),(6,_)] t4 (Zh ?_))))))
 exact ZB .ret (.inl rfl) [_] t1 ⟨by exact Zg (by rw [Bool.eq_iff_iff];simp [];omega),rfl,rfl⟩

set_option maxHeartbeats 400000 in
theorem ZmE (c:UInt8) (B:Kn):Z9 (pj J) 172 [.int .u8 c.toNat] B (.bool (Za4 c)):=by
 refine Zb 17 Tryz.func172 rfl rfl rfl (Nat.le_of_ble_eq_true rfl) ?_
 refine Za (xA (h:=ZX [(0,_),(2,_)] t2 (Za (xM (h:=Zd6 (h:=xM (h:=Zw (d:=5) rfl (fun g1=>?_) (fun g1=>?_))))))))
 try simp only [sQ,ne_eq] at g1
 refine xM (h:=Zb3 (h:=xT (h:=xM (h:=Zw (d:=9) rfl (fun g2=>?_) (fun g2=>?_)))))
 try simp only [sQ,ne_eq] at g2
 refine xP (h:=xP (h:=xP (h:=xP (h:=xP (h:=xP (h:=xT (h:=xA (h:=ZX [(0,_),(2,_)] t2 (Zh ?_)))))))))
 exact ZB .ret (.inl rfl) [_] t1 ⟨by exact Zg (by rw [Bool.eq_iff_iff];simp [Za4];omega),rfl,rfl⟩
 try simp only [sQ,ne_eq] at g2
 refine xM (h:=Zd6 (h:=xM (h:=Zw (d:=12) rfl (fun g3=>?_) (fun g3=>?_))))
 try simp only [sQ,ne_eq] at g3
 refine xM (h:=Zb3 (h:=xT (h:=xF (h:=xA (h:=ZX [(0,_),(2,_)] t2 (Zh ?_))))))
 exact ZB .ret (.inl rfl) [_] t1 ⟨by exact Zg (by rw [Bool.eq_iff_iff];simp [Za4];omega),rfl,rfl⟩
 try simp only [sQ,ne_eq] at g3
 refine xP (h:=xP (h:=xF (h:=xF (h:=xA (h:=ZX [(0,_),(2,_)] t2 (Zh ?_))))))
 exact ZB .ret (.inl rfl) [_] t1 ⟨by exact Zg (by rw [Bool.eq_iff_iff];simp [Za4];omega),rfl,rfl⟩
 try simp only [sQ,ne_eq] at g1
 refine xP (h:=xP (h:=xF (h:=xM (h:=xM (h:=Zd6 (h:=xM (h:=Zw (d:=12) rfl (fun g4=>?_) (fun g4=>?_))))))))
 try simp only [sQ,ne_eq] at g4
 refine xM (h:=Zb3 (h:=xT (h:=xF (h:=xA (h:=ZX [(0,_),(2,_)] t2 (Zh ?_))))))
 exact ZB .ret (.inl rfl) [_] t1 ⟨by exact Zg (by rw [Bool.eq_iff_iff];simp [Za4];omega),rfl,rfl⟩
 try simp only [sQ,ne_eq] at g4
 refine xP (h:=xP (h:=xF (h:=xF (h:=xA (h:=ZX [(0,_),(2,_)] t2 (Zh ?_))))))
 exact ZB .ret (.inl rfl) [_] t1 ⟨by exact Zg (by rw [Bool.eq_iff_iff];simp [Za4];omega),rfl,rfl⟩

set_option maxHeartbeats 400000 in
theorem Zb7 (l:List UInt8) (hl:l.length≤2000000) (B:Kn):Z9 (pj J) 70 [str l] B (.bool (Zam l)):=by
 refine Zb 37 Tryz.func70 rfl rfl rfl (Nat.le_of_ble_eq_true rfl) ?_
 refine Za (xA (h:=ZX [(0,_),(2,_)] t2 (Ze (Za (xA (h:=ZX [(0,_),(2,_),(3,_)] t3 (Zl (Zi3 (α:=Nat) (fun k=>[(0,str l),(3,.int .i64 k)]) (fun k=>[]) (fun k Bx=>Bx=B∧k≤l.length∧(l.take k).all Za4=true) (fun k=>l.length - k) 0 t2 rfl (⟨rfl,Nat.zero_le _,by simp⟩) (fun k B1 hle1 hI=>?_)))))))))
 obtain ⟨rfl,hk,ha⟩:=hI
 refine Ze (Za (xM (h:=xM (h:=xVs Tryz.underlying9 (h:=ZJ (h:=ZX [(0,_),(3,_),(7,_)] t3 (Zc rfl (fun g1=>?_) (fun g1=>?_))))))))
 try simp only [sQ,ne_eq] at g1
 obtain ⟨c,hc⟩ :∃c,l[k]? = some c:=⟨_,List.getElem?_eq_getElem oz⟩
 refine Zf (Zd (Ze (Zl (Zmh 33 (!(Za4 c)) [0,3,7] ?_ ?_))))
 refine xM (h:=xM (h:=Zp (ZdM rfl rfl Tryz.underlying9 rfl rfl oz (by simpa using hc) ?_)))
 refine Zd6 (h:=xM (h:=Zw (d:=14) rfl (fun g1=>?_) (fun g1=>?_)))
 try simp only [sQ,ne_eq] at g1
 refine xM (h:=xM (h:=Zp (ZdM rfl rfl Tryz.underlying9 rfl rfl oz (by simpa using hc) ?_)))
 refine Zb3 (h:=xT (h:=xN (h:=xM (h:=Zw (d:=21) rfl (fun g2=>?_) (fun g2=>?_)))))
 try simp only [sQ,ne_eq] at g2
 refine xM (h:=xM (h:=Zp (ZdM rfl rfl Tryz.underlying9 rfl rfl oz (by simpa using hc) ?_)))
 refine Zd6 (h:=xM (h:=Zw (d:=26) rfl (fun g3=>?_) (fun g3=>?_)))
 try simp only [sQ,ne_eq] at g3
 refine xM (h:=xM (h:=Zp (ZdM rfl rfl Tryz.underlying9 rfl rfl oz (by simpa using hc) ?_)))
 refine Zb3 (h:=xT (h:=xN (h:=xT (h:=?_))))
 exact ⟨rfl,rfl,rfl,Ziz rfl (by rw [Bool.eq_iff_iff];simp [Za4,];omega),t3⟩
 try simp only [sQ,ne_eq] at g3
 refine xP (h:=xP (h:=xP (h:=xP (h:=xF (h:=xN (h:=xT (h:=?_)))))))
 exact ⟨rfl,rfl,rfl,Ziz rfl (by rw [Bool.eq_iff_iff];simp [Za4,];omega),t3⟩
 try simp only [sQ,ne_eq] at g2
 refine xP (h:=xP (h:=xP (h:=xP (h:=xP (h:=xP (h:=xP (h:=xP (h:=xP (h:=xP (h:=xP (h:=xF (h:=?_))))))))))))
 exact ⟨rfl,rfl,rfl,Ziz rfl (by rw [Bool.eq_iff_iff];simp [Za4,];omega),t3⟩
 try simp only [sQ,ne_eq] at g1
 refine xP (h:=xP (h:=xP (h:=xP (h:=xF (h:=xN (h:=xM (h:=xM (h:=xM (h:=Zp (ZdM rfl rfl Tryz.underlying9 rfl rfl oz (by simpa using hc) ?_))))))))))
 refine Zd6 (h:=xM (h:=Zw (d:=26) rfl (fun g4=>?_) (fun g4=>?_)))
 try simp only [sQ,ne_eq] at g4
 refine xM (h:=xM (h:=Zp (ZdM rfl rfl Tryz.underlying9 rfl rfl oz (by simpa using hc) ?_)))
 refine Zb3 (h:=xT (h:=xN (h:=xT (h:=?_))))
 exact ⟨rfl,rfl,rfl,Ziz rfl (by rw [Bool.eq_iff_iff];simp [Za4,];omega),t3⟩
 try simp only [sQ,ne_eq] at g4
 refine xP (h:=xP (h:=xP (h:=xP (h:=xF (h:=xN (h:=xT (h:=?_)))))))
 exact ⟨rfl,rfl,rfl,Ziz rfl (by rw [Bool.eq_iff_iff];simp [Za4,];omega),t3⟩
 refine ZX [(0,_),(3,_),(7,_),(33,_)] t4 (Zc rfl (fun g9=>?_) (fun g9=>?_))
 try simp only [sQ,ne_eq] at g9
 refine Za (xA (h:=ZX [(0,_),(2,_),(3,_),(7,_),(33,_)] t5 (Zh (ZD (Zq (Zsc (ZD (Zq ?_))))))))
 exact ZB .ret (.inl rfl) [_] t1 ⟨Zg (by simp [Zam,Zrb hc g9]),rfl,rfl⟩
 try simp only [sQ,ne_eq] at g9
 refine Zf (ZS (Zd (Zk (xM (h:=Zp (Zgt rfl rfl rfl rfl (by first | exact Zb4 oz oz | rfl) ?_))))))
 refine xA (h:=?_)
 exact Zmv (k+1) oz ⟨rfl,oz,Zmc hc g9 ha⟩ t2 rfl
 try simp only [sQ,ne_eq] at g1
 refine ZH (Z0 (Zmu (Zx (Zd (Za (xM (h:=xVs Tryz.underlying9 (h:=xR ZqY rfl (ZfE _ _ _ _) (h:=xA (h:=ZX [(0,_),(2,_),(3,_),(7,_)] t4 (Zh ?_)))))))))))
 exact ZB .ret (.inl rfl) [_] t1 ⟨Zg (by (obtain rfl:k=l.length:=oz);rw [List.take_length] at ha;rw [Bool.eq_iff_iff];simp [Zam,ha];omega),rfl,rfl⟩

set_option maxHeartbeats 400000 in
theorem Zl7 (b:Nat) (l:List UInt8) (i:Nat) (hi:i≤l.length) (hl:l.length≤2000000) (B:Kn):ZrP (pj J) 124 [ptr ⟨b,0,none⟩] B (cur b l i) (.bool (decide (i=l.length))) (cur b l i):=by
 refine Zb 13 Tryz.func124 rfl rfl rfl (Nat.le_of_ble_eq_true rfl) ?_
 refine Za (xA (h:=ZX [(0,_),(2,_)] t2 (Ze (Z8 (same _ _) mo kr ⟨rfl,rfl⟩ (fun _ _=>?_)))))
 refine aM 0 rfl (h:=aNc 1 rfl (h:=aW 2 rfl ZbI (h:=aT 3 rfl (Zab fun D=>Zr rfl rfl lk3 rfl (atL 0 rfl rfl rfl) r4) (h:=aM 4 rfl (h:=aNc 5 rfl (h:=aW 6 rfl Zf9 (h:=aT 7 rfl (Zab fun D=>Zr rfl rfl lk9 rfl (atL 0 rfl rfl rfl) r4) (h:=aT 8 rfl (Zab fun D=>Zlu rfl rfl Tryz.underlying9 rfl r4) (h:=ZpC 9 rfl (h:=aA 10 rfl (h:=ZA kr kr ?_)))))))))))
 refine Zd (ZX [(0,_),(2,_)] t2 (Zh ?_))
 exact ZqX .ret (.inl rfl) [_] 0 rfl t1 ⟨Zg (by rw [Bool.eq_iff_iff];simp;omega),rfl,rfl⟩

set_option maxHeartbeats 400000 in
theorem ZtH (b:Nat) (l:List UInt8) (i:Nat) (hi:i≤l.length) (hl:l.length≤2000000) (x:UInt8) (B:Kn):ZrP (pj J) 205 [ptr ⟨b,0,none⟩,.int .u8 x.toNat] B (cur b l i) (.bool (decide (l[i]? = some x))) (cur b l (if l[i]? = some x then i+1 else i)):=by
 refine Zb 27 Tryz.func205 rfl rfl rfl (Nat.le_of_ble_eq_true rfl) ?_
 refine Za (xA (h:=ZX [(0,_),(1,_),(4,_)] t3 (Ze (ZgJ 19 (decide (l[i]?≠some x)) [0,1,4] (same _ _) mo kr ⟨rfl,rfl⟩ (fun _ _=>?_) ?_))))
 refine aM 0 rfl (h:=aT 1 rfl (Zab fun D=>Zi2 0 rfl rfl rfl ZqZ rfl (Zl7 _ _ _ oz oz _) r4) (h:=?_))
 refine aM 2 rfl (h:=Zav (d:=7) rfl (fun g1=>?_) (fun g1=>?_))
 try simp only [sQ,ne_eq] at g1
 refine aZ 3 rfl (h:=aZ 4 rfl (h:=aZ 5 rfl (h:=aZ 6 rfl (h:=aZ 7 rfl (h:=aZ 8 rfl (h:=aZ 9 rfl (h:=aZ 10 rfl (h:=aZ 11 rfl (h:=aZ 12 rfl (h:=aZ 13 rfl (h:=aPT 14 rfl (h:=ZA kr kr ?_))))))))))))
 exact ⟨rfl,rfl,rfl,Ziz rfl (by first | (simp [g1];done) | (rw [Bool.eq_iff_iff];simp [hc,← UInt8.toNat_inj];omega)),t3⟩
 try simp only [sQ,ne_eq] at g1
 obtain ⟨c,hc⟩ :∃c,l[i]? = some c:=⟨_,List.getElem?_eq_getElem oz⟩
 refine aM 3 rfl (h:=aNc 4 rfl (h:=aW 5 rfl Zf9 (h:=aT 6 rfl (Zab fun D=>Zr rfl rfl lk9 rfl (atL 0 rfl rfl rfl) r4) (h:=aM 7 rfl (h:=aNc 8 rfl (h:=aW 9 rfl ZbI (h:=aT 10 rfl (Zab fun D=>Zr rfl rfl lk3 rfl (atL 0 rfl rfl rfl) r4) (h:=aT 11 rfl (Zab fun D=>ZdM rfl rfl Tryz.underlying9 rfl rfl oz (by simpa using hc) r4) (h:=?_)))))))))
 refine aM 12 rfl (h:=ZuP 13 rfl (h:=aPF 14 rfl (h:=ZA kr kr ?_)))
 exact ⟨rfl,rfl,rfl,Ziz rfl (by first | (simp [g1];done) | (rw [Bool.eq_iff_iff];simp [hc,← UInt8.toNat_inj];omega)),t3⟩
 refine ZX [(0,_),(1,_),(4,_),(19,_)] t4 (Zc rfl (fun g2=>?_) (fun g2=>?_))
 try simp only [sQ,ne_eq] at g2
 refine Za (xA (h:=ZX [(0,_),(1,_),(4,_),(19,_)] t4 (Zh (Zq ?_))))
 exact ZqX .ret (.inl rfl) [_] 0 rfl t1 ⟨Zg (by simp [g2]),rfl,by rw [if_neg g2]⟩
 try simp only [sQ,ne_eq] at g2
 refine Zf (Zd (Za (xM (h:=xNc (h:=xW ZbI (h:=x1 lk3 0 (h:=Zp (Zgt rfl rfl rfl rfl (by first | exact Zb4 oz oz | rfl) ?_))))))))
 refine xNc (h:=xW ZbI (h:=xS [_] 0 [_,_] sz3 (h:=ZF [(0,_),(1,_),(4,_),(19,_)] [_] t4 rfl (Za (xA (h:=ZX [(0,_),(1,_),(4,_),(19,_)] t4 (Zh ?_)))))))
 exact ZqX .ret (.inl rfl) [_] 0 rfl t1 ⟨Zg (by simp [g2]),rfl,by rw [if_pos g2];rfl⟩

set_option maxHeartbeats 400000 in
theorem Zoi (b:Nat) (l:List UInt8) (i:Nat) (hi:i≤l.length) (hl:l.length≤2000000) (B:Kn):ZrP (pj J) 123 [ptr ⟨b,0,none⟩] B (cur b l i) (.tuple #[str (word l i),.bool (Zc9 (word l i))]) (cur b l (i+(word l i).length)):=by
 refine Zb 54 Tryz.func123 rfl rfl rfl (Nat.le_of_ble_eq_true rfl) ?_
 refine Za (xA (h:=xA (h:=ZX [(0,_),(2,_),(3,_)] t3 (Za (xM (h:=xNc (h:=xW ZbI (h:=x1 lk3 0 (h:=xA (h:=ZX [(0,_),(2,_),(3,_),(4,_)] t4 (Ze (Zl ?_))))))))))))
 refine Zi3 (α:=Nat) (fun k=>[(0,ptr ⟨b,0,none⟩),(4,.int .i64 i)]) (fun k=>[cur b l (i+k)]) (fun k Bx=>Bx=B∧i+k≤l.length∧((l.drop i).take k).all Za4=true) (fun k=>l.length - i - k) 0 t2 rfl (⟨rfl,oz,by simp⟩) (fun k B1 hle1 hI=>?_)
 obtain ⟨rfl,hk,ha⟩:=hI
 refine Ze (ZgJ 24 (match l[i+k]? with | some c=>Za4 c | none=>false) [0,4] (same _ _) mo kr ⟨rfl,rfl⟩ (fun _ _=>?_) ?_)
 refine aM 0 rfl (h:=aT 1 rfl (Zab fun D=>Zi2 0 rfl rfl rfl ZqZ rfl (Zl7 _ _ _ oz oz _) r4) (h:=?_))
 refine aN 2 rfl (h:=aM 3 rfl (h:=Zav (d:=13) rfl (fun g1=>?_) (fun g1=>?_)))
 try simp only [sQ,ne_eq] at g1
 obtain ⟨c,hc⟩ :∃c,l[i+k]? = some c:=⟨_,List.getElem?_eq_getElem oz⟩
 refine aM 4 rfl (h:=aNc 5 rfl (h:=aW 6 rfl Zf9 (h:=aT 7 rfl (Zab fun D=>Zr rfl rfl lk9 rfl (atL 0 rfl rfl rfl) r4) (h:=aM 8 rfl (h:=aNc 9 rfl (h:=aW 10 rfl ZbI (h:=aT 11 rfl (Zab fun D=>Zr rfl rfl lk3 rfl (atL 0 rfl rfl rfl) r4) (h:=aT 12 rfl (Zab fun D=>ZdM rfl rfl Tryz.underlying9 rfl rfl oz hc r4) (h:=?_)))))))))
 refine aT 13 rfl (Zab fun D=>Zaf rfl rfl Zwe rfl (ZmE _ _) r4) (h:=aPT 14 rfl (h:=ZA kr kr ?_))
 exact ⟨rfl,rfl,rfl,Ziz rfl (by first | (rw [hc];done) | (rw [List.getElem?_eq_none oz])),t2⟩
 try simp only [sQ,ne_eq] at g1
 refine aZ 4 rfl (h:=aZ 5 rfl (h:=aZ 6 rfl (h:=aZ 7 rfl (h:=aZ 8 rfl (h:=aZ 9 rfl (h:=aZ 10 rfl (h:=aZ 11 rfl (h:=aZ 12 rfl (h:=aZ 13 rfl (h:=aPF 14 rfl (h:=ZA kr kr ?_)))))))))))
 exact ⟨rfl,rfl,rfl,Ziz rfl (by first | (rw [hc];done) | (rw [List.getElem?_eq_none oz])),t2⟩
 refine ZX [(0,_),(4,_),(24,_)] t3 (Zc rfl (fun g2=>?_) (fun g2=>?_))
 try simp only [sQ,ne_eq] at g2
 refine Zf (Zd (Zl (Zk (xM (h:=xNc (h:=xW ZbI (h:=x1 lk3 0 (h:=Zp (Zgt rfl rfl rfl rfl (by first | exact Zb4 oz oz | rfl) ?_)))))))))
 refine xNc (h:=xW ZbI (h:=xS [_] 0 [_,_] sz3 (h:=ZS ?_)))
 obtain ⟨c,hc,hn⟩:=ZnY g2
 exact Zmv (k+1) (by have:=Zbu hc;omega) ⟨rfl,by have:=Zbu hc;omega,Zmc (by simpa using hc) hn ha⟩ t2 rfl
 try simp only [sQ,ne_eq] at g2
 have hw:word l i=(l.drop i).take k:=ZpL ha (fun c hc=>by rw [hc] at g2;exact g2)
 have hwl:(word l i).length=k:=by rw [hw,List.length_take,List.length_drop];omega
 refine ZH (Z0 (Zmu (Zx (Zd (Za (xM (h:=xNc (h:=xW ZbI (h:=x1 lk3 0 (h:=xM (h:=Zp (Zif rfl rfl rfl rfl (by first | exact Zb4 oz oz | rfl) ?_))))))))))))
 refine xA (h:=ZX [(0,_),(4,_),(5,_),(24,_)] t4 (Ze (Z8 (same _ _) mo kr ⟨rfl,rfl⟩ (fun _ _=>?_))))
 refine aM 0 rfl (h:=aNc 1 rfl (h:=aW 2 rfl Zf9 (h:=aT 3 rfl (Zab fun D=>Zr rfl rfl lk9 rfl (atL 0 rfl rfl rfl) r4) (h:=aM 4 rfl (h:=aM 5 rfl (h:=aNc 6 rfl (h:=aW 7 rfl ZbI (h:=aT 8 rfl (Zab fun D=>Zr rfl rfl lk3 rfl (atL 0 rfl rfl rfl) r4) (h:=aT 9 rfl (Zab fun D=>Zfr rfl rfl Tryz.underlying9 rfl (a:=i) (b:=i+k) ⟨_,_,rfl,rfl⟩ ⟨_,_,rfl,oz⟩ oz oz r4) (h:=?_))))))))))
 refine aM 10 rfl (h:=Zw6 11 rfl (h:=aM 12 rfl (h:=Zav (d:=50) rfl (fun g1=>?_) (fun g1=>?_))))
 try simp only [sQ,ne_eq] at g1
 refine aM 13 rfl (h:=Zrh 14 rfl (h:=aPT 15 rfl (h:=aA 16 rfl (h:=aA 17 rfl (h:=ZA kr kr ?_)))))
 refine Zd (ZX [(0,_),(2,_),(3,_),(4,_),(5,_),(24,_)] t6 (Zh ?_))
 exact ZqX .ret (.inl rfl) [_,_] 0 rfl t2 ⟨ZhM (by rw [ZeS,hw]) (Zg (by rw [Bool.eq_iff_iff];simp [Zc9,hwl];omega)),rfl,by rw [hwl]⟩
 try simp only [sQ,ne_eq] at g1
 refine aZ 13 rfl (h:=aZ 14 rfl (h:=aPF 15 rfl (h:=aA 16 rfl (h:=aA 17 rfl (h:=ZA kr kr ?_)))))
 refine Zd (ZX [(0,_),(2,_),(3,_),(4,_),(5,_),(24,_)] t6 (Zh ?_))
 exact ZqX .ret (.inl rfl) [_,_] 0 rfl t2 ⟨ZhM (by rw [ZeS,hw]) (Zg (by rw [Bool.eq_iff_iff];simp [Zc9,hwl];omega)),rfl,by rw [hwl]⟩

set_option maxHeartbeats 400000 in
theorem Zq0 (b:Nat) (l:List UInt8) (i:Nat) (hi:i≤l.length) (hl:l.length≤2000000) (B:Kn):ZrP (pj J) 182 [ptr ⟨b,0,none⟩] B (cur b l i) (.tuple #[str (Zhl l i),.bool (Zle l i)]) (cur b l (dom l i).2):=by
 refine Zb 53 Tryz.func182 rfl rfl rfl (Nat.le_of_ble_eq_true rfl) ?_
 refine Za (xA (h:=xA (h:=ZX [(0,_),(2,_),(3,_)] t3 (Za (xM (h:=xNc (h:=xW ZbI (h:=x1 lk3 0 (h:=xA (h:=ZX [(0,_),(2,_),(3,_),(4,_)] t4 (Ze (Za ?_))))))))))))
 refine xM (h:=Zp (ZhH 0 rfl rfl rfl Zs5 rfl (Zoi _ _ _ oz oz _) ?_))
 refine xM (h:=xE (h:=xE (h:=xA (h:=xA (h:=ZF [(0,_),(2,_),(3,_),(4,_),(6,_)] [_] t5 rfl (Za (xM (h:=xN (h:=ZX [(0,_),(2,_),(3,_),(4,_),(6,_),(20,_)] t6 (Zc rfl (fun g1=>?_) (fun g1=>?_)))))))))))
 try simp only [sQ,ne_eq] at g1
 refine Za (xA (h:=xA (h:=ZX [(0,_),(2,_),(3,_),(4,_),(6,_),(20,_)] t6 (Zh (Zq ?_)))))
 exact ZqX .ret (.inl rfl) [_,_] 0 rfl t2 ⟨ZhM (by simp [Zhl,Zld g1]) (Zg (by simp [Zle,Zld g1])),rfl,by rw [Zld g1]⟩
 try simp only [sQ,ne_eq] at g1
 refine Zf (Zd (Ze (Za (xA (h:=ZX [(0,_),(2,_),(3,_),(4,_),(6,_),(7,_),(20,_)] t7 (Zl (Zi3 (α:=Nat × Nat) (fun x=>[(0,ptr ⟨b,0,none⟩),(4,.int .i64 i),(7,.int .i64 x.1)]) (fun x=>[cur b l x.2]) (fun x Bx=>Bx=B∧1≤x.1∧x.1≤3∧i≤x.2∧x.2≤l.length∧dom l i=more (3 - x.1) l x.2) (fun x=>3 - x.1) (1,i+(word l i).length) t3 rfl (⟨rfl,oz,oz,oz,ZgI hi,Zq1 g1⟩) (fun x B1 hle1 hI=>?_))))))))
 obtain ⟨rfl,hk1,hk3,hix,hxl,hd⟩:=hI
 refine Ze (Za (xM (h:=ZJ (h:=xM (h:=Zw (d:=23) rfl (fun g2=>?_) (fun g2=>?_))))))
 try simp only [sQ,ne_eq] at g2
 refine xM (h:=Zp (ZhH 0 rfl rfl rfl ZvQ rfl (ZtH _ _ _ oz oz 46 _) ?_))
 refine xT (h:=ZF [(0,_),(4,_),(7,_),(26,_)] [_] t4 rfl (Zc rfl (fun g3=>?_) (fun g3=>?_)))
 try simp only [sQ,ne_eq] at g3
 rw [if_pos g3]
 have hx2:=Zbu g3
 refine Zf (Zd (Ze (Zl (Za (xM (h:=Zp (ZhH 0 rfl rfl rfl Zs5 rfl (Zoi _ _ _ oz oz _) ?_)))))))
 refine xM (h:=xE (h:=xE (h:=xA (h:=xA (h:=ZF [(0,_),(4,_),(7,_),(9,_),(26,_)] [_] t5 rfl (Za (xM (h:=xN (h:=ZX [(0,_),(4,_),(7,_),(9,_),(26,_),(35,_)] t6 (Zc rfl (fun g4=>?_) (fun g4=>?_)))))))))))
 try simp only [sQ,ne_eq] at g4
 refine Za (xA (h:=xA (h:=ZX [(0,_),(2,_),(3,_),(4,_),(7,_),(9,_),(26,_),(35,_)] t8 (Zh (ZD (Zq (Zsc (ZD (Zq ?_)))))))))
 have hdd:=hd.trans (Zqs oz g3 g4)
 exact ZqX .ret (.inl rfl) [_,_] 0 rfl t2 ⟨ZhM (by simp [Zhl,hdd]) (Zg (by simp [Zle,hdd])),rfl,by rw [hdd]⟩
 try simp only [sQ,ne_eq] at g4
 refine Zf (ZS (Zd (Zk (xM (h:=Zp (Zgt rfl rfl rfl rfl (by first | exact Zb4 oz oz | rfl) ?_))))))
 refine xA (h:=?_)
 exact Zmv (x.1+1,x.2+1+(word l (x.2+1)).length) (so) ⟨rfl,so,so,so,ZgI oz,by rw [hd,Zon oz g3 g4];rw [show 3 - (x.1+1)=3 - x.1 - 1 from by omega]⟩ t3 rfl
 try simp only [sQ,ne_eq] at g3
 rw [if_neg g3]
 replace hd:=hd.trans (ZgZ g3)
 refine ZH (Z0 (Zmu (Zx (Zd (Ze (Z8 (same _ _) mo kr ⟨rfl,rfl⟩ (fun _ _=>?_)))))))
 refine aM 0 rfl (h:=aNc 1 rfl (h:=aW 2 rfl Zf9 (h:=aT 3 rfl (Zab fun D=>Zr rfl rfl lk9 rfl (atL 0 rfl rfl rfl) r4) (h:=aM 4 rfl (h:=aM 5 rfl (h:=aNc 6 rfl (h:=aW 7 rfl ZbI (h:=aT 8 rfl (Zab fun D=>Zr rfl rfl lk3 rfl (atL 0 rfl rfl rfl) r4) (h:=aT 9 rfl (Zab fun D=>Zfr rfl rfl Tryz.underlying9 rfl (a:=i) (b:=x.2) ⟨_,_,rfl,rfl⟩ ⟨_,_,rfl,rfl⟩ oz oz r4) (h:=?_))))))))))
 refine aM 10 rfl (h:=aNc 11 rfl (h:=aW 12 rfl ZbI (h:=aT 13 rfl (Zab fun D=>Zr rfl rfl lk3 rfl (atL 0 rfl rfl rfl) r4) (h:=aM 14 rfl (h:=aT 15 rfl (Zab fun D=>Zif rfl rfl rfl rfl (by first | exact Zb4 oz oz | rfl) r4) (h:=?_))))))
 refine Zrh 16 rfl (h:=aA 17 rfl (h:=aA 18 rfl (h:=ZA kr kr ?_)))
 refine Zd (ZX [(0,_),(2,_),(3,_),(4,_),(7,_),(26,_)] t6 (Zh ?_))
 exact ZqX .ret (.inl rfl) [_,_] 0 rfl t2 ⟨ZhM (by simp [Zhl,hd]) (Zg (by rw [Bool.eq_iff_iff];simp [Zle,hd];omega)),rfl,by rw [hd]⟩
 try simp only [sQ,ne_eq] at g2
 replace hd:dom l i=(true,x.2):=hd.trans (by rw [show 3 - x.1=0 from by omega];rfl)
 refine xP (h:=xP (h:=xF (h:=ZX [(0,_),(4,_),(7,_),(26,_)] t4 (Zc (t:=false) rfl (fun h=>Bool.noConfusion h) (fun _=>ZH (Z0 (Zmu (Zx (Zd (Ze (Z8 (same _ _) mo kr ⟨rfl,rfl⟩ (fun _ _=>?_))))))))))))
 refine aM 0 rfl (h:=aNc 1 rfl (h:=aW 2 rfl Zf9 (h:=aT 3 rfl (Zab fun D=>Zr rfl rfl lk9 rfl (atL 0 rfl rfl rfl) r4) (h:=aM 4 rfl (h:=aM 5 rfl (h:=aNc 6 rfl (h:=aW 7 rfl ZbI (h:=aT 8 rfl (Zab fun D=>Zr rfl rfl lk3 rfl (atL 0 rfl rfl rfl) r4) (h:=aT 9 rfl (Zab fun D=>Zfr rfl rfl Tryz.underlying9 rfl (a:=i) (b:=x.2) ⟨_,_,rfl,rfl⟩ ⟨_,_,rfl,rfl⟩ oz oz r4) (h:=?_))))))))))
 refine aM 10 rfl (h:=aNc 11 rfl (h:=aW 12 rfl ZbI (h:=aT 13 rfl (Zab fun D=>Zr rfl rfl lk3 rfl (atL 0 rfl rfl rfl) r4) (h:=aM 14 rfl (h:=aT 15 rfl (Zab fun D=>Zif rfl rfl rfl rfl (by first | exact Zb4 oz oz | rfl) r4) (h:=?_))))))
 refine Zrh 16 rfl (h:=aA 17 rfl (h:=aA 18 rfl (h:=ZA kr kr ?_)))
 refine Zd (ZX [(0,_),(2,_),(3,_),(4,_),(7,_),(26,_)] t6 (Zh ?_))
 exact ZqX .ret (.inl rfl) [_,_] 0 rfl t2 ⟨ZhM (by simp [Zhl,hd]) (Zg (by rw [Bool.eq_iff_iff];simp [Zle,hd];omega)),rfl,by rw [hd]⟩

set_option maxHeartbeats 400000 in
theorem ZbL (l:List UInt8) (hl:l.length≤2000000) (B:Kn):Z9 (pj J) 72 [str l] B (.bool (Zam l)):=by
 refine Zb 16 Tryz.func72 rfl rfl rfl (Nat.le_of_ble_eq_true rfl) ?_
 refine Za (xA (h:=ZX [(0,_),(2,_)] t2 (Za (xM (h:=xB [(0,_)] [_,_] [_,_] ZtW ZpK (h:=xAl [_,_] ZpK (h:=fun b0=>xS [_,_] 0 [_,_] ZtP (h:=ZF [(0,_),(2,_),(3,_)] [_] t3 rfl (Za (Zp (ZhH 0 rfl rfl rfl Zs5 rfl (Zoi _ _ 0 oz hl _) ?_)))))))))))
 refine xM (h:=xE (h:=xE (h:=xA (h:=xA (h:=ZF [(0,_),(2,_),(3,_),(5,_)] [_] t4 rfl (Za (xM (h:=xM (h:=Zw (d:=13) rfl (fun g1=>?_) (fun g1=>?_))))))))))
 try simp only [sQ,ne_eq] at g1
 refine Zp (Zi2 0 rfl rfl rfl ZqZ rfl (Zl7 _ _ (0+(word l 0).length) (ZgI (Nat.zero_le _)) oz _) ?_)
 refine xT (h:=xA (h:=ZX [(0,_),(2,_),(3,_),(5,_)] t4 (Zh ?_)))
 exact ZB .ret (.inl rfl) [_] t1 ⟨Zg (by rw [ZcV];simp [g1];try omega),rfl,rfl⟩
 try simp only [sQ,ne_eq] at g1
 refine xP (h:=xF (h:=xA (h:=ZX [(0,_),(2,_),(3,_),(5,_)] t4 (Zh ?_))))
 exact ZB .ret (.inl rfl) [_] t1 ⟨Zg (by rw [ZcV];simp [g1];try omega),rfl,rfl⟩

abbrev Zu0 (s : Cells) (q : Option Addr) (m cp : Nat) (ls : List (List UInt8)) : Prop := ZgH s q m cp 9 1 (ls.map str)
theorem Zi7 {s:Cells} {q:Option Addr} {m cp:Nat} {ls:List (List UInt8)} {a:List UInt8} (h:ZgH s q m cp 9 1 (ls.map str ++ [str a])):Zu0 s q m cp (ls ++ [a]):=by
 unfold Zu0
 rw [List.map_append]
 exact h
set_option maxHeartbeats 400000 in
theorem Zst (l:List UInt8) (hl:l.length≤2000000) (x0:UInt8) (B:Kn):ZxA (pj J) 141 [str l,.int .u8 x0.toNat] B (fun v s=>∃q cp,v = .slice q (cut x0 l).length cp∧Zu0 s q (cut x0 l).length cp (cut x0 l)):=by
 refine Zb 35 Tryz.func141 rfl rfl rfl (Nat.le_of_ble_eq_true rfl) ?_
 refine Za (xA (h:=ZX [(0,_),(1,_),(4,_)] t3 (Za (xBs [] [] Tryz.underlying43 sz9 zo9 (h:=fun b0=>xA (h:=ZF [(0,_),(1,_),(4,_),(5,_)] [_] t4 rfl (Za (xA (h:=ZX [(0,_),(1,_),(4,_),(5,_),(6,_)] t5 (Ze (Za (xA (h:=?_)))))))))))))
 refine ZX [(0,_),(1,_),(4,_),(5,_),(6,_),(7,_)] t6 (Zl (Zi3 (α:=CutSt) (fun x=>[(0,str l),(1,.int .u8 x0.toNat),(5,.slice x.q x.m x.cp),(6,.int .i64 x.f),(7,.int .i64 x.i)]) (fun x=>[x.s]) (fun x Bx=>Bx=B∧x.f≤x.i∧x.i≤l.length∧x.m≤x.i∧x.m=x.ps.length∧Zu0 x.s x.q x.m x.cp x.ps∧cut x0 l=x.ps ++ glue ((l.take x.i).drop x.f) (cut x0 (l.drop x.i))) (fun x=>l.length - x.i) ⟨0,0,0,[],some ⟨b0,0,none⟩,0,Zae b0 [] 9⟩ t5 rfl (⟨rfl,Nat.le_refl _,Nat.zero_le _,Nat.le_refl _,rfl,ZgH.lit rfl,by simp [Zl1 (Zma x0 l)]⟩) (fun x B1 hle1 hI=>?_)))
 obtain ⟨rfl,hf,hi,hn,hm,hv,hc⟩:=hI
 refine Ze (Za (xM (h:=xM (h:=xVs Tryz.underlying9 (h:=ZJ (h:=ZX [(0,_),(1,_),(5,_),(6,_),(7,_),(12,_)] t6 (Zc rfl (fun g1=>?_) (fun g1=>?_))))))))
 try simp only [sQ,ne_eq] at g1
 obtain ⟨c,hx⟩ :∃c,l[x.i]? = some c:=⟨_,List.getElem?_eq_getElem oz⟩
 refine Zf (Zd (Ze (Zl (Za (xM (h:=xM (h:=Zp (ZdM rfl rfl Tryz.underlying9 rfl rfl oz hx ?_))))))))
 refine xM (h:=Zlr (h:=ZX [(0,_),(1,_),(5,_),(6,_),(7,_),(12,_),(19,_)] t7 (Zc rfl (fun g2=>?_) (fun g2=>?_))))
 try simp only [sQ,ne_eq] at g2
 refine Za (xM (h:=xM (h:=xM (h:=xM (h:=Zp (Zfr rfl rfl Tryz.underlying9 rfl (a:=x.f) (b:=x.i) ⟨_,_,rfl,rfl⟩ ⟨_,_,rfl,rfl⟩ oz oz ?_))))))
 refine xBs [(0,_)] [_] Tryz.underlying43 sz9 zo9 (h:=fun b1=>Zp (Zes 0 rfl (hv) rfl rfl Zur ZuS rfl rfl (Zcg.box 1 rfl) rfl rfl oz (fun l1 p1 c1 hv1=>?_)))
 refine xA (h:=ZF [(0,_),(1,_),(5,_),(6,_),(7,_),(12,_),(19,_)] [_,_] t7 rfl (Znq [0] rfl (Zk (xM (h:=Zp (Zgt rfl rfl rfl rfl (by first | exact Zb4 oz oz | rfl) ?_))))))
 refine xA (h:=ZS (Zd (Zk (xM (h:=Zp (Zgt rfl rfl rfl rfl (by first | exact Zb4 oz oz | rfl) ?_))))))
 refine xA (h:=?_)
 exact Zmv ⟨x.i+1,x.i+1,x.m+1,x.ps ++ [(l.take x.i).drop x.f],p1,c1,l1⟩ (so) ⟨rfl,Nat.le_refl _,so,so,by simp [hm],Zi7 hv1,by rw [hc,Zs9 hx (Zvh g2),List.append_assoc];simp [ZqR,Zl1 (Zma x0 _)]⟩ t5 rfl
 try simp only [sQ,ne_eq] at g2
 refine Zf (ZS (Zd (Zk (xM (h:=Zp (Zgt rfl rfl rfl rfl (by first | exact Zb4 oz oz | rfl) ?_))))))
 refine xA (h:=?_)
 exact Zmv ⟨x.i+1,x.f,x.m,x.ps,x.q,x.cp,x.s⟩ (so) ⟨rfl,so,so,so,hm,hv,by rw [hc,Zq3 hx (Zvg g2),ZoK,ZnK hx hf]⟩ t5 rfl
 try simp only [sQ,ne_eq] at g1
 obtain hie:x.i=l.length:=by omega
 rw [hie,List.take_length,List.drop_length] at hc
 refine ZH (Z0 (Zmu (Zx (Zd (Za (xM (h:=xM (h:=xM (h:=Zp (Zfr rfl rfl Tryz.underlying9 rfl (a:=x.f) (b:=l.length) ⟨_,_,rfl,rfl⟩ rfl oz oz ?_))))))))))
 refine xBs [(0,_)] [_] Tryz.underlying43 sz9 zo9 (h:=fun b1=>Zp (Zes 0 rfl (hv) rfl rfl Zur ZuS rfl rfl (Zcg.box 1 rfl) rfl rfl oz (fun l2 p2 c2 hv2=>?_)))
 refine xA (h:=ZF [(0,_),(1,_),(4,_),(5,_),(6,_),(7,_),(12,_)] [_,_] t7 rfl (Zh ?_))
 have he:cut x0 l=x.ps ++ [l.drop x.f]:=by rw [hc];simp [cut,glue]
 have hlen:(cut x0 l).length=x.m+1:=by rw [he];simp [hm]
 exact Zbe .ret (.inl rfl) [_] [0] rfl t1 ⟨rfl,_,rfl,p2,c2,by rw [hlen];rfl,by rw [hlen,he];rw [List.take_length] at hv2;exact Zi7 hv2⟩

set_option maxHeartbeats 400000 in
theorem Zjj (l:List UInt8) (hl:l.length≤2000000) (B:Kn):Z9 (pj J) 85 [str l] B (.bool (Zct l)):=by
 refine Zb 27 Tryz.func85 rfl rfl rfl (Nat.le_of_ble_eq_true rfl) ?_
 refine Za (xA (h:=ZX [(0,_),(2,_)] t2 (Za (xM (h:=Zp (Ztp rfl rfl ZwC rfl (Zst _ hl 46 _) ?_))))))
 rintro _ s ⟨q,cp,rfl,hv⟩
 refine xA (h:=ZF [(0,_),(2,_),(3,_)] [_] t3 rfl (Ze (Za (xA (h:=ZX [(0,_),(2,_),(3,_),(4,_)] t4 (Zl (Zi3 (α:=Nat) (fun k=>[(0,str l),(3,.slice q (cut 46 l).length cp),(4,.int .i64 k)]) (fun k=>[s]) (fun k Bx=>Bx=B∧k≤(cut 46 l).length∧((cut 46 l).take k).all Zam=true) (fun k=>(cut 46 l).length - k) 0 t3 rfl (⟨rfl,Nat.zero_le _,by simp⟩) (fun k B1 hle1 hI=>?_))))))))
 obtain ⟨rfl,hk,ha⟩:=hI
 have hcc:=Zj3 46 l
 refine Ze (Za (xM (h:=xM (h:=xV Tryz.underlying43 (h:=ZJ (h:=ZX [(0,_),(3,_),(4,_),(10,_)] t4 (Zc rfl (fun g1=>?_) (fun g1=>?_))))))))
 try simp only [sQ,ne_eq] at g1
 obtain ⟨y,hy⟩ :∃y,(cut 46 l)[k]? = some y:=⟨_,List.getElem?_eq_getElem oz⟩
 have hyl:=Zlf 46 l y (List.mem_of_getElem? hy)
 obtain ⟨a,rfl,hsp,hat⟩:=hv.at (B:=B1) (L:=[s]) (i:=k) (v:=str y) 0 rfl (by rw [List.getElem?_map,hy];rfl)
 refine Zf (Zd (Ze (Zl (Za (xM (h:=xM (h:=Zp (ZbB rfl rfl Tryz.underlying43 sz9 rfl rfl oz oz ?_))))))))
 refine Zp (Zr rfl rfl lk9 rfl (ZuH hat) (xR Zs1 rfl (Zb7 _ oz _) (h:=?_)))
 refine xN (h:=ZX [(0,_),(3,_),(4,_),(10,_),(18,_)] t5 (Zc rfl (fun g2=>?_) (fun g2=>?_)))
 try simp only [sQ,ne_eq] at g2
 refine Za (xA (h:=ZX [(0,_),(2,_),(3,_),(4,_),(10,_),(18,_)] t6 (Zh (ZD (Zq (Zsc (ZD (Zq ?_))))))))
 exact ZB .ret (.inl rfl) [_] t1 ⟨Zg (by simp [Zct,Zkb hy g2]),rfl,rfl⟩
 try simp only [sQ,ne_eq] at g2
 refine Zf (ZS (Zd (Zk (xM (h:=Zp (Zgt rfl rfl rfl rfl (by first | exact Zb4 oz oz | rfl) ?_))))))
 refine xA (h:=?_)
 exact Zmv (k+1) oz ⟨rfl,oz,Zhv hy g2 ha⟩ t3 rfl
 try simp only [sQ,ne_eq] at g1
 obtain hke:k=(cut 46 l).length:=by omega
 rw [hke,List.take_length] at ha
 refine ZH (Z0 (Zmu (Zx (Zd (Za (xM (h:=xV Tryz.underlying43 (h:=Zb3 (h:=xM (h:=Zw (d:=22) rfl (fun g3=>?_) (fun g3=>?_)))))))))))
 try simp only [sQ,ne_eq] at g3
 refine xM (h:=xVs Tryz.underlying9 (h:=Zb3 (h:=xT (h:=xA (h:=ZX [(0,_),(2,_),(3,_),(4,_),(10,_)] t5 (Zh ?_))))))
 exact ZB .ret (.inl rfl) [_] t1 ⟨Zg (by rw [Bool.eq_iff_iff];simp [Zct,ha];omega),rfl,rfl⟩
 try simp only [sQ,ne_eq] at g3
 refine xP (h:=xP (h:=xP (h:=xF (h:=xA (h:=ZX [(0,_),(2,_),(3,_),(4,_),(10,_)] t5 (Zh ?_))))))
 exact ZB .ret (.inl rfl) [_] t1 ⟨Zg (by rw [Bool.eq_iff_iff];simp [Zct,ha];omega),rfl,rfl⟩

set_option maxHeartbeats 400000 in
theorem Zeh (q:Option Addr) (cp:Nat) (us:List DUser) (u:Str) (B:Kn) (hu:SlK B q cp 3 Zn us):Z9 (pj J) 35 [.slice q us.length cp,str u] B (.int .i64 (ZdI us u)):=by
 refine Zb 20 Tryz.func35 rfl rfl rfl (Nat.le_of_ble_eq_true rfl) ?_
 have hun:=hu.len
 refine Za (xA (h:=Ze (Za (xA (h:=Zl (ZC (α:=Nat) [0,1] (fun k=>[(5,.int .i64 k)]) [] (fun k=>[]) (fun k Bx=>Bx=B∧k≤us.length∧∀x,x∈us.take k→x.name≠u) (fun k=>us.length - k) 0 t1 rfl (⟨rfl,Nat.zero_le _,by simp⟩) (fun k B1 hle1 hI=>?_)))))))
 obtain ⟨rfl,hk,ha⟩:=hI
 refine ZF [(0,_),(1,_),(5,_)] [] t3 rfl (Ze (Za (xM (h:=xM (h:=xV Tryz.underlying30 (h:=ZJ (h:=Zc rfl (fun g1=>?_) (fun g1=>?_))))))))
 try simp only [sQ,ne_eq] at g1
 refine Zf (Zd (Ze (Zl (Za (xM (h:=xM (h:=?_)))))))
 obtain ⟨x,hx⟩:=ZY (xs:=us) (i:=k) om
 obtain ⟨bb3,oo3,rfl⟩:=hu.base hx
 obtain ⟨_,⟨rfl,hb4,hb4b⟩,hc4⟩:=hu.elem hx
 refine xIx Tryz.underlying30 Za3 (h:=xW ZaV (h:=y1 lk9 hc4 0 (h:=xM (h:=Zdp (h:=Zc rfl (fun g2=>?_) (fun g2=>?_))))))
 try simp only [sQ,ne_eq] at g2
 refine Za (xM (h:=xA (h:=Zh (ZD (Zq (ZP (ZD (Zq ?_))))))))
 exact ZB .ret (.inl rfl) [_] t1 ⟨ZI (ZqD hx g2 ha).symm,rfl,rfl⟩
 try simp only [sQ,ne_eq] at g2
 refine Zf (ZS (Zd (Zk (xM (h:=xD (h:=xA (h:=?_)))))))
 exact ZG (k+1) [] so2 ⟨rfl,oz,Za7 hx ha g2⟩ t3 rfl
 try simp only [sQ,ne_eq] at g1
 refine ZH (Z0 (ZM (Zx (Zd (Za (xA (h:=Zh ?_)))))))
 exact ZB .ret (.inl rfl) [_] t1 ⟨ZI (ZoB (Zbf oz ha)).symm,rfl,rfl⟩

set_option maxHeartbeats 400000 in
theorem Zlb (q q':Option Addr) (cp cp':Nat) (xs ys:List Str) (B:Kn) (ha:SlK B q cp 1 Zc5 xs) (hb:SlK B q' cp' 1 Zc5 ys):Z9 (pj J) 63 [.slice q xs.length cp,.slice q' ys.length cp'] B (.bool (decide (xs=ys))):=by
 refine Zb 26 Tryz.func63 rfl rfl rfl (Nat.le_of_ble_eq_true rfl) ?_
 have han:=ha.len
 have hbn:=hb.len
 refine Za (xA (h:=Ze (Za (xM (h:=xV Tryz.underlying43 (h:=xM (h:=xV Tryz.underlying43 (h:=ZaN (h:=Zc rfl (fun g1=>?_) (fun g1=>?_))))))))))
 try simp only [sQ,ne_eq] at g1
 refine Za (xA (h:=Zh (Zq ?_)))
 exact ZB .ret (.inl rfl) [_] t1 ⟨Zg (Zgb g1),rfl,rfl⟩
 try simp only [sQ,ne_eq] at g1
 refine Zf (Zd (Ze (Za (xA (h:=Zl (ZC (α:=Nat) [0,1,10] (fun k=>[(5,.int .i64 k)]) [] (fun k=>[]) (fun k Bx=>Bx=B∧k≤xs.length∧xs.take k=ys.take k) (fun k=>xs.length - k) 0 t1 rfl (⟨rfl,Nat.zero_le _,by simp⟩) (fun k B1 hle1 hI=>?_)))))))
 obtain ⟨rfl,hk,he⟩:=hI
 refine ZF [(0,_),(1,_),(5,_),(10,_)] [] t4 rfl (Ze (Za (xM (h:=xM (h:=xV Tryz.underlying43 (h:=ZJ (h:=Zc rfl (fun g2=>?_) (fun g2=>?_))))))))
 try simp only [sQ,ne_eq] at g2
 refine Zf (Zd (Ze (Zl (Ze (Z8 (same _ _) mo kr ⟨rfl,rfl⟩ (fun _ _=>?_))))))
 refine aM 0 rfl (h:=aM 1 rfl (h:=?_))
 obtain ⟨x,hx⟩:=ZY (xs:=xs) (i:=k) om
 obtain ⟨bb3,oo3,rfl⟩:=ha.base hx
 obtain ⟨_,⟨rfl,hb4⟩,hc4⟩:=ha.elem hx
 refine aIx 2 rfl Tryz.underlying43 sz9 (h:=aT 3 rfl (Zab fun D=>Zr rfl rfl lk9 rfl (hc4 _ 0 _ rfl) r4) (h:=aM 4 rfl (h:=aM 5 rfl (h:=?_))))
 obtain ⟨y,hy⟩:=ZY (xs:=ys) (i:=k) om
 obtain ⟨bb6,oo6,rfl⟩:=hb.base hy
 obtain ⟨_,⟨rfl,hb7⟩,hc7⟩:=hb.elem hy
 refine aIx 6 rfl Tryz.underlying43 sz9 (h:=aT 7 rfl (Zab fun D=>Zr rfl rfl lk9 rfl (hc7 _ 0 _ rfl) r4) (h:=ZeV 8 rfl (h:=ZA kr kr ?_)))
 refine Zd (Zc rfl (fun g3=>?_) (fun g3=>?_))
 try simp only [sQ,ne_eq] at g3
 refine Za (xA (h:=Zh (ZD (Zq (ZP (ZD (Zq ?_)))))))
 exact ZB .ret (.inl rfl) [_] t1 ⟨Zg (ZeE hx hy g3),rfl,rfl⟩
 try simp only [sQ,ne_eq] at g3
 refine Zf (ZS (Zd (Zk (xM (h:=xD (h:=xA (h:=?_)))))))
 exact ZG (k+1) [] so2 ⟨rfl,oz,ZbJ hx hy g3 he⟩ t4 rfl
 try simp only [sQ,ne_eq] at g2
 refine ZH (Z0 (ZM (Zx (Zd (Za (xA (h:=Zh ?_)))))))
 exact ZB .ret (.inl rfl) [_] t1 ⟨Zg (eqT oz oz he),rfl,rfl⟩

set_option maxHeartbeats 400000 in
theorem Zqy (q:Option Addr) (cp:Nat) (xs:List Str) (u:Str) (B:Kn) (ha:SlK B q cp 1 Zc5 xs):Z9 (pj J) 130 [.slice q xs.length cp,str u] B (.bool (decide (u∈xs))):=by
 refine Zb 18 Tryz.func130 rfl rfl rfl (Nat.le_of_ble_eq_true rfl) ?_
 have han:=ha.len
 refine Za (xA (h:=Ze (Za (xA (h:=Zl (ZC (α:=Nat) [0,1] (fun k=>[(5,.int .i64 k)]) [] (fun k=>[]) (fun k Bx=>Bx=B∧k≤xs.length∧∀x,x∈xs.take k→x≠u) (fun k=>xs.length - k) 0 t1 rfl (⟨rfl,Nat.zero_le _,by simp⟩) (fun k B1 hle1 hI=>?_)))))))
 obtain ⟨rfl,hk,hn⟩:=hI
 refine ZF [(0,_),(1,_),(5,_)] [] t3 rfl (Ze (Za (xM (h:=xM (h:=xV Tryz.underlying43 (h:=ZJ (h:=Zc rfl (fun g1=>?_) (fun g1=>?_))))))))
 try simp only [sQ,ne_eq] at g1
 refine Zf (Zd (Ze (Zl (Za (xM (h:=xM (h:=?_)))))))
 obtain ⟨x,hx⟩:=ZY (xs:=xs) (i:=k) om
 obtain ⟨bb3,oo3,rfl⟩:=ha.base hx
 obtain ⟨_,⟨rfl,hb4⟩,hc4⟩:=ha.elem hx
 refine xIx Tryz.underlying43 sz9 (h:=y1 lk9 hc4 0 (h:=xM (h:=Zdp (h:=Zc rfl (fun g2=>?_) (fun g2=>?_)))))
 try simp only [sQ,ne_eq] at g2
 refine Za (xA (h:=Zh (ZD (Zq (ZP (ZD (Zq ?_)))))))
 exact ZB .ret (.inl rfl) [_] t1 ⟨Zg (ZxF hx g2),rfl,rfl⟩
 try simp only [sQ,ne_eq] at g2
 refine Zf (ZS (Zd (Zk (xM (h:=xD (h:=xA (h:=?_)))))))
 exact ZG (k+1) [] so2 ⟨rfl,oz,Za7 hx hn g2⟩ t3 rfl
 try simp only [sQ,ne_eq] at g1
 refine ZH (Z0 (ZM (Zx (Zd (Za (xA (h:=Zh ?_)))))))
 exact ZB .ret (.inl rfl) [_] t1 ⟨Zg (ZxG (Zbf oz hn)),rfl,rfl⟩

set_option maxHeartbeats 400000 in
theorem ZmN (q:Option Addr) (cp:Nat) (xs:List Str) (B:Kn) (ha:SlK B q cp 1 Zc5 xs):Z9 (pj J) 115 [.slice q xs.length cp] B (.bool (ZcU xs)):=by
 refine Zb 29 Tryz.func115 rfl rfl rfl (Nat.le_of_ble_eq_true rfl) ?_
 have han:=ha.len
 refine Za (xA (h:=Ze (Za (xA (h:=Zl (ZC (α:=Nat) [0] (fun k=>[(3,.int .i64 k)]) [] (fun k=>[]) (fun k Bx=>Bx=B∧k≤xs.length∧(xs.take k).all Zam=true∧(xs.take k).Nodup) (fun k=>xs.length - k) 0 t1 rfl (⟨rfl,Nat.zero_le _,by simp,by simp⟩) (fun k B1 hle1 hI=>?_)))))))
 obtain ⟨rfl,hk,hv,hn⟩:=hI
 refine ZF [(0,_),(3,_)] [] t2 rfl (Ze (Za (xM (h:=xM (h:=xV Tryz.underlying43 (h:=ZJ (h:=Zc rfl (fun g1=>?_) (fun g1=>?_))))))))
 try simp only [sQ,ne_eq] at g1
 refine Zf (Zd (Ze (Zl (Ze (Z8 (same _ _) mo kr ⟨rfl,rfl⟩ (fun _ _=>?_))))))
 refine aM 0 rfl (h:=aM 1 rfl (h:=?_))
 obtain ⟨x,hx⟩:=ZY (xs:=xs) (i:=k) om
 obtain ⟨bb3,oo3,rfl⟩:=ha.base hx
 obtain ⟨_,⟨rfl,hb4⟩,hc4⟩:=ha.elem hx
 refine aIx 2 rfl Tryz.underlying43 sz9 (h:=aT 3 rfl (Zab fun D=>Zr rfl rfl lk9 rfl (hc4 _ 0 _ rfl) r4) (h:=aT 4 rfl (Zab fun D=>Zaf rfl rfl Zs1 rfl (Zb7 _ om2 _) r4) (h:=?_)))
 refine aN 5 rfl (h:=aM 6 rfl (h:=Zav (d:=16) rfl (fun g2=>?_) (fun g2=>?_)))
 try simp only [sQ,ne_eq] at g2
 refine aZ 7 rfl (h:=aZ 8 rfl (h:=aZ 9 rfl (h:=aZ 10 rfl (h:=aZ 11 rfl (h:=aZ 12 rfl (h:=aZ 13 rfl (h:=aZ 14 rfl (h:=aPT 15 rfl (h:=ZA kr kr ?_)))))))))
 refine Zd (Zc (t:=true) rfl (fun _=>Za (xA (h:=Zh (ZD (Zq (ZP (ZD (Zq ?_)))))))) (fun h=>Bool.noConfusion h))
 exact ZB .ret (.inl rfl) [_] t1 ⟨Zg (Zgo hx g2),rfl,rfl⟩
 try simp only [sQ,ne_eq] at g2
 refine aM 7 rfl (h:=aM 8 rfl (h:=?_))
 obtain ⟨hq6,q6,cp6,hv6,hr6⟩:=ha.cutE 0 k om om
 have hr6n:=hr6.len
 refine aT 9 rfl (Zab fun D=>Znx (a:=0) (b:=k) hv6 om hq6 rfl rfl Tryz.underlying43 sz9 rfl rfl ⟨_,_,rfl,by first | omega | (simp;done) | (simp;omega)⟩ r4) (h:=?_)
 refine aM 10 rfl (h:=aM 11 rfl (h:=aIx 12 rfl Tryz.underlying43 sz9 (h:=aT 13 rfl (Zab fun D=>Zr rfl rfl lk9 rfl (hc4 _ 0 _ rfl) r4) (h:=aT 14 rfl (Zab fun D=>Zaf rfl rfl ZwK rfl (Zqy _ _ _ _ _ hr6) r4) (h:=aPF 15 rfl (h:=ZA kr kr ?_))))))
 refine Zd (Zc rfl (fun g3=>?_) (fun g3=>?_))
 try simp only [sQ,ne_eq] at g3
 refine Za (xA (h:=Zh (ZD (Zq (ZP (ZD (Zq ?_)))))))
 exact ZB .ret (.inl rfl) [_] t1 ⟨Zg (Zgn hx (by simpa using g3)),rfl,rfl⟩
 try simp only [sQ,ne_eq] at g3
 refine Zf (ZS (Zd (Zk (xM (h:=xD (h:=xA (h:=?_)))))))
 exact ZG (k+1) [] so2 ⟨rfl,oz,Zhv hx g2 hv,Zog hx hn (by simpa using g3)⟩ t2 rfl
 try simp only [sQ,ne_eq] at g1
 refine ZH (Z0 (ZM (Zx (Zd (Za (xM (h:=xV Tryz.underlying43 (h:=Zb3 (h:=xA (h:=Zh ?_))))))))))
 exact ZB .ret (.inl rfl) [_] t1 ⟨Zg (ZgY oz hv hn),rfl,rfl⟩

set_option maxHeartbeats 400000 in
theorem Zji (q:Option Addr) (cp:Nat) (x:DLetter) (B:Kn) (ha:SlK B q cp 1 Zc5 x.to_) (h1:x.fr.length≤2000000) (h2:x.text.length≤2000000):Z9 (pj J) 56 [.agg #[str x.fr,.slice q x.to_.length cp,str x.text]] B (.bool (ZcD x)):=by
 refine Zb 23 Tryz.func56 rfl rfl rfl (Nat.le_of_ble_eq_true rfl) ?_
 refine Za (xBx [_,_,_] (h:=fun b1=>xA (h:=ZE [_] rfl (Za (xW ZrD (h:=x1 lk9 0 (h:=xR Zs1 rfl (Zb7 _ om2 _) (h:=?_))))))))
 refine xM (h:=Zw (d:=6) rfl (fun g1=>?_) (fun g1=>?_))
 try simp only [sQ,ne_eq] at g1
 refine xW ZoM (h:=x1 ZkP 0 (h:=xR ZwT rfl (ZmN _ _ _ _ ha) (h:=xT (h:=xM (h:=Zw (d:=11) rfl (fun g2=>?_) (fun g2=>?_))))))
 try simp only [sQ,ne_eq] at g2
 refine xW ZoM (h:=x1 ZkP 0 (h:=xV Tryz.underlying43 (h:=ZcL (h:=xT (h:=xM (h:=Zw (d:=17) rfl (fun g3=>?_) (fun g3=>?_)))))))
 try simp only [sQ,ne_eq] at g3
 refine xW ZrC (h:=x1 lk9 0 (h:=xVs Tryz.underlying9 (h:=Zb3 (h:=xT (h:=xA (h:=Zh ?_))))))
 exact ZB .ret (.inl rfl) [_] t1 ⟨Zg (by rw [Bool.eq_iff_iff];simp [ZcD,g1,g2,g3];try omega),rfl,rfl⟩
 try simp only [sQ,ne_eq] at g3
 refine xP (h:=xP (h:=xP (h:=xP (h:=xF (h:=xA (h:=Zh ?_))))))
 exact ZB .ret (.inl rfl) [_] t1 ⟨Zg (by rw [Bool.eq_iff_iff];simp [ZcD,g1,g2,g3];try omega),rfl,rfl⟩
 try simp only [sQ,ne_eq] at g2
 refine xP (h:=xP (h:=xP (h:=xP (h:=xF (h:=xM (h:=xP (h:=xP (h:=xP (h:=xP (h:=xF (h:=xA (h:=Zh ?_))))))))))))
 exact ZB .ret (.inl rfl) [_] t1 ⟨Zg (by rw [Bool.eq_iff_iff];simp [ZcD,g1,g2];try omega),rfl,rfl⟩
 try simp only [sQ,ne_eq] at g1
 refine xP (h:=xP (h:=xP (h:=xF (h:=xM (h:=xP (h:=xP (h:=xP (h:=xP (h:=xF (h:=xM (h:=xP (h:=xP (h:=?_)))))))))))))
 refine xP (h:=xP (h:=xF (h:=xA (h:=Zh ?_))))
 exact ZB .ret (.inl rfl) [_] t1 ⟨Zg (by rw [Bool.eq_iff_iff];simp [ZcD,g1];try omega),rfl,rfl⟩

set_option maxHeartbeats 400000 in
theorem ZsA (q:Option Addr) (cp:Nat) (xs:List Str) (v:Str) (B:Kn) (ha:SlK B q cp 1 Zc5 xs):Z9 (pj J) 133 [.slice q xs.length cp,str v] B (.int .i64 (ZvC xs v)):=by
 refine Zb 19 Tryz.func133 rfl rfl rfl (Nat.le_of_ble_eq_true rfl) ?_
 have han:=ha.len
 refine Za (xA (h:=Ze (Za (xM (h:=xV Tryz.underlying43 (h:=xM (h:=Zl (ZC (α:=Nat) [0,1,7] (fun k=>[(8,.int .i64 k)]) [] (fun k=>[]) (fun k Bx=>Bx=B∧k≤xs.length∧∀x,x∈xs.take k→decide (x=v)=false) (fun k=>xs.length - k) 0 t1 rfl (⟨rfl,Nat.zero_le _,by simp⟩) (fun k B1 hle1 hI=>?_)))))))))
 obtain ⟨rfl,hk,hn⟩:=hI
 refine ZF [(0,_),(1,_),(7,_),(8,_)] [] t4 rfl (Za (ZJ (h:=Ze (Zc rfl (fun g1=>?_) (fun g1=>?_)))))
 try simp only [sQ,ne_eq] at g1
 refine Zf (Zd (Ze (Zl (Za (xM (h:=xA (h:=Za (xM (h:=xM (h:=xM (h:=?_)))))))))))
 obtain ⟨x,hx⟩:=ZY (xs:=xs) (i:=k) om
 obtain ⟨bb3,oo3,rfl⟩:=ha.base hx
 obtain ⟨_,⟨rfl,hb4⟩,hc4⟩:=ha.elem hx
 refine xIx Tryz.underlying43 sz9 (h:=y1 lk9 hc4 0 (h:=Zdp (h:=Zc rfl (fun g2=>?_) (fun g2=>?_))))
 try simp only [sQ,ne_eq] at g2
 refine Za (xM (h:=xA (h:=Zh (ZD (Zq (ZP (ZD (Zq ?_))))))))
 exact ZB .ret (.inl rfl) [_] t1 ⟨ZI (ZgC hx (by simp [g2]) hn).symm,rfl,rfl⟩
 try simp only [sQ,ne_eq] at g2
 refine Zf (ZS (Zd (Zk (xD (h:=xM (h:=?_))))))
 exact ZG (k+1) [] so2 ⟨rfl,oz,Za7 hx hn (by simp [Ne.symm g2])⟩ t4 rfl
 try simp only [sQ,ne_eq] at g1
 refine ZH (Z0 (ZM (Zx (Zd (Za (xA (h:=Zh ?_)))))))
 exact ZB .ret (.inl rfl) [_] t1 ⟨ZI (Zek (Zbf oz hn)).symm,rfl,rfl⟩

set_option maxHeartbeats 400000 in
theorem Zm6 (q:Option Addr) (cp:Nat) (xs:List Str) (v:Str) (B:Kn) (ha:SlK B q cp 1 Zc5 xs):Z9 (pj J) 164 [.slice q xs.length cp,str v] B (.bool (decide (v∈xs))):=by
 refine Zb 9 Tryz.func164 rfl rfl rfl (Nat.le_of_ble_eq_true rfl) ?_
 refine Za (xA (h:=Za (xM (h:=xM (h:=xR ZwI rfl (ZsA _ _ _ _ _ ha) (h:=Zd6 (h:=xA (h:=Zh ?_))))))))
 exact ZB .ret (.inl rfl) [_] t1 ⟨Zg (by rw [Bool.eq_iff_iff];simp [ZqE]),rfl,rfl⟩

set_option maxHeartbeats 400000 in
theorem Zkx (q:Option Addr) (cp:Nat) (xs:List Str) (B:Kn) (ha:SlK B q cp 1 Zc5 xs):Z9 (pj J) 116 [.slice q xs.length cp] B (.bool (decide (1≤xs.length) && ZcU xs)):=by
 refine Zb 31 Tryz.func116 rfl rfl rfl (Nat.le_of_ble_eq_true rfl) ?_
 have han:=ha.len
 refine Za (xA (h:=Ze (Za (xM (h:=xV Tryz.underlying43 (h:=ZJ (h:=xM (h:=Zw (d:=8) rfl (fun g1=>?_) (fun g1=>?_)))))))))
 try simp only [sQ,ne_eq] at g1
 refine xP (h:=xP (h:=xP (h:=xT (h:=Zc (t:=true) rfl (fun _=>Za (xA (h:=Zh (Zq ?_)))) (fun h=>Bool.noConfusion h)))))
 exact ZB .ret (.inl rfl) [_] t1 ⟨Zg (by simp;omega),rfl,rfl⟩
 try simp only [sQ,ne_eq] at g1
 refine xM (h:=xV Tryz.underlying43 (h:=ZcL (h:=xF (h:=Zc rfl (fun g2=>?_) (fun g2=>?_)))))
 try simp only [sQ,ne_eq] at g2
 refine Za (xA (h:=Zh (Zq ?_)))
 exact ZB .ret (.inl rfl) [_] t1 ⟨Zg (by simp [ZcU];omega),rfl,rfl⟩
 try simp only [sQ,ne_eq] at g2
 refine Zf (Zd (Ze (Za (xM (h:=xV Tryz.underlying43 (h:=xM (h:=Zl (ZC (α:=Nat) [0,12,13,14] (fun k=>[(15,.int .i64 k)]) [] (fun k=>[]) (fun k Bx=>Bx=B∧k≤xs.length∧(xs.take k).all Zam=true∧(xs.take k).Nodup) (fun k=>xs.length - k) 0 t1 rfl (⟨rfl,Nat.zero_le _,by simp,by simp⟩) (fun k B1 hle1 hI=>?_)))))))))
 obtain ⟨rfl,hk,hv,hn⟩:=hI
 refine ZF [(0,_),(12,_),(13,_),(14,_),(15,_)] [] t5 rfl (Za (ZJ (h:=Ze (Zc rfl (fun g3=>?_) (fun g3=>?_)))))
 try simp only [sQ,ne_eq] at g3
 refine Zf (Zd (Ze (Zl (Za (xM (h:=?_))))))
 obtain ⟨x,hx⟩:=ZY (xs:=xs) (i:=k) om
 obtain ⟨bb3,oo3,rfl⟩:=ha.base hx
 obtain ⟨_,⟨rfl,hb4⟩,hc4⟩:=ha.elem hx
 refine xIx Tryz.underlying43 sz9 (h:=y1 lk9 hc4 0 (h:=xA (h:=xA (h:=Za (xM (h:=xR ZrK rfl (ZbL _ om2 _) (h:=?_)))))))
 refine xN (h:=xM (h:=Zw (d:=23) rfl (fun g4=>?_) (fun g4=>?_)))
 try simp only [sQ,ne_eq] at g4
 refine xP (h:=xP (h:=xP (h:=xP (h:=xP (h:=xT (h:=Zc (t:=true) rfl (fun _=>Za (xA (h:=Zh (ZD (Zq (ZP (ZD (Zq ?_)))))))) (fun h=>Bool.noConfusion h)))))))
 exact ZB .ret (.inl rfl) [_] t1 ⟨Zg (by rw [← Zgo hx g4,Bool.and_false]),rfl,rfl⟩
 try simp only [sQ,ne_eq] at g4
 refine xM (h:=xM (h:=?_))
 obtain ⟨hq6,q6,cp6,hv6,hr6⟩:=ha.cutE 0 k om om
 have hr6n:=hr6.len
 refine Zp (Znx (a:=0) (b:=k) hv6 om hq6 rfl rfl Tryz.underlying43 sz9 rfl rfl ⟨_,_,rfl,by first | omega | (simp;done) | (simp;omega)⟩ ?_)
 refine xM (h:=xR Zwj rfl (Zm6 _ _ _ _ _ hr6) (h:=xF (h:=Zc rfl (fun g5=>?_) (fun g5=>?_))))
 try simp only [sQ,ne_eq] at g5
 refine Za (xA (h:=Zh (ZD (Zq (ZP (ZD (Zq ?_)))))))
 exact ZB .ret (.inl rfl) [_] t1 ⟨Zg (by rw [← Zgn hx (by simpa using g5),Bool.and_false]),rfl,rfl⟩
 try simp only [sQ,ne_eq] at g5
 refine Zf (ZS (Zd (Zk (xD (h:=xM (h:=?_))))))
 exact ZG (k+1) [] so2 ⟨rfl,oz,Zhv hx g4 hv,Zog hx hn (by simpa using g5)⟩ t5 rfl
 try simp only [sQ,ne_eq] at g3
 refine ZH (Z0 (ZM (Zx (Zd (Za (xA (h:=Zh ?_)))))))
 exact ZB .ret (.inl rfl) [_] t1 ⟨Zg (by rw [← ZgY oz hv hn];simp;omega),rfl,rfl⟩

set_option maxHeartbeats 400000 in
theorem ZjL (q:Option Addr) (cp:Nat) (x:DLetter) (B:Kn) (ha:SlK B q cp 1 Zc5 x.to_) (h1:x.fr.length≤2000000) (h2:x.text.length≤2000000):Z9 (pj J) 60 [.agg #[str x.fr,.slice q x.to_.length cp,str x.text]] B (.bool (ZcD x)):=by
 refine Zb 17 Tryz.func60 rfl rfl rfl (Nat.le_of_ble_eq_true rfl) ?_
 refine Za (xBx [_,_,_] (h:=fun b1=>xA (h:=ZE [_] rfl (Za (xW ZrD (h:=x1 lk9 0 (h:=xR ZrK rfl (ZbL _ om2 _) (h:=?_))))))))
 refine xM (h:=Zw (d:=6) rfl (fun g1=>?_) (fun g1=>?_))
 try simp only [sQ,ne_eq] at g1
 refine xW ZoM (h:=x1 ZkP 0 (h:=xR ZwS rfl (Zkx _ _ _ _ ha) (h:=xT (h:=xM (h:=Zw (d:=11) rfl (fun g2=>?_) (fun g2=>?_))))))
 try simp only [sQ,ne_eq] at g2
 refine xW ZrC (h:=x1 lk9 0 (h:=xVs Tryz.underlying9 (h:=Zb3 (h:=xT (h:=xA (h:=Zh ?_))))))
 exact ZB .ret (.inl rfl) [_] t1 ⟨Zg (by rw [Zeg];simp [g1,g2]),rfl,rfl⟩
 try simp only [sQ,ne_eq] at g2
 refine xP (h:=xP (h:=xP (h:=xP (h:=xF (h:=xA (h:=Zh ?_))))))
 exact ZB .ret (.inl rfl) [_] t1 ⟨Zg (by rw [Zeg];simp [g1,g2]),rfl,rfl⟩
 try simp only [sQ,ne_eq] at g1
 refine xP (h:=xP (h:=xP (h:=xF (h:=xM (h:=xP (h:=xP (h:=xP (h:=xP (h:=xF (h:=xA (h:=Zh ?_)))))))))))
 exact ZB .ret (.inl rfl) [_] t1 ⟨Zg (by rw [Zeg];simp [g1]),rfl,rfl⟩

set_option maxHeartbeats 400000 in
theorem Zku (aq:Option Addr) (cq:Nat) (q:DQueue) (B:Kn) (hq:SlK B aq cq 4 Zu q.items):Z9 (pj J) 87 [.agg #[.int .i64 q.next,.slice aq q.items.length cq]] B (.bool (ZaO q)):=by
 refine Zb 48 Tryz.func87 rfl rfl rfl (Nat.le_of_ble_eq_true rfl) ?_
 have hqn:=hq.len
 refine Za (xBx [_,_] (h:=fun b1=>xA (h:=ZE [_] rfl (Za (xA (h:=Ze (Za (xA (h:=Zl (ZC (α:=Nat × Int) [0,1] (fun p=>[(3,.int .i64 p.2),(4,.int .i64 p.1)]) [] (fun p=>[]) (fun p Bx=>Bx=B∧p.1≤q.items.length∧Zdq 0 q.items=Zdq p.2 (q.items.drop p.1)∧0≤p.2∧p.2≤99) (fun p=>q.items.length - p.1) (0,0) t2 rfl (⟨rfl,Nat.zero_le _,rfl,by decide,by decide⟩) (fun p B2 hle2 hI=>?_)))))))))))
 obtain ⟨rfl,hk,hs,hl0,hl1⟩:=hI
 refine ZF [(0,_),(1,_),(3,_),(4,_)] [_] t4 rfl (Ze (Za (xM (h:=xW Zbx (h:=x1 ZhY 0 (h:=xV Tryz.underlying32 (h:=ZJ (h:=Zc rfl (fun g1=>?_) (fun g1=>?_)))))))))
 try simp only [sQ,ne_eq] at g1
 refine Zf (Zd (Ze (Zl (Za (xW Zbx (h:=x1 ZhY 0 (h:=xM (h:=?_))))))))
 obtain ⟨x,hx⟩:=ZY (xs:=q.items) (i:=p.1) om
 obtain ⟨bb4,oo4,rfl⟩:=hq.base hx
 obtain ⟨_,⟨qi5,ci5,rfl,hi5,hb5,hb5b⟩,hc5⟩:=hq.elem hx
 have hi5n:=hi5.len
 refine xIx Tryz.underlying32 Zbg (h:=?_)
 replace hs:=ZnZ hs hx
 refine yL [_,_,_,_] Zef hc5 0 (h:=xAl [_,_,_,_] ZeH (h:=fun b6=>xS [_,_,_,_] 1 [_,_,_,_] Zbg (h:=ZE [_,_] rfl (Ze (Za (xW Zd0 (h:=x1 lk3 1 (h:=xM (h:=xD (h:=xR ZqY rfl (ZfE _ _ _ _) (h:=xN (h:=xM (h:=?_)))))))))))))
 refine Zw (d:=24) rfl (fun g2=>?_) (fun g2=>?_)
 try simp only [sQ,ne_eq] at g2
 refine xP (h:=xP (h:=xP (h:=xP (h:=xP (h:=xP (h:=xP (h:=xP (h:=xP (h:=xT (h:=Zc (t:=true) rfl (fun _=>Za (xA (h:=?_))) (fun h=>Bool.noConfusion h)))))))))))
 refine Zh (Zq (ZD (Zq (ZP (ZD (Zq ?_))))))
 exact ZB .ret (.inl rfl) [_] t1 ⟨Zg (ZlL (by rw [hs,if_neg];intro h;simp [h.1] at g2)),rfl,rfl⟩
 try simp only [sQ,ne_eq] at g2
 simp only [Bool.and_eq_true,decide_eq_true_eq] at g2
 refine xW ZdZ (h:=x1 lk9 1 (h:=xW Zcc (h:=x1 ZkP 1 (h:=xW Zff (h:=x1 lk9 1 (h:=xB [(0,_),(1,_),(2,_)] [_,_,_] [_,_,_] Zxe Zw7 (h:=xR Zx6 rfl (Zji _ _ ⟨x.fr,x.left,x.text⟩ _ hi5 oa oa) (h:=?_))))))))
 refine xN (h:=xF (h:=Zc rfl (fun g3=>?_) (fun g3=>?_)))
 try simp only [sQ,ne_eq] at g3
 refine Za (xA (h:=Zh (Zq (ZD (Zq (ZP (ZD (Zq ?_))))))))
 exact ZB .ret (.inl rfl) [_] t1 ⟨Zg (ZlL (by rw [hs,if_neg];intro h;rw [ZfF,g3] at h;cases h.2)),rfl,rfl⟩
 try simp only [sQ,ne_eq] at g3
 refine Zf (Zd (Zk (xW Zd0 (h:=x1 lk3 1 (h:=xA (h:=ZS (Zd (Zk (xM (h:=xD (h:=xA (h:=?_))))))))))))
 exact ZG (p.1+1,x.id) [0] so2 ⟨rfl,so,by rw [hs,if_pos ⟨g2,g3⟩],so,so⟩ t4 rfl
 try simp only [sQ,ne_eq] at g1
 rw [Zpg oz,Zdq] at hs
 refine ZH (Z0 (ZM (Zx (Zd (Za (xW ZfI (h:=x1 lk3 0 (h:=xM (h:=xD (h:=xR ZqY rfl (ZfE _ _ _ _) (h:=xM (h:=Zw (d:=42) rfl (fun g1=>?_) (fun g1=>?_)))))))))))))
 try simp only [sQ,ne_eq] at g1
 refine xW Zbx (h:=x1 ZhY 0 (h:=xV Tryz.underlying32 (h:=Zb3 (h:=xT (h:=xA (h:=Zh ?_))))))
 exact ZB .ret (.inl rfl) [_] t1 ⟨Zg (by rw [← ZlK hs,Bool.eq_iff_iff];simp [g1,g1];try omega),rfl,rfl⟩
 try simp only [sQ,ne_eq] at g1
 refine xP (h:=xP (h:=xP (h:=xP (h:=xF (h:=xA (h:=Zh ?_))))))
 exact ZB .ret (.inl rfl) [_] t1 ⟨Zg (by rw [← ZlK hs,Bool.eq_iff_iff];simp [g1,g1];try omega),rfl,rfl⟩

set_option maxHeartbeats 400000 in
theorem Zan (aq:Option Addr) (cq:Nat) (q:DQueue) (B:Kn) (hq:SlK B aq cq 4 Zu q.items):Zz (pj J) 91 [.agg #[.int .i64 q.next,.slice aq q.items.length cq]] B [] (fun v B' Ls=>∃l a cp,Ls=[l]∧v = .agg #[.int .i64 q.next,.slice a q.items.length cp]∧ZU (B'.less B) l a cp 126 4 Zu q.items):=by
 refine Zb 34 Tryz.func91 rfl rfl rfl (Nat.le_of_ble_eq_true rfl) ?_
 have hqn:=hq.len
 refine Za (xBx [_,_] (h:=fun b1=>xAl [_,_] ZpJ (h:=fun b2=>ZE [_,_] rfl (Za (xW ZfI (h:=x1 lk3 0 (h:=xBs [] [] Tryz.underlying32 Zbg ZeH (h:=fun b3=>xB [(0,_),(1,_)] [_,_] [_,_] Zxf ZpJ (h:=xAl [_,_] ZpJ (h:=fun b4=>xS [_,_] 3 [_,_] Zr7 (h:=ZE [_,_,_,_] rfl (Ze ?_))))))))))))
 refine Za (xA (h:=Zl (ZC (α:=Gh DItem) [0,1,2,3] (fun g=>[(4,.int .i64 g.k)]) [2,3] (fun g=>[g.l,Zae b4 [.int .i64 q.next,.slice g.a g.xs.length g.c] 34]) (fun g Bx=>g.k≤q.items.length∧g.xs=q.items.take g.k∧ZU (Bx.less B) g.l g.a g.c 126 4 Zu g.xs) (fun g=>q.items.length - g.k) ⟨0,0,_,_,_,[]⟩ t1 rfl (⟨Nat.zero_le _,rfl,.lit0⟩) (fun g B5 hle5 hI=>?_))))
 obtain ⟨hk,hxs,hv⟩:=hI
 have hxn:=congrArg List.length hxs
 rw [List.length_take] at hxn
 replace hq:=hq.mono Zu.mono hle5
 refine ZF [(0,_),(1,_),(2,_),(3,_),(4,_)] [_,_,_,_] t5 rfl (Ze (Za (xM (h:=xW Zbx (h:=x1 ZhY 0 (h:=xV Tryz.underlying32 (h:=ZJ (h:=Zc rfl (fun g1=>?_) (fun g1=>?_)))))))))
 try simp only [sQ,ne_eq] at g1
 refine Zf (Zd (Ze (Zl (Za (xW Zbx (h:=x1 ZhY 0 (h:=xM (h:=?_))))))))
 obtain ⟨x,hx⟩:=ZY (xs:=q.items) (i:=g.k) om
 obtain ⟨bb7,oo7,rfl⟩:=hq.base hx
 obtain ⟨_,⟨qi8,ci8,rfl,hi8,hb8,hb8b⟩,hc8⟩:=hq.elem hx
 have hi8n:=hi8.len
 refine xIx Tryz.underlying32 Zbg (h:=yL [_,_,_,_] Zef hc8 0 (h:=xAl [_,_,_,_] ZeH (h:=fun b9=>xS [_,_,_,_] 4 [_,_,_,_] Zbg (h:=ZE [_,_,_,_,_] rfl (Za (xBs [] [] Tryz.underlying43 sz9 zo9 (h:=fun b10=>xW Zcc (h:=x1 ZkP 4 (h:=Zp (Zb0 (R:=Zc5) 5 rfl (ZU.lit0 (R:=Zc5)) rfl rfl rfl Zur ZuS rfl rfl rfl hi8.rows Zc5.one rfl om (fun l11 p11 c11 hv11=>?_)))))))))))
 refine xW Zcc (h:=xS [_] 4 [_,_,_,_] Zvp (h:=ZE [_,_,_,_,_,_] rfl (Ztn 5 rfl hv11 Zc5.any om3 hle5 (fun B12 hle12 hr12f=>?_))))
 have hr12:=hr12f.mono Zc5.mono Kn.less_le
 replace hq:=hq.mono Zu.mono hle12
 replace hv:=hv.mono Zu.mono (Kn.less_mono hle12)
 have hr12n:=hr12.len
 refine Zk (xW Zbx (h:=x1 ZhY 3 (h:=xL [_,_,_,_] Zef 4 (h:=xBs [(0,_)] [_,_,_,_] Tryz.underlying32 Zbg ZeH (h:=fun b13=>Zp (Zi6 (z:=⟨x.id,x.fr,x.text,x.left⟩) (R:=Zu) 2 rfl hv rfl rfl rfl ZvG Zxb rfl rfl (Zcg.box 6 rfl) rfl rfl (⟨_,_,rfl,hr12f,by first | assumption | omega | (simp;done) | (simp;omega),by first | assumption | omega | (simp;done) | (simp;omega)⟩) om (fun l14 p14 c14 hv14=>?_)))))))
 refine xW Zbx (h:=xS [_] 3 [_,_] Zvq (h:=ZS (Zd (Zk (xM (h:=xD (h:=xA (h:=?_))))))))
 exact ZG ⟨g.k+1,0,l14,p14,c14,(g.xs ++ [⟨x.id,x.fr,x.text,x.left⟩])⟩ [0,1,2,3] so2 ⟨so,by simp only [];rw [Zbr hx,hxs],hv14⟩ t5 rfl
 try simp only [sQ,ne_eq] at g1
 have hxe:g.xs=q.items:=by rw [hxs];exact List.take_of_length_le oz
 refine ZH (Z0 (ZM (Zx (Zd (Za (xL [_,_] Zke 3 (h:=xS [_,_] 1 [_,_] Zr7 (h:=ZE [_,_,_,_] rfl (Zh ?_)))))))))
 exact Zbe .ret (.inl rfl) [_] [2] rfl ⟨⟨_,rfl,.inr ⟨[_,_],Zke,Zb1 1 rfl rfl rfl,rfl⟩⟩,trivial⟩ ⟨_,_,_,rfl,by rw [← hxe];rfl,hxe ▸ hv⟩

set_option maxHeartbeats 400000 in
theorem ZkW (q:Option Addr) (cp:Nat) (x:DItem) (B:Kn) (hx:SlK B q cp 1 Zc5 x.left):Zz (pj J) 119 [.agg #[.int .i64 x.id,str x.fr,str x.text,.slice q x.left.length cp]] B [] (fun v B' Ls=>B'=B∧∃ins a c,Ls=[ins]∧v = .agg #[.int .i64 x.id,str x.fr,str x.text,.slice a x.left.length c]∧ZpD 9 ins a c x.left):=by
 refine Zb 9 Tryz.func119 rfl rfl rfl (Nat.le_of_ble_eq_true rfl) ?_
 have hxn:=hx.len
 refine Za (xBx [_,_,_,_] (h:=fun b1=>xAl [_,_,_,_] ZeH (h:=fun b2=>ZE [_,_] rfl (Za (xBs [] [] Tryz.underlying43 sz9 zo9 (h:=fun b3=>xW Zcc (h:=x1 ZkP 0 (h:=Zp (Zb0 (R:=Zc5) 2 rfl (ZU.lit0 (R:=Zc5)) rfl rfl rfl Zur ZuS rfl rfl rfl hx.rows Zc5.one rfl om (fun l4 p4 c4 hv4=>?_))))))))))
 refine xW Zcc (h:=xS [_] 0 [_,_,_,_] Zvp (h:=ZE [_,_,_] rfl (Za (xL [_,_,_,_] Zef 0 (h:=xS [_,_,_,_] 1 [_,_,_,_] Zbg (h:=ZE [_,_,_] rfl (Zh ?_)))))))
 exact Zbe .ret (.inl rfl) [_] [2] rfl ⟨⟨_,rfl,.inr ⟨[_,_,_,_],Zef,Zb1 1 rfl rfl rfl,rfl⟩⟩,trivial⟩ ⟨rfl,_,_,_,rfl,rfl,(hv4).anyK Zc5.any⟩

set_option maxHeartbeats 400000 in
theorem Zm9 (q:Option Addr) (m cp:Nat) (B:Kn):Zz (pj J) 175 [.slice q m cp] B [] (fun v B' Ls=>B'=B∧∃b,Ls=[Zae b [.slice q m cp] 32]∧v = .func (.func 202) #[] #[ptr ⟨b,0,none⟩]):=by
 refine Zb 4 Tryz.func175 rfl rfl rfl (Nat.le_of_ble_eq_true rfl) ?_
 refine Za (xBx [_] (h:=fun b1=>xA (h:=ZE [_] rfl (Za (Zp (ZcG (xs:=[]) (ys:=[_]) rfl rfl rfl rfl (xA (h:=Zh ?_))))))))
 exact Zbe .ret (.inl rfl) [_] [0] rfl t1 ⟨rfl,_,rfl,rfl⟩

set_option maxHeartbeats 400000 in
theorem Ztc (l bc:Nat) (q:Option Addr) (cp:Nat) (xs:List DItem) (Inv:Nat→Kn→Cells→Prop) (s0:Cells) (B:Kn) (hq:SlK B q cp 4 Zu xs) (hcc:Zaq B bc 0 [.slice q xs.length cp]) (h0:Inv xs.length B s0) (hround :∀(j:Nat) (i:Int) (x:DItem) (row:List Value) (B':Kn) (s:Cells),B.le B'→Inv (j+1) B' s→xs[j]? = some x→Zu B' row x→∃lp,(l,Obj.loop lp)∈s∧lp.params.size=2∧ZpF (pj J) l lp.fn (Zj9 lp.params lp.tmps [.int .i64 i,.agg row.toArray]) lp.assign lp.body B' s (fun B'' s'=>Inv j B'' s')):Zz (pj J) 202 [.func (.yield l) #[] #[],ptr ⟨bc,0,none⟩] B [s0] (fun v B' Ls=>∃s,Ls=[s]∧Inv 0 B' s):=by
 refine Zb 19 Tryz.func202 rfl rfl rfl (Nat.le_of_ble_eq_true rfl) ?_
 have hqn:=hq.len
 refine Za (Zp (Zr rfl rfl ZhY rfl (hcc _ 0 _ rfl) (xV Tryz.underlying32 (h:=xU (h:=xA (h:=Zl (ZC (α:=Int × Cells) [0,1] (fun g=>[(3,.int .i64 g.1)]) [0] (fun g=>[g.2]) (fun g Bx=>-1≤g.1∧g.1<xs.length∧Inv (g.1+1).toNat Bx g.2) (fun g=>(g.1+1).toNat) ((xs.length:Int) - 1,s0) t1 rfl (⟨so,so,by rw [show ((xs.length:Int) - 1+1).toNat=xs.length from by omega];exact h0⟩) (fun g B1 hle1 hI=>?_))))))))
 obtain ⟨hk1,hk,hI⟩:=hI
 replace hq:=hq.mono Zu.mono hle1
 replace hcc:=hcc.mono hle1
 refine ZF [(0,_),(1,_),(3,_)] [_] t3 rfl (Ze (Za (xM (h:=Zd6 (h:=Zc rfl (fun g1=>?_) (fun g1=>?_))))))
 try simp only [sQ,ne_eq] at g1
 refine Zf (Zd (Ze (Zl (Za (xM (h:=xM (h:=Zp (Zr rfl rfl ZhY rfl (hcc _ 0 _ rfl) (xM (h:=?_))))))))))
 obtain ⟨x,hx⟩:=ZsG (xs:=xs) (i:=g.1) om om
 obtain ⟨bb3,oo3,rfl⟩:=hq.base hx
 obtain ⟨_,⟨qi4,ci4,rfl,hi4,hb4,hb4b⟩,hc4⟩:=hq.elem hx
 have hi4n:=hi4.len
 refine xIx Tryz.underlying32 Zbg (h:=?_)
 obtain ⟨lp,hl,hs,hr⟩:=hround g.1.toNat g.1 x _ _ g.2 (oy) (by rw [show g.1.toNat+1=(g.1+1).toNat from by omega];exact hI) hx ⟨_,_,rfl,oy,oy,oy⟩
 refine yL [_,_,_,_] Zef hc4 0 (h:=Zp (ZrW (j:=0) rfl hl rfl rfl rfl rfl hs.symm hr (fun Bc sc hlec hIc=>?_)))
 replace hq:=hq.mono Zu.mono hlec
 replace hcc:=hcc.mono hlec
 replace hi4:=hi4.mono Zc5.mono hlec
 replace hc4:=hc4.mono hlec
 refine xN (h:=ZE [_] rfl (Zc rfl (fun g2=>by cases g2) (fun g2=>?_)))
 try simp only [sQ,ne_eq] at g2
 refine Zf (ZS (Zd (Zk (xM (h:=xU (h:=xA (h:=?_)))))))
 exact ZG (g.1 - 1,sc) [0] so2 ⟨so,so,by simp only [];rw [show (g.1 - 1+1).toNat=g.1.toNat from by omega];exact hIc⟩ t3 rfl
 try simp only [sQ,ne_eq] at g1
 refine ZH (Z0 (ZM (Zx ?_)))
 exact Zbe .normal (.inr rfl) [] [0] rfl trivial ⟨_,rfl,by rw [show (g.1+1).toNat=0 from by omega] at hI;exact hI⟩

set_option maxHeartbeats 400000 in
theorem ZkA (q:Option Addr) (cp:Nat) (x:DQueue) (B:Kn) (hx:SlK B q cp 4 Zu x.items):Zz (pj J) 132 [.agg #[.int .i64 x.next,.slice q x.items.length cp]] B [] (fun v B' Ls=>∃s,Ls=[s]∧Zfn 9 171 v x.items s):=by
 refine Zj6 17 Tryz.func132 rfl rfl rfl (Nat.le_of_ble_eq_true rfl) ?_
 refine Zea (xBx [_,_] (h:=fun b1=>xA (h:=ZnL [(0,_),(1,_),(2,_)] [_] t3 rfl (Zea (xAl [_] Zu8 (h:=fun b2=>ZnL [(0,_),(1,_),(2,_),(3,_)] [_,_] t4 rfl (ZtI (Zea (xW Zbx (h:=x1 ZhY 0 (h:=Zp (ZV rfl rfl Zwc rfl (Zm9 _ _ _ _) ?_))))))))))))
 rintro _ B3 _ hle3 ⟨rfl,b3,rfl,rfl⟩
 refine ZnL [(0,_),(1,_),(2,_),(3,_),(8,_)] [_,_,_] t5 rfl (Zr5 (Zvm 2 rfl (fun B4 hle4 hm4=>?_)))
 replace hx:=hx.mono Zu.mono hle4
 have hcc:=ZaW hm4
 refine Zvl [1] rfl (ZpX (J:=fun B' L'=>∃v s,L'=[Zae b2 [v] 167,s]∧Zfn 9 171 v x.items s) (cap:=[_]) rfl ZvT (fun lp l hTn hTS hps hasg hbd hst hlp=>?_) (fun r B9 L9 hle9 hJ=>?_))
 refine Zz.mono (Ztc l _ _ _ x.items (fun j B9 s9=>∃v cells,s9.Perm ((l,Obj.loop lp) :: (Zae b2 [v] 167 ++ cells))∧Zfn 9 171 v (x.items.drop j) cells) _ _ hx hcc ⟨.pointer none,[],by simp,by rw [List.drop_length];exact ⟨rfl,rfl⟩⟩ ?_) ?_
 rintro j i y row B9 s9 hle9 ⟨v,cells,hp,hl⟩ hy hrow
 obtain ⟨qy,cy,rfl,hy5,hy6,hy7⟩:=hrow
 have hy5n:=hy5.len
 obtain ⟨p9,rfl⟩:=hl.ptr
 obtain ⟨hA,hN⟩:=Zrc (a:=9) (b:=10) (x:=.int .i64 i) (y:=.agg #[.int .i64 y.id,str y.fr,str y.text,.slice qy y.left.length cy]) hTS hTn rfl rfl
 refine ⟨lp,hp.mem_iff.2 (List.mem_cons_self ..),by rw [hps];rfl,?_⟩
 rw [hps,hasg,hbd]
 refine Zn1 (L:=[Zae b2 [.pointer p9] 167,cells]) (lp:=lp) hN [(3,_),(9,_),(10,_)] (hA.sub t3) (by simpa using hp) hst ?_
 refine Zk (xAl [_,_,_,_] ZeH (h:=fun b4=>xS [_,_,_,_] 3 [_,_,_,_] Zbg (h:=⟨rfl,rfl,rfl,(ZE [_,_,_,_] rfl (Zl (Z8 (keeps _ [1,3] _) mo kr ⟨Kn.le.refl _,ZbU.refl _ _⟩ (fun _ _=>?_))))⟩)))
 refine aT 0 rfl (Z5 fun D B L hI=>Zaj [_,_,_,_] rfl rfl Zef rfl (Zb1 3 (hI.2.2.1.trans rfl) rfl rfl) r4) (h:=aT 2 rfl (Z5 fun D B L hI=>Zr rfl rfl Zss rfl (atL 1 (hI.2.1.trans rfl) rfl rfl) r4) (h:=ZN 1 kr rfl kr (ZV rfl rfl ZwP rfl (ZkW _ _ y _ hy5) ?_)))
 rintro _ B5 _ hle5 ⟨rfl,ins5,a5,c5,rfl,rfl,hs5⟩
 refine ⟨⟨Kn.le.refl _,t2⟩,(aT 3 rfl (Z5 fun D B L hI=>Zay (parts:=[(0,_),(1,_)]) [_,_,_,_,_] [_,_,_,_,_] rfl rfl Zvv Zu7 rfl rfl rfl r4) (h:=ZN 4 kr rfl kr (ZtD (l:=[_,_,_,_,_]) rfl rfl rfl rfl (fun b6=>?_))))⟩
 refine ⟨⟨Kn.le.refl _,t2⟩,(Zap 5 kr rfl kr kr kr (Z4 [_] 1 [_] rfl rfl Zvs rfl rfl rfl rfl rfl rfl rfl rfl ?_))⟩
 refine ZS (⟨rfl,rfl,(l,Obj.loop lp) :: (Zae b2 [ptr ⟨b6,0,none⟩] 167 ++ (Zae b6 ([.int .i64 y.id,str y.fr,str y.text,.slice a5 y.left.length c5] ++ [.pointer p9]) 171 ++ (ins5 ++ cells))),Zae b4 [.int .i64 y.id,str y.fr,str y.text,.slice qy y.left.length cy] 126,?_,_,_,.refl _,?_⟩)
 refine (Zag [0,1,5,4,2] _ _ _ rfl).trans ?_
 rw [hlp]
 simp [Zae]
 rw [Zpf hy]
 exact ⟨_,_,_,_,_,rfl,.refl _,⟨_,_,rfl,hs5,oy,oy,oy⟩,hl⟩
 rintro _ B9 _ hle9 ⟨s9,rfl,v,cells,hp,hl⟩
 exact ⟨[Zae b2 [v] 167,cells],_,rfl,by simpa using hp,v,cells,rfl,by simpa using hl⟩
 obtain ⟨v,s9,rfl,hl⟩:=hJ
 refine ZS (Zd (Za (x1 Zss 0 (h:=xA (h:=ZE [_,_,_] rfl (Zh ?_))))))
 exact ⟨.inl rfl,r,2,rfl,rfl,[_],[_],t1,⟨_,List.perm_append_comm⟩,_,rfl,hl⟩

set_option maxHeartbeats 400000 in
theorem Zn6 (nx:Int) (v:Value) (xs:List DItem) (cells:Cells) (B:Kn) (hn:xs.length≤2000000) (hv:Zfn 9 171 v xs cells):Zz (pj J) 135 [.int .i64 nx,v] B [cells] (fun v B' Ls=>B'=B∧∃l q c,Ls=[l]∧v = .agg #[.int .i64 nx,.slice q xs.length c]∧ZaM l q c 126 4 (ZaP 9) xs):=by
 refine Zb 27 Tryz.func135 rfl rfl rfl (Nat.le_of_ble_eq_true rfl) ?_
 obtain ⟨p,rfl⟩:=hv.ptr
 refine Za (xAl [_,_] ZpJ (h:=fun b1=>ZE [_,_] rfl (Za (xM (h:=xBs [] [] Tryz.underlying32 Zbg ZeH (h:=fun b2=>xB [(0,_),(1,_)] [_,_] [_,_] Zxf ZpJ (h:=xAl [_,_] ZpJ (h:=fun b3=>xS [_,_] 3 [_,_] Zr7 (h:=ZE [_,_,_,_] rfl (Ze (Za (xM (h:=?_)))))))))))))
 refine xA (h:=Zl (ZC (α:=QOf) [0,1,4,5] (fun g=>[(6,.pointer g.p)]) [0,2,3] (fun g=>[g.cells,g.l,Zae b3 [.int .i64 nx,.slice g.q g.ys.length g.c] 34]) (fun g Bx=>Bx=B∧g.ys ++ g.xs=xs∧ZaM g.l g.q g.c 126 4 (ZaP 9) g.ys∧Zfn 9 171 (.pointer g.p) g.xs g.cells) (fun g=>g.xs.length) ⟨p,[],xs,_,_,_,_⟩ t1 rfl (⟨rfl,rfl,.lit0,hv⟩) (fun g B4 hle4 hI=>?_)))
 obtain ⟨rfl,hxs,hvd,hl⟩:=hI
 refine ZF [(0,_),(1,_),(4,_),(5,_),(6,_)] [_,_,_,_] t5 rfl (Ze (Za (xM (h:=Zp (Zrr rfl rfl rfl rfl rfl (ZgD Tryz.underlying167) (Zc rfl (fun g1=>?_) (fun g1=>?_)))))))
 try simp only [sQ,ne_eq] at g1
 obtain ⟨y,ys,b8,q8,c8,np,ins8,rest8,hp8,hrest,hperm,hy5,hy6,hy7,hy8,hl8⟩:=hl.more (by simpa using g1)
 rw [hp8]
 have hlen:=congrArg List.length hxs
 rw [List.length_append,hrest,List.length_cons] at hlen
 replace hlen:g.ys.length+1≤2000000:=by omega
 refine ZeY 0 rfl hperm (ZE [_,_,_,_,_,_] rfl (Zf (Zd (Ze (Zl (Z8 (keeps _ [0,3] _) mo kr ⟨Kn.le.refl _,ZbU.refl _ _⟩ (fun _ _=>?_)))))))
 refine aW 0 rfl Zbx (h:=aT 1 rfl (Z5 fun D B L hI=>Zr rfl rfl ZhY rfl (atL 3 (hI.2.2.1.trans rfl) rfl rfl) r4) (h:=aM 2 rfl (h:=aNc 3 rfl (h:=aW 4 rfl ZsO (h:=aT 5 rfl (Z5 fun D B L hI=>Zaj [_,_,_,_] rfl rfl Zef rfl (Zb1 0 (hI.2.1.trans rfl) rfl rfl) r4) (h:=ZN 6 kr rfl kr (ZL (parts:=[(0,_)]) [_,_,_,_] rfl rfl Tryz.underlying32 Zbg ZeH rfl rfl rfl rfl rfl (fun b5=>?_))))))))
 refine ⟨⟨Kn.le.refl _,t2⟩,(ZN 7 kr rfl kr (ZtE (R:=ZaP 9) (z:=y) 2 4 rfl rfl rfl hvd rfl rfl rfl ZvG Zxb rfl rfl (Zcg.box 6 rfl) rfl rfl ⟨_,_,rfl,hy5,hy6,hy7,hy8⟩ oz (fun l9 q9 c9 hv9=>?_)))⟩
 refine ⟨⟨Kn.le.refl _,t2⟩,(aW 8 rfl Zbx (h:=Zap 9 kr rfl kr kr kr (Z4 [_] 3 [_,_] rfl rfl Zvq rfl rfl rfl rfl rfl rfl rfl rfl ?_)))⟩
 refine ZS (Zd (Zk (xM (h:=xNc (h:=xW ZsN (h:=x1 Zss 0 (h:=xA (h:=?_))))))))
 exact ZG ⟨np,g.ys ++ [y],ys,l9,q9,c9,rest8⟩ [5,1,2,3] (by rw [hrest];simp) ⟨rfl,by rw [← hxs,hrest];simp,hv9,hl8⟩ t5 rfl
 try simp only [sQ,ne_eq] at g1
 rw [hl.done (by simpa using g1),List.append_nil] at hxs
 subst hxs
 refine ZH (Z0 (ZM (Zx (Zd (Za (xL [_,_] Zke 3 (h:=xS [_,_] 1 [_,_] Zr7 (h:=ZE [_,_,_,_] rfl (Zh ?_)))))))))
 exact Zbe .ret (.inl rfl) [_] [2] rfl ⟨⟨_,rfl,.inr ⟨[_,_],Zke,Zb1 1 rfl rfl rfl,rfl⟩⟩,trivial⟩ ⟨rfl,_,_,_,rfl,rfl,hvd⟩

set_option maxHeartbeats 400000 in
theorem Zjp (q:Option Addr) (cp:Nat) (x:DQueue) (B:Kn) (hx:SlK B q cp 4 Zu x.items):Zz (pj J) 118 [.agg #[.int .i64 x.next,.slice q x.items.length cp]] B [] (fun v B' Ls=>∃l q c,Ls=[l]∧v = .agg #[.int .i64 x.next,.slice q x.items.length c]∧ZaM l q c 126 4 (ZaP 9) x.items):=by
 refine Zb 8 Tryz.func118 rfl rfl rfl (Nat.le_of_ble_eq_true rfl) ?_
 have hxn:=hx.len
 refine Za (xBx [_,_] (h:=fun b1=>xAl [_,_] ZpJ (h:=fun b2=>ZE [_,_] rfl (Ze (Z8 (keeps _ [0] _) mo kr ⟨Kn.le.refl _,ZbU.refl _ _⟩ (fun _ _=>?_))))))
 refine aW 0 rfl ZfI (h:=aT 1 rfl (Z5 fun D B L hI=>Zr rfl rfl lk3 rfl (atL 0 (hI.2.1.trans rfl) rfl rfl) r4) (h:=aT 2 rfl (Z5 fun D B L hI=>Zaj [_,_] rfl rfl Zke rfl (Zb1 0 (hI.2.1.trans rfl) rfl rfl) r4) (h:=ZN 3 kr rfl kr (ZV rfl rfl ZwJ rfl (ZkA _ _ x _ hx) ?_))))
 rintro _ B3 _ hle3 ⟨sl3,rfl,hl3⟩
 replace hx:=hx.mono Zu.mono hle3
 refine ⟨⟨hle3,t1⟩,(ZN 4 kr rfl kr (ZaI [2] rfl rfl rfl rfl ZwH rfl (Zn6 _ _ _ _ _ oa hl3) ?_))⟩
 rintro _ B4 _ hle4 ⟨rfl,ld4,ad4,cd4,rfl,rfl,hd4⟩
 refine ⟨⟨hle3,t1⟩,(Zap 5 kr rfl kr kr kr (Z4 [_,_] 1 [_,_] rfl rfl Zr7 rfl rfl rfl rfl rfl rfl rfl rfl ?_))⟩
 refine Zd (ZE [_,_,_] rfl (Zh ?_))
 exact Zbe .ret (.inl rfl) [_] [2] rfl ⟨⟨_,rfl,.inr ⟨[_,_],Zke,Zb1 1 rfl rfl rfl,rfl⟩⟩,trivial⟩ ⟨_,_,_,rfl,rfl,hd4⟩

set_option maxHeartbeats 400000 in
theorem ZoD (q:Option Addr) (m cp:Nat) (B:Kn):Z9 (pj J) 283 [.slice q m cp] B (.int .i64 m):=by
 refine Zb 5 Tryz.func283 rfl rfl rfl (Nat.le_of_ble_eq_true rfl) ?_
 refine Za (xA (h:=Za (xM (h:=xV Tryz.underlying253 (h:=xA (h:=Zh ?_))))))
 exact ZB .ret (.inl rfl) [_] t1 ⟨rfl,rfl,rfl⟩

set_option maxHeartbeats 400000 in
theorem ZfH (q:Option Addr) (cp:Nat) (xs:List Int) (i j:Nat) (a b:Int) (hi:xs[i]? = some a) (hj:xs[j]? = some b) (B:Kn) (hx:SlK B q cp 1 Zdo xs):Z9 (pj J) 284 [.slice q xs.length cp,.int .i64 i,.int .i64 j] B (.bool (decide (a<b))):=by
 refine Zb 16 Tryz.func284 rfl rfl rfl (Nat.le_of_ble_eq_true rfl) ?_
 have hil:=Zbu hi
 have hjl:=Zbu hj
 refine Za (xA (h:=Ze (Z8 (same _ _) mo kr ⟨rfl,rfl⟩ (fun _ _=>?_))))
 refine aM 0 rfl (h:=aM 1 rfl (h:=?_))
 obtain ⟨z,hz⟩:=ZY (xs:=xs) (i:=i) om
 obtain ⟨bb2,oo2,rfl⟩:=hx.base hz
 obtain ⟨_,rfl,hc3⟩:=hx.elem hz
 refine aIx 2 rfl Tryz.underlying252 sz3 (h:=aT 3 rfl (Zab fun D=>Zr rfl rfl lk3 rfl (hc3 _ 0 _ rfl) r4) (h:=aM 4 rfl (h:=aM 5 rfl (h:=?_))))
 obtain ⟨w,hw⟩:=ZY (xs:=xs) (i:=j) om
 obtain ⟨_,rfl,hc5⟩:=hx.elem hw
 refine aIx 6 rfl Tryz.underlying252 sz3 (h:=?_)
 rw [hi] at hz
 cases hz
 rw [hj] at hw
 cases hw
 refine aT 7 rfl (Zab fun D=>Zr rfl rfl lk3 rfl (hc5 _ 0 _ rfl) r4) (h:=Zrg 8 rfl (h:=aA 9 rfl (h:=ZA kr kr ?_)))
 refine Zd (Zh ?_)
 exact ZB .ret (.inl rfl) [_] t1 ⟨rfl,rfl,rfl⟩

set_option maxHeartbeats 400000 in
theorem ZqG (b:Nat) (q:Option Addr) (cp:Nat) (xs:List Int) (l:Cells) (z:Int) (hn:xs.length≤2000000) (B:Kn) (hv:ZU B l q cp 3 1 Zdo xs):Zz (pj J) 286 [ptr ⟨b,0,none⟩,.iface 3 (.int .i64 z)] B [Zae b [.slice q xs.length cp] 253,l] (fun v B' Ls=>B'=B∧∃q' c' l',Ls=[Zae b [.slice q' (xs ++ [z]).length c'] 253,l']∧ZU B l' q' c' 3 1 Zdo (xs ++ [z])):=by
 refine Zb 13 Tryz.func286 rfl rfl rfl (Nat.le_of_ble_eq_true rfl) ?_
 refine Z8 (keeps _ [0] _) mo kr ⟨Kn.le.refl _,ZbU.refl _ _⟩ (fun _ _=>?_)
 refine aM 0 rfl (h:=aM 1 rfl (h:=aNc 2 rfl (h:=aT 3 rfl (Z5 fun D B L hI=>Zr rfl rfl ZeJ rfl (atL 0 (hI.2.1.trans rfl) rfl rfl) r4) (h:=aM 4 rfl (h:=aT 5 rfl (Z5 fun D B L hI=>Zi5 rfl rfl Tryz.underlying3 rfl rfl r4) (h:=ZN 6 kr rfl kr (ZL (parts:=[(0,_)]) [_] rfl rfl Tryz.underlying252 sz3 zo3 rfl rfl rfl rfl rfl (fun b1=>?_))))))))
 refine ⟨⟨Kn.le.refl _,t1⟩,(ZN 7 kr rfl kr (Zi6 (z:=z) (R:=Zdo) 1 rfl hv rfl rfl rfl ZvH Zvt rfl rfl (Zcg.box 2 rfl) rfl rfl (rfl) om (fun l2 p2 c2 hv2=>?_)))⟩
 refine ⟨⟨Kn.le.refl _,t1⟩,(aNc 8 rfl (h:=Zap 9 kr rfl kr kr kr (Z4 [_] 0 [_] rfl rfl ZtM rfl rfl rfl rfl rfl rfl rfl rfl ?_)))⟩
 exact Zbe .normal (.inr rfl) [] [0,1] rfl trivial ⟨rfl,_,_,_,rfl,hv2⟩

set_option maxHeartbeats 400000 in
theorem ZsB (b:Nat) (q:Option Addr) (cp:Nat) (xs:List Int) (l:Cells) (z:Int) (hz:xs[xs.length - 1]? = some z) (hn:xs.length≤2000000) (B:Kn) (hv:ZU B l q cp 3 1 Zdo xs):Zz (pj J) 285 [ptr ⟨b,0,none⟩] B [Zae b [.slice q xs.length cp] 253,l] (fun v B' Ls=>B'=B∧v = .iface 3 (.int .i64 z)∧Ls=[Zae b [.slice q (xs.length - 1) cp] 253,l]∧ZU B l q cp 3 1 Zdo (xs.take (xs.length - 1))):=by
 refine Zb 25 Tryz.func285 rfl rfl rfl (Nat.le_of_ble_eq_true rfl) ?_
 have hl1:=Zbu hz
 have hcp:=hv.cap
 have hv9:=hv.take (k:=xs.length - 1) oz
 have hs0:=hv.slice0 (sz:=1)
 refine Za (xA (h:=Za (xM (h:=xNc (h:=x1 ZeJ 0 (h:=xV Tryz.underlying253 (h:=Zp (Zif (r:=((xs.length - 1:Nat):Int)) rfl rfl rfl rfl (by rw [show ((xs.length:Int) - 1)=((xs.length - 1:Nat):Int) from by omega];exact Zb4 oz oz) ?_))))))))
 refine xA (h:=Za (xM (h:=xNc (h:=x1 ZeJ 0 (h:=xM (h:=?_))))))
 obtain ⟨w,hw⟩:=ZY (xs:=xs) (i:=(xs.length - 1)) om
 obtain ⟨bb2,_,hp2,rfl,hw2,hc2⟩:=hv.row hw
 refine xIp hp2 Tryz.underlying252 sz3 (h:=?_)
 rw [hz] at hw
 cases hw
 refine Zp (Zr rfl rfl lk3 rfl (hc2 _ 1 rfl 0 _ rfl) (xA (h:=Za (xM (h:=xM (h:=xNc (h:=x1 ZeJ 0 (h:=xM (h:=Zp (Zls rfl rfl Tryz.underlying252 sz3 rfl (a:=0) (b:=xs.length - 1) rfl ⟨_,_,rfl,rfl⟩ oz oz ?_))))))))))
 rw [hs0]
 refine xNc (h:=xS [_] 0 [_] ZtM (h:=ZE [_,_] rfl (Za (xM (h:=Zp (ZdL rfl rfl Tryz.underlying3 rfl rfl (xA (h:=Zh ?_))))))))
 exact Zbe .ret (.inl rfl) [_] [0,1] rfl t1 ⟨rfl,rfl,rfl,hv9⟩

set_option maxHeartbeats 400000 in
theorem ZfG (q:Option Addr) (cp:Nat) (xs:List Int) (l:Cells) (i j:Nat) (a b:Int) (hi:xs[i]? = some a) (hj:xs[j]? = some b) (hn:xs.length≤2000000) (B:Kn) (hv:ZU B l q cp 3 1 Zdo xs):Zz (pj J) 287 [.slice q xs.length cp,.int .i64 i,.int .i64 j] B [l] (fun v B' Ls=>B'=B∧∃l',Ls=[l']∧ZU B l' q cp 3 1 Zdo ((xs.set i b).set j a)):=by
 refine Zb 20 Tryz.func287 rfl rfl rfl (Nat.le_of_ble_eq_true rfl) ?_
 have hil:=Zbu hi
 have hjl:=Zbu hj
 refine Z8 (keeps _ [0] _) mo kr ⟨Kn.le.refl _,ZbU.refl _ _⟩ (fun _ _=>?_)
 refine aM 0 rfl (h:=aM 1 rfl (h:=aM 2 rfl (h:=aM 3 rfl (h:=aM 4 rfl (h:=aM 5 rfl (h:=?_))))))
 obtain ⟨y,hy⟩:=ZY (xs:=xs) (i:=j) om
 obtain ⟨bb2,_,hp2,rfl,hw2,hc2⟩:=hv.row hy
 refine aT 6 rfl (Z5 fun D B L hI=>Zmi hp2 rfl rfl Tryz.underlying252 sz3 rfl rfl om om r4) (h:=?_)
 refine aT 7 rfl (Z5 fun D B L hI=>Zr rfl rfl lk3 rfl (hc2 _ 0 (hI.2.1.trans rfl) 0 _ rfl) r4) (h:=aM 8 rfl (h:=aM 9 rfl (h:=?_)))
 obtain ⟨x,hx⟩:=ZY (xs:=xs) (i:=i) om
 obtain ⟨bb4,_,hp4,rfl,hw4,hc4⟩:=hv.row hx
 refine aT 10 rfl (Z5 fun D B L hI=>Zmi hp4 rfl rfl Tryz.underlying252 sz3 rfl rfl om om r4) (h:=?_)
 refine aT 11 rfl (Z5 fun D B L hI=>Zr rfl rfl lk3 rfl (hc4 _ 0 (hI.2.1.trans rfl) 0 _ rfl) r4) (h:=?_)
 obtain ⟨bb5,_,hp5,rfl,hw5,hc5⟩:=hv.row hx
 refine aT 12 rfl (Z5 fun D B L hI=>Zmi hp5 rfl rfl Tryz.underlying252 sz3 rfl rfl om om r4) (h:=?_)
 refine Zhu 13 kr rfl kr kr (Zgs (k:=i) (off:=0) (y) [_] 0 hv hp5 hx rfl rfl sz3 rfl rfl rfl rfl rfl rfl ((fun row h=>by cases h;rfl)) (fun l6 hv6=>?_))
 obtain ⟨w,hw⟩:=ZY (xs:=(xs.set i (y))) (i:=j) om
 obtain ⟨bb8,_,hp8,rfl,hw8,hc8⟩:=hv6.row hw
 refine aT 14 rfl (Z5 fun D B L hI=>Zmi hp8 rfl rfl Tryz.underlying252 sz3 rfl rfl om om r4) (h:=?_)
 refine Zap 15 kr rfl kr kr kr (Zgs (k:=j) (off:=0) (x) [_] 0 hv6 hp8 hw rfl rfl sz3 rfl rfl rfl rfl rfl rfl ((fun row h=>by cases h;rfl)) (fun l9 hv9=>?_))
 rw [hi] at hx
 cases hx
 rw [hj] at hy
 cases hy
 exact Zbe .normal (.inr rfl) [] [0] rfl trivial ⟨rfl,_,rfl,hv9⟩

set_option maxHeartbeats 400000 in
theorem ZqJ (b:Nat) (q:Option Addr) (cp:Nat) (xs:List Int) (l:Cells) (j:Nat) (hj:j<xs.length) (hn:xs.length≤2000000) (hh:Zfo xs j) (B:Kn) (hv:ZU B l q cp 3 1 Zdo xs):Zz (pj J) 229 [.iface 251 (ptr ⟨b,0,none⟩),.int .i64 j] B [Zae b [.slice q xs.length cp] 253,l] (fun v B' Ls=>B'=B∧∃ys l',Ls=[Zae b [.slice q ys.length cp] 253,l']∧ZU B l' q cp 3 1 Zdo ys∧ys.Perm xs∧Zc7 ys):=by
 refine Zb 23 Tryz.func229 rfl rfl rfl (Nat.le_of_ble_eq_true rfl) ?_
 refine Zl (ZC (α:=Nat × List Int × Cells) [0] (fun g=>[(1,.int .i64 g.1)]) [0,1] (fun g=>[Zae b [.slice q g.2.1.length cp] 253,g.2.2]) (fun g Bx=>Bx=B∧g.1<g.2.1.length∧g.2.1.Perm xs∧Zfo g.2.1 g.1∧ZU B g.2.2 q cp 3 1 Zdo g.2.1) (fun g=>g.1) (j,xs,l) t1 rfl (⟨rfl,hj,.refl _,hh,hv⟩) (fun g B1 hle1 hI=>?_))
 obtain ⟨rfl,hk,hp,hb,hv⟩:=hI
 have hpl:=hp.length_eq
 refine ZF [(0,_),(1,_)] [_,_] t2 rfl (Zl (Za (xM (h:=Zp (Zif rfl rfl rfl rfl (Zb4 oz oz) ?_)))))
 refine Zp (Znr (r:=(((g.1 - 1) / 2:Nat):Int)) rfl rfl rfl rfl oz (by rw [show Int.tdiv ((g.1:Int) - 1) 2=(((g.1 - 1) / 2:Nat):Int) from Zvi g.1];exact Zb4 oz oz) ?_)
 refine xA (h:=Ze (Za (xM (h:=xM (h:=Zlr (h:=xM (h:=Zw (d:=11) rfl (fun g1=>?_) (fun g1=>?_))))))))
 try simp only [sQ,ne_eq] at g1
 refine xP (h:=xP (h:=xP (h:=xP (h:=xP (h:=xT (h:=Zc (t:=true) rfl (fun _=>ZH (Z0 (Zey rfl (ZM (Zx ?_))))) (fun h=>Bool.noConfusion h)))))))
 exact Zbe .normal (.inr rfl) [] [0,1] rfl trivial ⟨rfl,_,_,rfl,hv,hp,Zr0 (by rw [show g.1=0 from by omega] at hb;exact hb)⟩
 try simp only [sQ,ne_eq] at g1
 refine xM (h:=xM (h:=xM (h:=Zp (ZeZ 1 rfl rfl rfl Zpd rfl rfl (ZaZ Zdv Tryz.underlying251 ZeJ (atL 0 rfl rfl rfl)) (Z9.borrow fun hm2=>ZfH _ _ _ _ _ _ _ (ZaG oz) (ZaG oz) _ (hv.lend Zdo.mono hm2 om)) ?_))))
 refine xN (h:=xF (h:=Zc rfl (fun g2=>?_) (fun g2=>?_)))
 try simp only [sQ,ne_eq] at g2
 refine ZH (Z0 (Zey rfl (ZM (Zx ?_))))
 exact Zbe .normal (.inr rfl) [] [0,1] rfl trivial ⟨rfl,_,_,rfl,hv,hp,Zr2 hb (by simpa using g2)⟩
 try simp only [sQ,ne_eq] at g2
 refine Zf (Zd (Za (xM (h:=xM (h:=xM (h:=Zp (Zgk [1] rfl rfl rfl rfl Zpc rfl rfl (ZaZ Zdu Tryz.underlying251 ZeJ (atL 0 rfl rfl rfl)) (ZfG _ _ _ _ _ _ _ _ (ZaG oz) (ZaG oz) oz _ hv) ?_)))))))
 rintro _ B3 _ hle3 ⟨rfl,l3,rfl,hv3⟩
 refine ZE [_,_] rfl (Zk (xM (h:=xA (h:=ZS ?_))))
 rw [← ZcR g.2.1 ((g.1 - 1) / 2) g.1]
 exact ZG ((g.1 - 1) / 2,(swp g.2.1 ((g.1 - 1) / 2) g.1),l3) [0,1] (so) ⟨rfl,by have:=ZcR g.2.1 ((g.1 - 1) / 2) g.1;simp only [];omega,(Zfu oz oz).trans hp,Zr1 oz oz hb (by simpa using g2),hv3⟩ t2 rfl

set_option maxHeartbeats 400000 in
theorem ZmU (b:Nat) (q:Option Addr) (cp:Nat) (xs:List Int) (l:Cells) (z:Int) (hn:xs.length<2000000) (hh:Zc7 xs) (B:Kn) (hv:ZU B l q cp 3 1 Zdo xs):Zz (pj J) 196 [.iface 251 (ptr ⟨b,0,none⟩),.iface 3 (.int .i64 z)] B [Zae b [.slice q xs.length cp] 253,l] (fun v B' Ls=>B'=B∧∃q' c' ys l',Ls=[Zae b [.slice q' ys.length c'] 253,l']∧ZU B l' q' c' 3 1 Zdo ys∧ys.Perm (xs ++ [z])∧Zc7 ys):=by
 refine Zb 12 Tryz.func196 rfl rfl rfl (Nat.le_of_ble_eq_true rfl) ?_
 refine Za (xM (h:=xM (h:=Zp (Zgk [0,1] rfl rfl rfl rfl ZvK rfl rfl (ZjW ZmF Tryz.underlying251) (ZqG _ _ _ _ _ _ oz _ hv) ?_))))
 rintro _ B1 _ hle1 ⟨rfl,q1,c1,l1,rfl,hv1⟩
 refine ZE [_,_] rfl (Zk (xM (h:=xM (h:=Zp (ZeZ 1 rfl rfl rfl Zut rfl rfl (ZaZ Zjv Tryz.underlying251 ZeJ (atL 0 rfl rfl rfl)) (Z9.borrow fun hm2=>ZoD _ _ _ _) (Zp (Zif (r:=((xs.length:Nat):Int)) rfl rfl rfl rfl ((congrArg _ (show _=((xs.length:Nat):Int) from by rw [List.length_append,List.length_singleton];omega)).trans (Zb4 oz oz)) ?_)))))))
 refine Zp (ZaI [0,1] rfl rfl rfl rfl ZvN rfl (ZqJ _ _ _ _ _ _ (by simp) (by simp;omega) (Zqc hh) _ hv1) ?_)
 rintro _ Bu _ hleu ⟨rfl,ysu,lu,rfl,hvu,hpu,hhu⟩
 exact Zbe .normal (.inr rfl) [] [0,1] rfl trivial ⟨rfl,_,_,_,_,rfl,hvu,hpu,hhu⟩

set_option maxHeartbeats 400000 in
theorem ZmW (b:Nat) (q:Option Addr) (cp:Nat) (xs:List Int) (l:Cells) (m:Nat) (hm:m≤xs.length) (hm0:0<xs.length) (hn:xs.length≤2000000) (hh:Zer xs m 0) (B:Kn) (hv:ZU B l q cp 3 1 Zdo xs):Zz (pj J) 230 [.iface 251 (ptr ⟨b,0,none⟩),.int .i64 0,.int .i64 m] B [Zae b [.slice q xs.length cp] 253,l] (fun v B' Ls=>B'=B∧∃ys l',Ls=[Zae b [.slice q ys.length cp] 253,l']∧ZU B l' q cp 3 1 Zdo ys∧ys.Perm xs∧Zrk ys m∧(∀k,m≤k→hat ys k=hat xs k)):=by
 refine Zb 48 Tryz.func230 rfl rfl rfl (Nat.le_of_ble_eq_true rfl) ?_
 refine Za (xA (h:=Za (xM (h:=xA (h:=Ze (Zl (ZC (α:=Nat × List Int × Cells) [0,1,2,6] (fun g=>[(7,.int .i64 g.1)]) [0,1] (fun g=>[Zae b [.slice q g.2.1.length cp] 253,g.2.2]) (fun g Bx=>Bx=B∧g.1<g.2.1.length∧g.2.1.Perm xs∧Zer g.2.1 m g.1∧(∀k,m≤k→hat g.2.1 k=hat xs k)∧ZU B g.2.2 q cp 3 1 Zdo g.2.1) (fun g=>xs.length - g.1) (0,xs,l) t1 rfl (⟨rfl,hm0,.refl _,hh,fun _ _=>rfl,hv⟩) (fun g B1 hle1 hI=>?_))))))))
 obtain ⟨rfl,hk,hp,hb,hs,hv⟩:=hI
 have hpl:=hp.length_eq
 refine ZF [(0,_),(1,_),(2,_),(6,_),(7,_)] [_,_] t5 rfl (Zl (Za (xM (h:=Zp (Zvd (r:=((2*g.1:Nat):Int)) rfl rfl rfl rfl ((congrArg _ (show _=((2*g.1:Nat):Int) from by omega)).trans (Zb4 oz oz)) ?_)))))
 refine Zp (Zgt (r:=((2*g.1+1:Nat):Int)) rfl rfl rfl rfl ((congrArg _ (show _=((2*g.1+1:Nat):Int) from by omega)).trans (Zb4 oz oz)) ?_)
 refine xA (h:=Ze (Za (xM (h:=xM (h:=Zd6 (h:=xM (h:=Zw (d:=18) rfl (fun g1=>?_) (fun g1=>?_))))))))
 try simp only [sQ,ne_eq] at g1
 refine xP (h:=xP (h:=xT (h:=Zc (t:=true) rfl (fun _=>ZH (Z0 (Zey rfl (ZM (Zx (Zd (Za (xM (h:=xM (h:=ZcL (h:=xA (h:=Zh ?_)))))))))))) (fun h=>Bool.noConfusion h))))
 exact Zbe .ret (.inl rfl) [_] [0,1] rfl t1 ⟨rfl,_,_,rfl,hv,hp,Zph hb oz,hs⟩
 try simp only [sQ,ne_eq] at g1
 refine xM (h:=ZJ (h:=xF (h:=Zc rfl (fun g2=>by have:=of_decide_eq_true g2;omega) (fun g2=>?_))))
 try simp only [sQ,ne_eq] at g2
 refine Zf (Zd (Za (xM (h:=xA (h:=Ze (Za (xM (h:=Zp (Zgt (r:=((2*g.1+1+1:Nat):Int)) rfl rfl rfl rfl ((congrArg _ (show _=((2*g.1+1+1:Nat):Int) from by omega)).trans (Zb4 oz oz)) ?_)))))))))
 refine xA (h:=Za (xM (h:=xM (h:=ZJ (h:=xM (h:=Zw (d:=28) rfl (fun g3=>?_) (fun g3=>?_)))))))
 try simp only [sQ,ne_eq] at g3
 refine xM (h:=xM (h:=xM (h:=Zp (ZeZ 1 rfl rfl rfl Zpd rfl rfl (ZaZ Zdv Tryz.underlying251 ZeJ (atL 0 rfl rfl rfl)) (Z9.borrow fun hm2=>ZfH _ _ _ _ _ _ _ (ZaG oz) (ZaG oz) _ (hv.lend Zdo.mono hm2 om)) ?_))))
 refine xT (h:=Zc rfl (fun g4=>?_) (fun g4=>?_))
 try simp only [sQ,ne_eq] at g4
 refine Zk (xM (h:=xA (h:=Zd (Ze (Za (xM (h:=xM (h:=xM (h:=Zp (ZeZ 1 rfl rfl rfl Zpd rfl rfl (ZaZ Zdv Tryz.underlying251 ZeJ (atL 0 rfl rfl rfl)) (Z9.borrow fun hm3=>ZfH _ _ _ _ _ _ _ (ZaG oz) (ZaG oz) _ (hv.lend Zdo.mono hm3 om)) ?_))))))))))
 refine xN (h:=Zc rfl (fun g5=>?_) (fun g5=>?_))
 try simp only [sQ,ne_eq] at g5
 refine ZH (Z0 (Zey rfl (ZM (Zx (Zd (Za (xM (h:=xM (h:=ZcL (h:=xA (h:=Zh ?_)))))))))))
 exact Zbe .ret (.inl rfl) [_] [0,1] rfl t1 ⟨rfl,_,_,rfl,hv,hp,Zhk hb (by intro k h0 hk he;(try simp only [decide_eq_true_eq,decide_eq_false_iff_not,Bool.not_eq_true',Bool.not_eq_false',Int.not_lt] at *);rcases (show k=2*g.1+1∨k=2*g.1+1+1 from by omega) with rfl | rfl <;> omega),hs⟩
 try simp only [sQ,ne_eq] at g5
 refine Zf (Zd (Za (xM (h:=xM (h:=xM (h:=Zp (Zgk [1] rfl rfl rfl rfl Zpc rfl rfl (ZaZ Zdu Tryz.underlying251 ZeJ (atL 0 rfl rfl rfl)) (ZfG _ _ _ _ _ _ _ _ (ZaG oz) (ZaG oz) oz _ hv) ?_)))))))
 rintro _ B4 _ hle4 ⟨rfl,l4,rfl,hv4⟩
 refine ZE [_,_] rfl (Zk (xM (h:=xA (h:=ZS ?_))))
 rw [← ZcR g.2.1 g.1 (2*g.1+1+1)]
 have h5:hat g.2.1 (2*g.1+1+1)<hat g.2.1 g.1:=by simpa using g5
 exact ZG (2*g.1+1+1,(swp g.2.1 g.1 (2*g.1+1+1)),l4) [0,1] (so) ⟨rfl,by have:=ZcR g.2.1 g.1 (2*g.1+1+1);simp only [];omega,(Zfu oz oz).trans hp,Zhj oz oz oz oz hb (by intro k h0 hk he;(try simp only [decide_eq_true_eq,decide_eq_false_iff_not,Bool.not_eq_true',Bool.not_eq_false',Int.not_lt] at *);rcases (show k=2*g.1+1∨k=2*g.1+1+1 from by omega) with rfl | rfl <;> omega) h5,(fun k hk=>by rw [Zel oz oz,if_neg oz,if_neg oz];exact hs k hk),hv4⟩ t5 rfl
 try simp only [sQ,ne_eq] at g4
 refine Zf (Zd (Ze (Za (xM (h:=xM (h:=xM (h:=Zp (ZeZ 1 rfl rfl rfl Zpd rfl rfl (ZaZ Zdv Tryz.underlying251 ZeJ (atL 0 rfl rfl rfl)) (Z9.borrow fun hm5=>ZfH _ _ _ _ _ _ _ (ZaG oz) (ZaG oz) _ (hv.lend Zdo.mono hm5 om)) ?_))))))))
 refine xN (h:=Zc rfl (fun g5=>?_) (fun g5=>?_))
 try simp only [sQ,ne_eq] at g5
 refine ZH (Z0 (Zey rfl (ZM (Zx (Zd (Za (xM (h:=xM (h:=ZcL (h:=xA (h:=Zh ?_)))))))))))
 exact Zbe .ret (.inl rfl) [_] [0,1] rfl t1 ⟨rfl,_,_,rfl,hv,hp,Zhk hb (by intro k h0 hk he;(try simp only [decide_eq_true_eq,decide_eq_false_iff_not,Bool.not_eq_true',Bool.not_eq_false',Int.not_lt] at *);rcases (show k=2*g.1+1∨k=2*g.1+1+1 from by omega) with rfl | rfl <;> omega),hs⟩
 try simp only [sQ,ne_eq] at g5
 refine Zf (Zd (Za (xM (h:=xM (h:=xM (h:=Zp (Zgk [1] rfl rfl rfl rfl Zpc rfl rfl (ZaZ Zdu Tryz.underlying251 ZeJ (atL 0 rfl rfl rfl)) (ZfG _ _ _ _ _ _ _ _ (ZaG oz) (ZaG oz) oz _ hv) ?_)))))))
 rintro _ B6 _ hle6 ⟨rfl,l6,rfl,hv6⟩
 refine ZE [_,_] rfl (Zk (xM (h:=xA (h:=ZS ?_))))
 rw [← ZcR g.2.1 g.1 (2*g.1+1)]
 have h5:hat g.2.1 (2*g.1+1)<hat g.2.1 g.1:=by simpa using g5
 exact ZG (2*g.1+1,(swp g.2.1 g.1 (2*g.1+1)),l6) [0,1] (so) ⟨rfl,by have:=ZcR g.2.1 g.1 (2*g.1+1);simp only [];omega,(Zfu oz oz).trans hp,Zhj oz oz oz oz hb (by intro k h0 hk he;(try simp only [decide_eq_true_eq,decide_eq_false_iff_not,Bool.not_eq_true',Bool.not_eq_false',Int.not_lt] at *);rcases (show k=2*g.1+1∨k=2*g.1+1+1 from by omega) with rfl | rfl <;> omega) h5,(fun k hk=>by rw [Zel oz oz,if_neg oz,if_neg oz];exact hs k hk),hv6⟩ t5 rfl
 try simp only [sQ,ne_eq] at g3
 refine xP (h:=xP (h:=xP (h:=xP (h:=xF (h:=Zc (t:=false) rfl (fun h=>Bool.noConfusion h) (fun _=>Zf (Zd (Ze (Za (xM (h:=xM (h:=xM (h:=?_)))))))))))))
 refine Zp (ZeZ 1 rfl rfl rfl Zpd rfl rfl (ZaZ Zdv Tryz.underlying251 ZeJ (atL 0 rfl rfl rfl)) (Z9.borrow fun hm7=>ZfH _ _ _ _ _ _ _ (ZaG oz) (ZaG oz) _ (hv.lend Zdo.mono hm7 om)) ?_)
 refine xN (h:=Zc rfl (fun g5=>?_) (fun g5=>?_))
 try simp only [sQ,ne_eq] at g5
 refine ZH (Z0 (Zey rfl (ZM (Zx (Zd (Za (xM (h:=xM (h:=ZcL (h:=xA (h:=Zh ?_)))))))))))
 exact Zbe .ret (.inl rfl) [_] [0,1] rfl t1 ⟨rfl,_,_,rfl,hv,hp,Zhk hb (by intro k h0 hk he;(try simp only [decide_eq_true_eq,decide_eq_false_iff_not,Bool.not_eq_true',Bool.not_eq_false',Int.not_lt] at *);rcases (show k=2*g.1+1∨k=2*g.1+1+1 from by omega) with rfl | rfl <;> omega),hs⟩
 try simp only [sQ,ne_eq] at g5
 refine Zf (Zd (Za (xM (h:=xM (h:=xM (h:=Zp (Zgk [1] rfl rfl rfl rfl Zpc rfl rfl (ZaZ Zdu Tryz.underlying251 ZeJ (atL 0 rfl rfl rfl)) (ZfG _ _ _ _ _ _ _ _ (ZaG oz) (ZaG oz) oz _ hv) ?_)))))))
 rintro _ B8 _ hle8 ⟨rfl,l8,rfl,hv8⟩
 refine ZE [_,_] rfl (Zk (xM (h:=xA (h:=ZS ?_))))
 rw [← ZcR g.2.1 g.1 (2*g.1+1)]
 have h5:hat g.2.1 (2*g.1+1)<hat g.2.1 g.1:=by simpa using g5
 exact ZG (2*g.1+1,(swp g.2.1 g.1 (2*g.1+1)),l8) [0,1] (so) ⟨rfl,by have:=ZcR g.2.1 g.1 (2*g.1+1);simp only [];omega,(Zfu oz oz).trans hp,Zhj oz oz oz oz hb (by intro k h0 hk he;(try simp only [decide_eq_true_eq,decide_eq_false_iff_not,Bool.not_eq_true',Bool.not_eq_false',Int.not_lt] at *);rcases (show k=2*g.1+1∨k=2*g.1+1+1 from by omega) with rfl | rfl <;> omega) h5,(fun k hk=>by rw [Zel oz oz,if_neg oz,if_neg oz];exact hs k hk),hv8⟩ t5 rfl

set_option maxHeartbeats 400000 in
theorem ZoF (b:Nat) (q:Option Addr) (cp:Nat) (xs:List Int) (l:Cells) (hm0:0<xs.length) (hn:xs.length≤2000000) (hh:Zc7 xs) (B:Kn) (hv:ZU B l q cp 3 1 Zdo xs):Zz (pj J) 197 [.iface 251 (ptr ⟨b,0,none⟩)] B [Zae b [.slice q xs.length cp] 253,l] (fun v B' Ls=>B'=B∧v = .iface 3 (.int .i64 (hat xs 0))∧∃ys l',Ls=[Zae b [.slice q ys.length cp] 253,l']∧ZU B l' q cp 3 1 Zdo ys∧(hat xs 0 :: ys).Perm xs∧Zc7 ys):=by
 refine Zb 15 Tryz.func197 rfl rfl rfl (Nat.le_of_ble_eq_true rfl) ?_
 refine Za (xA (h:=Za (xM (h:=Zp (ZeZ 1 rfl rfl rfl Zut rfl rfl (ZaZ Zjv Tryz.underlying251 ZeJ (atL 0 rfl rfl rfl)) (Z9.borrow fun hm1=>ZoD _ _ _ _) (Zp (Zif (r:=((xs.length - 1:Nat):Int)) rfl rfl rfl rfl ((congrArg _ (show _=((xs.length - 1:Nat):Int) from by omega)).trans (Zb4 oz oz)) ?_)))))))
 refine xA (h:=Za (xM (h:=xM (h:=Zp (Zgk [1] rfl rfl rfl rfl Zpc rfl rfl (ZaZ Zdu Tryz.underlying251 ZeJ (atL 0 rfl rfl rfl)) (ZfG _ _ _ _ _ _ _ _ (ZaG oz) (ZaG oz) oz _ hv) ?_)))))
 rintro _ Bs _ hles ⟨rfl,ls,rfl,hvs⟩
 refine ZE [_,_] rfl ?_
 obtain ⟨zs,hzs,hzl⟩ :∃zs,zs=swp xs 0 (xs.length - 1)∧zs.length=xs.length:=⟨_,rfl,ZcR _ _ _⟩
 have hzz:=hvs
 change ZU _ _ _ _ _ _ _ (swp xs 0 (xs.length - 1)) at hzz
 rw [← hzs] at hzz
 have hdb:Zer zs (zs.length - 1) 0:=by rw [hzl,hzs];exact Zse hh hm0
 have hlz:hat zs (zs.length - 1)=hat xs 0:=by rw [hzl,hzs];exact Zp4 hm0
 have hpz:zs.Perm xs:=hzs ▸ Zfu hm0 oz
 rw [← hzl]
 refine Za (xM (h:=xM (h:=Zp (ZaI [0,1] rfl rfl rfl rfl ZvM rfl (ZmW _ _ _ _ _ _ oz oz oz hdb _ hzz) ?_))))
 rintro _ Bd _ hled ⟨rfl,ysd,ld,rfl,hvd,hpd,hhd,hsd⟩
 refine ZE [_,_] rfl ?_
 have hdl:=hpd.length_eq
 refine Za (xM (h:=Zp (Zgk [0,1] rfl rfl rfl rfl ZvL rfl rfl (ZjW Zol Tryz.underlying251) (ZsB _ _ _ _ _ _ (ZaG oz) oz _ hvd) ?_)))
 rintro _ Bo _ hleo ⟨rfl,rfl,rfl,hvo⟩
 refine xA (h:=ZE [_,_] rfl (Zh ?_))
 have hz9:hat ysd (ysd.length - 1)=hat xs 0:=by rw [hsd _ oz,hdl];exact hlz
 exact Zbe .ret (.inl rfl) [_] [0,1] rfl t1 ⟨rfl,by rw [hz9];rfl,_,_,by rw [show (ysd.take (ysd.length - 1)).length=ysd.length - 1 from by simp],hvo,Zqf oz (hpd.trans hpz) hz9,ZmV (by rw [hdl];exact hhd) oz⟩

set_option maxHeartbeats 400000 in
theorem ZkY (q:Option Addr) (cp:Nat) (xs:List DItem) (last:Int) (B:Kn) (ha:SlK B q cp 4 Zu xs):Z9 (pj J) 165 [.slice q xs.length cp,.int .i64 last] B (.bool (asc 0 last (xs.map (·.id)))):=by
 refine Zb 53 Tryz.func165 rfl rfl rfl (Nat.le_of_ble_eq_true rfl) ?_
 have hxn:=ha.len
 refine Za (xA (h:=Za (xBs [] [] Tryz.underlying252 sz3 zo3 (h:=fun b1=>xBx [_] (h:=fun b2=>xA (h:=ZE [_,_] rfl (Ze (Za (xM (h:=xV Tryz.underlying32 (h:=xM (h:=Zl ?_))))))))))))
 refine ZC (α:=Gh Int) [0,1,4,5,14,15] (fun g=>[(16,.int .i64 g.k)]) [0,1] (fun g=>[g.l,Zae b2 [.slice g.a g.xs.length g.c] 253]) (fun g Bx=>Bx=B∧g.k≤xs.length∧g.xs.Perm ((xs.take g.k).map (·.id))∧Zc7 g.xs∧ZU Bx g.l g.a g.c 3 1 Zdo g.xs) (fun g=>xs.length - g.k) ⟨0,0,_,_,_,[]⟩ t1 rfl (⟨rfl,Nat.zero_le _,.refl _,ZqH,.lit0⟩) (fun g B3 hle3 hI=>?_)
 obtain ⟨rfl,hk,hp,hh,hv⟩:=hI
 have hpl:=hp.length_eq
 rw [List.length_map,List.length_take] at hpl
 refine ZF [(0,_),(1,_),(4,_),(5,_),(14,_),(15,_),(16,_)] [_,_] t7 rfl (Za (ZJ (h:=Ze (Zc rfl (fun g1=>?_) (fun g1=>?_)))))
 try simp only [sQ,ne_eq] at g1
 refine Zf (Zd (Ze (Zl (Za ?_))))
 obtain ⟨x,hx⟩:=ZY (xs:=xs) (i:=g.k) om
 obtain ⟨bb5,oo5,rfl⟩:=ha.base hx
 obtain ⟨_,⟨qi6,ci6,rfl,hi6,hb6,hb6b⟩,hc6⟩:=ha.elem hx
 have hi6n:=hi6.len
 refine xIx Tryz.underlying32 Zbg (h:=yL [_,_,_,_] Zef hc6 0 (h:=xAl [_,_,_,_] ZeH (h:=fun b7=>xS [_,_,_,_] 2 [_,_,_,_] Zbg (h:=ZE [_,_,_] rfl (Zk (xM (h:=Zp (ZdL rfl rfl Tryz.underlying251 rfl rfl (xW Zd0 (h:=x1 lk3 2 (h:=Zp (ZdL rfl rfl Tryz.underlying3 rfl rfl (Zp (ZaI [1,0] rfl rfl rfl rfl ZvX rfl (ZmU _ _ _ _ _ _ oz hh _ hv) ?_))))))))))))))
 rintro _ Bp _ hlep ⟨rfl,qp,cp,ysp,lp,rfl,hvp,hpp,hhp⟩
 refine ZS (Zd (Zk (xD (h:=xM (h:=?_)))))
 exact ZG ⟨g.k+1,0,lp,_,_,ysp⟩ [0,1] so2 ⟨rfl,so,by simp only [];rw [Zbr hx,List.map_append];exact hpp.trans (hp.append_right _),hhp,hvp⟩ t7 rfl
 try simp only [sQ,ne_eq] at g1
 have hxe:xs.take g.k=xs:=List.take_of_length_le oz
 rw [hxe] at hp
 refine ZH (Z0 (ZM (Zx (Zd (Za (xA (h:=Ze (Za (xM (h:=xV Tryz.underlying32 (h:=xM (h:=Zl (ZC (α:=Gh2 Int Int) [0,1,5,14,15,16,17,27,28] (fun h=>[(8,.int .i64 h.e),(29,.int .i64 h.k)]) [0,1] (fun h=>[h.l,Zae b2 [.slice h.a h.xs.length h.c] 253]) (fun h Bx=>Bx=B3∧h.k≤xs.length∧h.xs.Perm ((xs.drop h.k).map (·.id))∧Zc7 h.xs∧asc 0 last (xs.map (·.id))=asc h.e last ((xs.drop h.k).map (·.id))∧ZU Bx h.l h.a h.c 3 1 Zdo h.xs) (fun h=>xs.length - h.k) ⟨0,0,g.l,g.a,g.c,g.xs,0⟩ t2 rfl (⟨rfl,Nat.zero_le _,hp,hh,rfl,hv⟩) (fun h B9 hle9 hI=>?_))))))))))))))
 clear hv hp hpl hh
 obtain ⟨rfl,hk,hp,hh,hs,hv⟩:=hI
 have hpl:=hp.length_eq
 rw [List.length_map,List.length_drop] at hpl
 refine ZF [(0,_),(1,_),(5,_),(8,_),(14,_),(15,_),(16,_),(17,_),(27,_),(28,_),(29,_)] [_,_] t11 rfl (Za (ZJ (h:=Ze (Zc rfl (fun g2=>?_) (fun g2=>?_)))))
 try simp only [sQ,ne_eq] at g2
 refine Zf (Zd (Ze (Zl (Za ?_))))
 obtain ⟨x,hx⟩:=ZY (xs:=xs) (i:=h.k) om
 obtain ⟨bb11,oo11,rfl⟩:=ha.base hx
 obtain ⟨_,⟨qi12,ci12,rfl,hi12,hb12,hb12b⟩,hc12⟩:=ha.elem hx
 have hi12n:=hi12.len
 refine xIx Tryz.underlying32 Zbg (h:=?_)
 rw [ZiQ hx,List.map_cons] at hp hs
 refine yL [_,_,_,_] Zef hc12 0 (h:=xAl [_,_,_,_] ZeH (h:=fun b13=>xS [_,_,_,_] 2 [_,_,_,_] Zbg (h:=ZE [_,_,_] rfl (Za (xM (h:=Zp (ZdL rfl rfl Tryz.underlying251 rfl rfl (Zp (ZaI [1,0] rfl rfl rfl rfl ZvW rfl (ZoF _ _ _ _ _ oz oz hh _ hv) ?_)))))))))
 rintro _ Bo _ hleo ⟨rfl,rfl,yso,lo,rfl,hvo,hpo,hho⟩
 refine Zp (Zi5 rfl rfl Tryz.underlying3 rfl rfl (xA (h:=ZE [_,_,_] rfl (Ze (Za (xM (h:=xW Zd0 (h:=x1 lk3 2 (h:=ZaN (h:=xM (h:=Zw (d:=41) rfl (fun g3=>?_) (fun g3=>?_))))))))))))
 try simp only [sQ,ne_eq] at g3
 refine xP (h:=xP (h:=xP (h:=xT (h:=xM (h:=xP (h:=xP (h:=xP (h:=xT (h:=Zc (t:=true) rfl (fun _=>Za (xA (h:=Zh (Zq (ZD (Zq (ZP (ZD (Zq ?_))))))))) (fun h=>Bool.noConfusion h))))))))))
 exact ZB .ret (.inl rfl) [_] t1 ⟨Zg (by rw [hs];exact Zq9 hp hh (by simpa using g3)),rfl,rfl⟩
 try simp only [sQ,ne_eq] at g3
 refine xM (h:=xM (h:=Zb3 (h:=xF (h:=xM (h:=Zw (d:=46) rfl (fun g4=>?_) (fun g4=>?_))))))
 try simp only [sQ,ne_eq] at g4
 refine xP (h:=xP (h:=xP (h:=xT (h:=Zc (t:=true) rfl (fun _=>Za (xA (h:=Zh (Zq (ZD (Zq (ZP (ZD (Zq ?_))))))))) (fun h=>Bool.noConfusion h)))))
 exact ZB .ret (.inl rfl) [_] t1 ⟨Zg (by rw [hs];exact Zq8 (by rw [← g3];simpa using g4)),rfl,rfl⟩
 try simp only [sQ,ne_eq] at g4
 refine xM (h:=xM (h:=ZcL (h:=xF (h:=Zc rfl (fun g5=>?_) (fun g5=>?_)))))
 try simp only [sQ,ne_eq] at g5
 refine Za (xA (h:=Zh (Zq (ZD (Zq (ZP (ZD (Zq ?_))))))))
 exact ZB .ret (.inl rfl) [_] t1 ⟨Zg (by rw [hs];exact Zq7 (by rw [← g3];simpa using g5)),rfl,rfl⟩
 try simp only [sQ,ne_eq] at g5
 refine Zf (Zd (Zk (xM (h:=xA (h:=ZS (Zd (Zk (xD (h:=xM (h:=?_))))))))))
 exact ZG ⟨h.k+1,0,lo,_,_,yso,hat h.xs 0⟩ [0,1] so2 ⟨rfl,so,List.Perm.cons_inv ((show (x.id :: yso).Perm (hat h.xs 0 :: yso) from by rw [g3]).trans (hpo.trans hp)),hho,by simp only [];rw [hs,g3];exact ZuI (by rw [← g3];simpa using g4) (by rw [← g3];simpa using g5),hvo⟩ t11 rfl
 try simp only [sQ,ne_eq] at g2
 rw [Zpg oz,List.map_nil,asc] at hs
 refine ZH (Z0 (ZM (Zx (Zd (Za (xA (h:=Zh ?_)))))))
 exact ZB .ret (.inl rfl) [_] t1 ⟨Zg hs.symm,rfl,rfl⟩

set_option maxHeartbeats 400000 in
theorem ZkX (aq:Option Addr) (cq:Nat) (q:DQueue) (B:Kn) (hq:SlK B aq cq 4 Zu q.items):Z9 (pj J) 117 [.agg #[.int .i64 q.next,.slice aq q.items.length cq]] B (.bool (ZaO q)):=by
 refine Zb 42 Tryz.func117 rfl rfl rfl (Nat.le_of_ble_eq_true rfl) ?_
 have hqn:=hq.len
 refine Za (xBx [_,_] (h:=fun b1=>xA (h:=ZE [_] rfl (Ze (Za (xW Zbx (h:=x1 ZhY 0 (h:=xV Tryz.underlying32 (h:=ZcL (h:=xM (h:=Zw (d:=9) rfl (fun g1=>?_) (fun g1=>?_))))))))))))
 try simp only [sQ,ne_eq] at g1
 refine xP (h:=xP (h:=xP (h:=xT (h:=xM (h:=xP (h:=xP (h:=xP (h:=xT (h:=Zc (t:=true) rfl (fun _=>Za (xA (h:=Zh (Zq ?_)))) (fun h=>Bool.noConfusion h))))))))))
 exact ZB .ret (.inl rfl) [_] t1 ⟨Zg (Zf1 oz),rfl,rfl⟩
 try simp only [sQ,ne_eq] at g1
 refine xW ZfI (h:=x1 lk3 0 (h:=ZJ (h:=xF (h:=xM (h:=Zw (d:=14) rfl (fun g2=>?_) (fun g2=>?_))))))
 try simp only [sQ,ne_eq] at g2
 refine xP (h:=xP (h:=xP (h:=xT (h:=Zc (t:=true) rfl (fun _=>Za (xA (h:=Zh (Zq ?_)))) (fun h=>Bool.noConfusion h)))))
 exact ZB .ret (.inl rfl) [_] t1 ⟨Zg (Zf1 oz),rfl,rfl⟩
 try simp only [sQ,ne_eq] at g2
 refine xW ZfI (h:=x1 lk3 0 (h:=ZcL (h:=xF (h:=Zc rfl (fun g3=>?_) (fun g3=>?_)))))
 try simp only [sQ,ne_eq] at g3
 refine Za (xA (h:=Zh (Zq ?_)))
 exact ZB .ret (.inl rfl) [_] t1 ⟨Zg (Zf1 oz),rfl,rfl⟩
 try simp only [sQ,ne_eq] at g3
 refine Zf (Zd (Ze (Za (xW Zbx (h:=x1 ZhY 0 (h:=xV Tryz.underlying32 (h:=xM (h:=Zl (ZC (α:=Nat) [0,1,18,20,21] (fun k=>[(22,.int .i64 k)]) [] (fun k=>[]) (fun k Bx=>Bx=B∧k≤q.items.length∧(q.items.take k).all ZfF=true) (fun k=>q.items.length - k) 0 t1 rfl (⟨rfl,Nat.zero_le _,by simp⟩) (fun k B2 hle2 hI=>?_))))))))))
 obtain ⟨rfl,hk,ha⟩:=hI
 refine ZF [(0,_),(1,_),(18,_),(20,_),(21,_),(22,_)] [_] t6 rfl (Za (ZJ (h:=Ze (Zc rfl (fun g4=>?_) (fun g4=>?_)))))
 try simp only [sQ,ne_eq] at g4
 refine Zf (Zd (Ze (Zl (Za ?_))))
 obtain ⟨x,hx⟩:=ZY (xs:=q.items) (i:=k) om
 obtain ⟨bb4,oo4,rfl⟩:=hq.base hx
 obtain ⟨_,⟨qi5,ci5,rfl,hi5,hb5,hb5b⟩,hc5⟩:=hq.elem hx
 have hi5n:=hi5.len
 refine xIx Tryz.underlying32 Zbg (h:=yL [_,_,_,_] Zef hc5 0 (h:=xAl [_,_,_,_] ZeH (h:=fun b6=>xS [_,_,_,_] 1 [_,_,_,_] Zbg (h:=ZE [_,_] rfl (Za (xW ZdZ (h:=x1 lk9 1 (h:=xW Zcc (h:=x1 ZkP 1 (h:=xW Zff (h:=x1 lk9 1 (h:=xB [(0,_),(1,_),(2,_)] [_,_,_] [_,_,_] Zxe Zw7 (h:=?_)))))))))))))
 refine xR Zx3 rfl (ZjL _ _ ⟨x.fr,x.left,x.text⟩ _ hi5 oa oa) (h:=?_)
 refine xN (h:=Zc rfl (fun g5=>?_) (fun g5=>?_))
 try simp only [sQ,ne_eq] at g5
 refine Za (xA (h:=Zh (ZD (Zq (ZP (ZD (Zq ?_)))))))
 exact ZB .ret (.inl rfl) [_] t1 ⟨Zg (Zkz hx g5),rfl,rfl⟩
 try simp only [sQ,ne_eq] at g5
 refine Zf (ZS (Zd (Zk (xD (h:=xM (h:=?_))))))
 exact ZG (k+1) [0] so2 ⟨rfl,oz,ZuK hx g5 ha⟩ t6 rfl
 try simp only [sQ,ne_eq] at g4
 refine ZH (Z0 (ZM (Zx (Zd (Za (xW Zbx (h:=x1 ZhY 0 (h:=xW ZfI (h:=x1 lk3 0 (h:=xU (h:=xR Zwi rfl (ZkY _ _ _ _ _ hq) (h:=xA (h:=Zh ?_)))))))))))))
 exact ZB .ret (.inl rfl) [_] t1 ⟨Zg (Zky oz ha oz oz oz),rfl,rfl⟩

set_option maxHeartbeats 400000 in
theorem ZjE (n:Int) (B:Kn):Z9 (pj J) 65 [.int .i64 n] B (.bool (decide (0≤n) && decide (n≤31))):=by
 refine Zb 5 Tryz.func65 rfl rfl rfl (Nat.le_of_ble_eq_true rfl) ?_
 refine Za (xA (h:=Za (xM (h:=xR ZqY rfl (ZfE _ _ _ _) (h:=xA (h:=Zh ?_))))))
 exact ZB .ret (.inl rfl) [_] t1 ⟨rfl,rfl,rfl⟩

set_option maxHeartbeats 400000 in
theorem Zfb (n:Int) (B:Kn):Z9 (pj J) 67 [.int .i64 n] B (.bool (decide (0≤n) && decide (n≤31))):=by
 refine Zb 9 Tryz.func67 rfl rfl rfl (Nat.le_of_ble_eq_true rfl) ?_
 refine Za (xA (h:=Za (xM (h:=Zd6 (h:=xM (h:=Zw (d:=5) rfl (fun g1=>?_) (fun g1=>?_)))))))
 try simp only [sQ,ne_eq] at g1
 refine xM (h:=Zb3 (h:=xT (h:=xA (h:=Zh ?_))))
 exact ZB .ret (.inl rfl) [_] t1 ⟨Zg (by rw [Bool.eq_iff_iff];simp [g1];try omega),rfl,rfl⟩
 try simp only [sQ,ne_eq] at g1
 refine xP (h:=xP (h:=xF (h:=xA (h:=Zh ?_))))
 exact ZB .ret (.inl rfl) [_] t1 ⟨Zg (by rw [Bool.eq_iff_iff];simp [g1];try omega),rfl,rfl⟩

set_option maxHeartbeats 400000 in
theorem Zoy (m:DMail) (hm:m.text.length≤2000000) (B:Kn):Z9 (pj J) 178 [.agg #[.int .i64 m.uid,.int .i64 m.flags,str m.text]] B (.bool (Zcw m)):=by
 refine Zb 17 Tryz.func178 rfl rfl rfl (Nat.le_of_ble_eq_true rfl) ?_
 refine Za (xBx [_,_,_] (h:=fun b1=>xA (h:=ZE [_] rfl (Za (xW Zcu (h:=x1 lk3 0 (h:=xR ZqY rfl (ZfE _ _ _ _) (h:=xM (h:=Zw (d:=6) rfl (fun g1=>?_) (fun g1=>?_))))))))))
 try simp only [sQ,ne_eq] at g1
 refine xW Zfe (h:=x1 lk3 0 (h:=xR Zxq rfl (ZjE _ _) (h:=xT (h:=xM (h:=Zw (d:=11) rfl (fun g2=>?_) (fun g2=>?_))))))
 try simp only [sQ,ne_eq] at g2
 refine xW ZdY (h:=x1 lk9 0 (h:=xVs Tryz.underlying9 (h:=Zb3 (h:=xT (h:=xA (h:=Zh ?_))))))
 exact ZB .ret (.inl rfl) [_] t1 ⟨Zg (by rw [Bool.eq_iff_iff];simp [Zcw,g1,g2];try omega),rfl,rfl⟩
 try simp only [sQ,ne_eq] at g2
 refine xP (h:=xP (h:=xP (h:=xP (h:=xF (h:=xA (h:=Zh ?_))))))
 exact ZB .ret (.inl rfl) [_] t1 ⟨Zg (by rw [Bool.eq_iff_iff];simp [Zcw,g1,g2];try omega),rfl,rfl⟩
 try simp only [sQ,ne_eq] at g1
 refine xP (h:=xP (h:=xP (h:=xF (h:=xM (h:=xP (h:=xP (h:=xP (h:=xP (h:=xF (h:=xA (h:=Zh ?_)))))))))))
 exact ZB .ret (.inl rfl) [_] t1 ⟨Zg (by rw [Bool.eq_iff_iff];simp [Zcw,g1];try omega),rfl,rfl⟩

set_option maxHeartbeats 400000 in
theorem ZmP (m:DMail) (hm:m.text.length≤2000000) (B:Kn):Z9 (pj J) 199 [.agg #[.int .i64 m.uid,.int .i64 m.flags,str m.text]] B (.bool (Zcw m)):=by
 refine Zb 22 Tryz.func199 rfl rfl rfl (Nat.le_of_ble_eq_true rfl) ?_
 refine Za (xBx [_,_,_] (h:=fun b1=>xA (h:=ZE [_] rfl (Za (xW Zcu (h:=x1 lk3 0 (h:=Zd6 (h:=xM (h:=Zw (d:=6) rfl (fun g1=>?_) (fun g1=>?_))))))))))
 try simp only [sQ,ne_eq] at g1
 refine xW Zcu (h:=x1 lk3 0 (h:=Zb3 (h:=xT (h:=xM (h:=Zw (d:=11) rfl (fun g2=>?_) (fun g2=>?_))))))
 try simp only [sQ,ne_eq] at g2
 refine xW Zfe (h:=x1 lk3 0 (h:=xR ZvJ rfl (Zfb _ _) (h:=xT (h:=xM (h:=Zw (d:=16) rfl (fun g3=>?_) (fun g3=>?_))))))
 try simp only [sQ,ne_eq] at g3
 refine xW ZdY (h:=x1 lk9 0 (h:=xVs Tryz.underlying9 (h:=Zb3 (h:=xT (h:=xA (h:=Zh ?_))))))
 exact ZB .ret (.inl rfl) [_] t1 ⟨Zg (by rw [Bool.eq_iff_iff];simp [Zcw,g1,g2,g3];try omega),rfl,rfl⟩
 try simp only [sQ,ne_eq] at g3
 refine xP (h:=xP (h:=xP (h:=xP (h:=xF (h:=xA (h:=Zh ?_))))))
 exact ZB .ret (.inl rfl) [_] t1 ⟨Zg (by rw [Bool.eq_iff_iff];simp [Zcw,g1,g2,g3];try omega),rfl,rfl⟩
 try simp only [sQ,ne_eq] at g2
 refine xP (h:=xP (h:=xP (h:=xF (h:=xM (h:=xP (h:=xP (h:=xP (h:=xP (h:=xF (h:=xA (h:=Zh ?_)))))))))))
 exact ZB .ret (.inl rfl) [_] t1 ⟨Zg (by rw [Bool.eq_iff_iff];simp [Zcw,g1,g2];try omega),rfl,rfl⟩
 try simp only [sQ,ne_eq] at g1
 refine xP (h:=xP (h:=xP (h:=xF (h:=xM (h:=xP (h:=xP (h:=xP (h:=xF (h:=xM (h:=xP (h:=xP (h:=xP (h:=?_)))))))))))))
 refine xP (h:=xF (h:=xA (h:=Zh ?_)))
 exact ZB .ret (.inl rfl) [_] t1 ⟨Zg (by rw [Bool.eq_iff_iff];simp [Zcw,g1];try omega),rfl,rfl⟩

set_option maxHeartbeats 400000 in
theorem ZnW (q:Option Addr) (cp:Nat) (x:DBox) (B:Kn) (hx:SlK B q cp 3 ZZ x.mail):Z9 (pj J) 142 [.agg #[.int .i64 x.next,.slice q x.mail.length cp]] B (.bool (ZdF x)):=by
 refine Zb 46 Tryz.func142 rfl rfl rfl (Nat.le_of_ble_eq_true rfl) ?_
 have hxn:=hx.len
 refine Za (xBx [_,_] (h:=fun b1=>xA (h:=ZE [_] rfl (Za (xA (h:=Ze (Za (xA (h:=Zl (ZC (α:=Nat × Int) [0,1] (fun g=>[(3,.int .i64 g.2),(4,.int .i64 g.1)]) [] (fun g=>[]) (fun g Bx=>Bx=B∧g.1≤x.mail.length∧ZcC (x.mail.take g.1)=(true,g.2)∧0≤g.2∧g.2≤99) (fun g=>x.mail.length - g.1) (0,0) t2 rfl (⟨rfl,Nat.zero_le _,Ze5,oz,oz⟩) (fun g B2 hle2 hI=>?_)))))))))))
 obtain ⟨rfl,hk,hs,hl0,hl1⟩:=hI
 refine ZF [(0,_),(1,_),(3,_),(4,_)] [_] t4 rfl (Ze (Za (xM (h:=xW Zbd (h:=x1 ZhX 0 (h:=xV Tryz.underlying71 (h:=ZJ (h:=Zc rfl (fun g1=>?_) (fun g1=>?_)))))))))
 try simp only [sQ,ne_eq] at g1
 refine Zf (Zd (Ze (Zl (Ze (Za (xW Zbd (h:=x1 ZhX 0 (h:=xM (h:=?_)))))))))
 obtain ⟨m,hm⟩:=ZY (xs:=x.mail) (i:=g.1) om
 obtain ⟨bb4,oo4,rfl⟩:=hx.base hm
 obtain ⟨_,⟨rfl,hb5⟩,hc5⟩:=hx.elem hm
 refine xIx Tryz.underlying71 Zcs (h:=yL [_,_,_] Zf5 hc5 0 (h:=xR Zv9 rfl (Zoy m om2 _) (h:=?_)))
 refine xN (h:=xM (h:=Zw (d:=19) rfl (fun g2=>?_) (fun g2=>?_)))
 try simp only [sQ,ne_eq] at g2
 refine xP (h:=xP (h:=xP (h:=xP (h:=xP (h:=xP (h:=xP (h:=xP (h:=xT (h:=Zc (t:=true) rfl (fun _=>Za (xA (h:=Zh (Zq (ZD (Zq (ZP (ZD (Zq ?_))))))))) (fun h=>Bool.noConfusion h))))))))))
 exact ZB .ret (.inl rfl) [_] t1 ⟨Zg (ZfN (Ze6 hm (by rw [show (scn ZdV (fun _ m=>m.uid) 0 (x.mail.take g.1)).2=g.2 from congrArg Prod.snd hs];simp [ZdV,g2]))).symm,rfl,rfl⟩
 try simp only [sQ,ne_eq] at g2
 refine xW Zbd (h:=x1 ZhX 0 (h:=xM (h:=xIx Tryz.underlying71 Zcs (h:=xW Zcu (h:=y1 lk3 hc5 0 (h:=xM (h:=Zb3 (h:=xF (h:=Zc rfl (fun g3=>?_) (fun g3=>?_))))))))))
 try simp only [sQ,ne_eq] at g3
 refine Za (xA (h:=Zh (Zq (ZD (Zq (ZP (ZD (Zq ?_))))))))
 exact ZB .ret (.inl rfl) [_] t1 ⟨Zg (ZfN (Ze6 hm (by rw [show (scn ZdV (fun _ m=>m.uid) 0 (x.mail.take g.1)).2=g.2 from congrArg Prod.snd hs];simp [ZdV,g2];omega))).symm,rfl,rfl⟩
 try simp only [sQ,ne_eq] at g3
 refine Zf (Zd (Zk (xW Zbd (h:=x1 ZhX 0 (h:=xM (h:=xIx Tryz.underlying71 Zcs (h:=xW Zcu (h:=y1 lk3 hc5 0 (h:=xA (h:=ZS (Zd (Zk (xM (h:=?_))))))))))))))
 refine xD (h:=xA (h:=?_))
 exact ZG (g.1+1,m.uid) [0] so2 ⟨rfl,oz,Zcj hm hs (by simp [ZdV,g2];omega),ZhW g2⟩ t4 rfl
 try simp only [sQ,ne_eq] at g1
 refine ZH (Z0 (ZM (Zx (Zd (Za (xW Zcy (h:=x1 lk3 0 (h:=xM (h:=xD (h:=xR ZqY rfl (ZfE _ _ _ _) (h:=xM (h:=Zw (d:=40) rfl (fun g4=>?_) (fun g4=>?_)))))))))))))
 try simp only [sQ,ne_eq] at g4
 refine xW Zbd (h:=x1 ZhX 0 (h:=xV Tryz.underlying71 (h:=Zb3 (h:=xT (h:=xA (h:=Zh ?_))))))
 exact ZB .ret (.inl rfl) [_] t1 ⟨Zg (by rw [ZfM (ZdT hs oz),g4,Bool.true_and,Bool.eq_iff_iff];simp;omega),rfl,rfl⟩
 try simp only [sQ,ne_eq] at g4
 refine xP (h:=xP (h:=xP (h:=xP (h:=xF (h:=xA (h:=Zh ?_))))))
 exact ZB .ret (.inl rfl) [_] t1 ⟨Zg (by rw [ZfM (ZdT hs oz),g4,Bool.false_and]),rfl,rfl⟩

set_option maxHeartbeats 400000 in
theorem Zg4 (q:Option Addr) (cp:Nat) (x:DBox) (B:Kn) (hx:SlK B q cp 3 ZZ x.mail):Z9 (pj J) 167 [.agg #[.int .i64 x.next,.slice q x.mail.length cp]] B (.bool (ZdF x)):=by
 refine Zb 38 Tryz.func167 rfl rfl rfl (Nat.le_of_ble_eq_true rfl) ?_
 have hxn:=hx.len
 refine Za (xBx [_,_] (h:=fun b1=>xA (h:=ZE [_] rfl (Ze (Za (xW Zbd (h:=x1 ZhX 0 (h:=xV Tryz.underlying71 (h:=ZcL (h:=Zc rfl (fun g0=>?_) (fun g0=>?_)))))))))))
 try simp only [sQ,ne_eq] at g0
 refine Za (xA (h:=Zh (Zq ?_)))
 exact ZB .ret (.inl rfl) [_] t1 ⟨Zg (by simp [ZdF];omega),rfl,rfl⟩
 try simp only [sQ,ne_eq] at g0
 refine Zf (Zd (Za (xA (h:=Ze (Za (xW Zbd (h:=x1 ZhX 0 (h:=xV Tryz.underlying71 (h:=xM (h:=Zl (ZC (α:=Nat × Int) [0,1,9,11,12] (fun g=>[(3,.int .i64 g.2),(13,.int .i64 g.1)]) [] (fun g=>[]) (fun g Bx=>Bx=B∧g.1≤x.mail.length∧ZcC (x.mail.take g.1)=(true,g.2)∧0≤g.2∧g.2≤99) (fun g=>x.mail.length - g.1) (0,0) t2 rfl (⟨rfl,Nat.zero_le _,Ze5,oz,oz⟩) (fun g B2 hle2 hI=>?_))))))))))))
 obtain ⟨rfl,hk,hs,hl0,hl1⟩:=hI
 refine ZF [(0,_),(1,_),(3,_),(9,_),(11,_),(12,_),(13,_)] [_] t7 rfl (Za (ZJ (h:=Ze (Zc rfl (fun g1=>?_) (fun g1=>?_)))))
 try simp only [sQ,ne_eq] at g1
 refine Zf (Zd (Ze (Zl (Za ?_))))
 obtain ⟨m,hm⟩:=ZY (xs:=x.mail) (i:=g.1) om
 obtain ⟨bb4,oo4,rfl⟩:=hx.base hm
 obtain ⟨_,⟨rfl,hb5⟩,hc5⟩:=hx.elem hm
 refine xIx Tryz.underlying71 Zcs (h:=yL [_,_,_] Zf5 hc5 0 (h:=xAl [_,_,_] ZfT (h:=fun b6=>xS [_,_,_] 1 [_,_,_] Zcs (h:=ZE [_,_] rfl (Ze (Za (xL [_,_,_] Zf5 1 (h:=xR ZvU rfl (ZmP m om2 _) (h:=?_)))))))))
 refine xN (h:=xM (h:=Zw (d:=20) rfl (fun g2=>?_) (fun g2=>?_)))
 try simp only [sQ,ne_eq] at g2
 refine xP (h:=xP (h:=xP (h:=xP (h:=xT (h:=Zc (t:=true) rfl (fun _=>Za (xA (h:=Zh (Zq (ZD (Zq (ZP (ZD (Zq ?_))))))))) (fun h=>Bool.noConfusion h))))))
 exact ZB .ret (.inl rfl) [_] t1 ⟨Zg (ZfN (Ze6 hm (by rw [show (scn ZdV (fun _ m=>m.uid) 0 (x.mail.take g.1)).2=g.2 from congrArg Prod.snd hs];simp [ZdV,g2]))).symm,rfl,rfl⟩
 try simp only [sQ,ne_eq] at g2
 refine xW Zcu (h:=x1 lk3 1 (h:=xM (h:=Zb3 (h:=xF (h:=Zc rfl (fun g3=>?_) (fun g3=>?_))))))
 try simp only [sQ,ne_eq] at g3
 refine Za (xA (h:=Zh (Zq (ZD (Zq (ZP (ZD (Zq ?_))))))))
 exact ZB .ret (.inl rfl) [_] t1 ⟨Zg (ZfN (Ze6 hm (by rw [show (scn ZdV (fun _ m=>m.uid) 0 (x.mail.take g.1)).2=g.2 from congrArg Prod.snd hs];simp [ZdV,g2];omega))).symm,rfl,rfl⟩
 try simp only [sQ,ne_eq] at g3
 refine Zf (Zd (Zk (xW Zcu (h:=x1 lk3 1 (h:=xA (h:=ZS (Zd (Zk (xD (h:=xM (h:=?_)))))))))))
 exact ZG (g.1+1,m.uid) [0] so2 ⟨rfl,oz,Zcj hm hs (by simp [ZdV,g2];omega),ZhW g2⟩ t7 rfl
 try simp only [sQ,ne_eq] at g1
 refine ZH (Z0 (ZM (Zx (Zd (Za (xW Zcy (h:=x1 lk3 0 (h:=xM (h:=ZcL (h:=xM (h:=Zw (d:=33) rfl (fun g4=>?_) (fun g4=>?_))))))))))))
 try simp only [sQ,ne_eq] at g4
 refine xW Zcy (h:=x1 lk3 0 (h:=Zb3 (h:=xT (h:=xA (h:=Zh ?_)))))
 exact ZB .ret (.inl rfl) [_] t1 ⟨Zg (by rw [ZfM (ZdT hs oz),Bool.eq_iff_iff];simp;omega),rfl,rfl⟩
 try simp only [sQ,ne_eq] at g4
 refine xP (h:=xP (h:=xP (h:=xF (h:=xA (h:=Zh ?_)))))
 exact ZB .ret (.inl rfl) [_] t1 ⟨Zg (by rw [ZfM (ZdT hs oz),Bool.eq_iff_iff];simp;omega),rfl,rfl⟩

set_option maxHeartbeats 400000 in
theorem Zox (q:Option Addr) (cp:Nat) (x:DBox) (B:Kn) (hx:SlK B q cp 3 ZZ x.mail):Z9 (pj J) 143 [.agg #[.int .i64 x.next,.slice q x.mail.length cp]] B (.int .i64 (Zbm x.mail)):=by
 refine Zb 22 Tryz.func143 rfl rfl rfl (Nat.le_of_ble_eq_true rfl) ?_
 have hxn:=hx.len
 refine Za (xBx [_,_] (h:=fun b1=>xA (h:=ZE [_] rfl (Za (xA (h:=Ze (Za (xA (h:=Zl (ZC (α:=Nat × Nat) [0,1,2] (fun g=>[(3,.int .i64 g.2),(4,.int .i64 g.1)]) [] (fun g=>[]) (fun g Bx=>Bx=B∧g.1≤x.mail.length∧g.2=Zbm (x.mail.take g.1)∧g.2≤g.1*2000000) (fun g=>x.mail.length - g.1) (0,0) t2 rfl (⟨rfl,Nat.zero_le _,by simp [Zbm],oz⟩) (fun g B2 hle2 hI=>?_)))))))))))
 obtain ⟨rfl,hk,hs,hl⟩:=hI
 refine ZF [(0,_),(1,_),(2,_),(3,_),(4,_)] [_] t5 rfl (Ze (Za (xM (h:=xW Zbd (h:=x1 ZhX 0 (h:=xV Tryz.underlying71 (h:=ZJ (h:=Zc rfl (fun g1=>?_) (fun g1=>?_)))))))))
 try simp only [sQ,ne_eq] at g1
 refine Zf (Zd (Ze (Zl (Zk (xM (h:=xW Zbd (h:=x1 ZhX 0 (h:=xM (h:=?_)))))))))
 obtain ⟨m,hm⟩:=ZY (xs:=x.mail) (i:=g.1) om
 obtain ⟨bb4,oo4,rfl⟩:=hx.base hm
 obtain ⟨_,⟨rfl,hb5⟩,hc5⟩:=hx.elem hm
 refine xIx Tryz.underlying71 Zcs (h:=xW ZdY (h:=y1 lk9 hc5 2 (h:=xVs Tryz.underlying9 (h:=xD (h:=xA (h:=ZS (Zd (Zk (xM (h:=xD (h:=xA (h:=?_))))))))))))
 exact ZG (g.1+1,g.2+m.text.length) [0] so2 ⟨rfl,oz,by rw [ZgR hm,← hs],oz⟩ t5 rfl
 try simp only [sQ,ne_eq] at g1
 refine ZH (Z0 (ZM (Zx (Zd (Za (xM (h:=xA (h:=Zh ?_))))))))
 exact ZB .ret (.inl rfl) [_] t1 ⟨ZI (by rw [← ZhN hs oz]),rfl,rfl⟩

set_option maxHeartbeats 400000 in
theorem Zps (q:Option Addr) (cp:Nat) (x:DBox) (B:Kn) (hx:SlK B q cp 3 ZZ x.mail):Z9 (pj J) 198 [.agg #[.int .i64 x.next,.slice q x.mail.length cp]] B (.int .i64 (Zdk x)):=by
 refine Zb 23 Tryz.func198 rfl rfl rfl (Nat.le_of_ble_eq_true rfl) ?_
 have hxn:=hx.len
 refine Za (xBx [_,_] (h:=fun b1=>xA (h:=ZE [_] rfl (Ze (Za (xL [_,_] Zfa 0 (h:=xR Zs4 rfl (Zg4 _ _ (⟨x.next,x.mail⟩:DBox) _ hx) (h:=xN (h:=Zc rfl (fun g0=>?_) (fun g0=>?_))))))))))
 try simp only [sQ,ne_eq] at g0
 refine Za (xA (h:=Zh (Zq ?_)))
 exact ZB .ret (.inl rfl) [_] t1 ⟨ZI (by simp [Zdk,g0]),rfl,rfl⟩
 try simp only [sQ,ne_eq] at g0
 refine Zf (Zd (Za (xA (h:=Ze (Za (xW Zbd (h:=x1 ZhX 0 (h:=xV Tryz.underlying71 (h:=xM (h:=Zl (ZC (α:=Nat × Nat) [0,1,2,8,10,11] (fun g=>[(3,.int .i64 g.2),(12,.int .i64 g.1)]) [] (fun g=>[]) (fun g Bx=>Bx=B∧g.1≤x.mail.length∧g.2=Zbm (x.mail.take g.1)∧g.2≤g.1*2000000) (fun g=>x.mail.length - g.1) (0,0) t2 rfl (⟨rfl,Nat.zero_le _,by simp [Zbm],oz⟩) (fun g B3 hle3 hI=>?_))))))))))))
 obtain ⟨rfl,hk,hs,hl⟩:=hI
 refine ZF [(0,_),(1,_),(2,_),(3,_),(8,_),(10,_),(11,_),(12,_)] [_] t8 rfl (Za (ZJ (h:=Ze (Zc rfl (fun g1=>?_) (fun g1=>?_)))))
 try simp only [sQ,ne_eq] at g1
 refine Zf (Zd (Ze (Zl (Za ?_))))
 obtain ⟨m,hm⟩:=ZY (xs:=x.mail) (i:=g.1) om
 obtain ⟨bb5,oo5,rfl⟩:=hx.base hm
 obtain ⟨_,⟨rfl,hb6⟩,hc6⟩:=hx.elem hm
 refine xIx Tryz.underlying71 Zcs (h:=yL [_,_,_] Zf5 hc6 0 (h:=xAl [_,_,_] ZfT (h:=fun b7=>xS [_,_,_] 1 [_,_,_] Zcs (h:=ZE [_,_] rfl (Zk (xM (h:=xW ZdY (h:=x1 lk9 1 (h:=xVs Tryz.underlying9 (h:=xD (h:=xA (h:=ZS (Zd ?_)))))))))))))
 refine Zk (xD (h:=xM (h:=?_)))
 exact ZG (g.1+1,g.2+m.text.length) [0] so2 ⟨rfl,oz,by rw [ZgR hm,← hs],oz⟩ t8 rfl
 try simp only [sQ,ne_eq] at g1
 refine ZH (Z0 (ZM (Zx (Zd (Za (xM (h:=xA (h:=Zh ?_))))))))
 exact ZB .ret (.inl rfl) [_] t1 ⟨ZI (by rw [Zdk,if_pos g0,← ZhN hs oz]),rfl,rfl⟩

set_option maxHeartbeats 400000 in
theorem Zp8 (n:Int) (B:Kn):Z9 (pj J) 41 [.int .i64 n] B (.bool (decide (0≤n) && decide (n≤63))):=by
 refine Zb 9 Tryz.func41 rfl rfl rfl (Nat.le_of_ble_eq_true rfl) ?_
 refine Za (xA (h:=Za (xM (h:=Zd6 (h:=xM (h:=Zw (d:=5) rfl (fun g1=>?_) (fun g1=>?_)))))))
 try simp only [sQ,ne_eq] at g1
 refine xM (h:=Zb3 (h:=xT (h:=xA (h:=Zh ?_))))
 exact ZB .ret (.inl rfl) [_] t1 ⟨Zg (by rw [Bool.eq_iff_iff];simp [g1];try omega),rfl,rfl⟩
 try simp only [sQ,ne_eq] at g1
 refine xP (h:=xP (h:=xF (h:=xA (h:=Zh ?_))))
 exact ZB .ret (.inl rfl) [_] t1 ⟨Zg (by rw [Bool.eq_iff_iff];simp [g1];try omega),rfl,rfl⟩

set_option maxHeartbeats 400000 in
theorem Zkl (u:DUser) (h1:u.name.length≤2000000) (h2:u.pass.length≤2000000) (B:Kn):Z9 (pj J) 183 [.agg #[str u.name,str u.pass,.int .i64 u.quota]] B (.bool (Zcv u)):=by
 refine Zb 26 Tryz.func183 rfl rfl rfl (Nat.le_of_ble_eq_true rfl) ?_
 refine Za (xBx [_,_,_] (h:=fun b1=>xA (h:=ZE [_] rfl (Za (xW ZaV (h:=x1 lk9 0 (h:=xR ZrK rfl (ZbL _ om2 _) (h:=?_))))))))
 refine xM (h:=Zw (d:=6) rfl (fun g1=>?_) (fun g1=>?_))
 try simp only [sQ,ne_eq] at g1
 refine xW ZaV (h:=x1 lk9 0 (h:=ZeM (h:=xT (h:=xM (h:=Zw (d:=11) rfl (fun g2=>?_) (fun g2=>?_))))))
 try simp only [sQ,ne_eq] at g2
 refine xW Zfg (h:=x1 lk9 0 (h:=xR ZrK rfl (ZbL _ om2 _) (h:=?_)))
 refine xT (h:=xM (h:=Zw (d:=16) rfl (fun g3=>?_) (fun g3=>?_)))
 try simp only [sQ,ne_eq] at g3
 refine xW Zc1 (h:=x1 lk3 0 (h:=Zd6 (h:=xT (h:=xM (h:=Zw (d:=21) rfl (fun g4=>?_) (fun g4=>?_))))))
 try simp only [sQ,ne_eq] at g4
 refine xW Zc1 (h:=x1 lk3 0 (h:=Zb3 (h:=xT (h:=xA (h:=Zh ?_)))))
 exact ZB .ret (.inl rfl) [_] t1 ⟨Zg (by rw [Bool.eq_iff_iff];simp [Zcv,anyone,g1,g2,g3,g4];try omega),rfl,rfl⟩
 try simp only [sQ,ne_eq] at g4
 refine xP (h:=xP (h:=xP (h:=xF (h:=xA (h:=Zh ?_)))))
 exact ZB .ret (.inl rfl) [_] t1 ⟨Zg (by rw [Bool.eq_iff_iff];simp [Zcv,anyone,g1,g2,g3,g4];try omega),rfl,rfl⟩
 try simp only [sQ,ne_eq] at g3
 refine xP (h:=xP (h:=xP (h:=xF (h:=xM (h:=xP (h:=xP (h:=xP (h:=xF (h:=xA (h:=Zh ?_))))))))))
 exact ZB .ret (.inl rfl) [_] t1 ⟨Zg (by rw [Bool.eq_iff_iff];simp [Zcv,anyone,g1,g2,g3];try omega),rfl,rfl⟩
 try simp only [sQ,ne_eq] at g2
 refine xP (h:=xP (h:=xP (h:=xF (h:=xM (h:=xP (h:=xP (h:=xP (h:=xF (h:=xM (h:=xP (h:=xP (h:=xP (h:=?_)))))))))))))
 refine xF (h:=xA (h:=Zh ?_))
 exact ZB .ret (.inl rfl) [_] t1 ⟨Zg (by rw [Bool.eq_iff_iff];simp [Zcv,anyone,g1,g2];try omega),rfl,rfl⟩
 try simp only [sQ,ne_eq] at g1
 refine xP (h:=xP (h:=xP (h:=xF (h:=xM (h:=xP (h:=xP (h:=xP (h:=xF (h:=xM (h:=xP (h:=xP (h:=xP (h:=?_)))))))))))))
 refine xF (h:=xM (h:=xP (h:=xP (h:=xP (h:=xF (h:=xA (h:=Zh ?_)))))))
 exact ZB .ret (.inl rfl) [_] t1 ⟨Zg (by rw [Bool.eq_iff_iff];simp [Zcv,anyone,g1];try omega),rfl,rfl⟩

set_option maxHeartbeats 400000 in
theorem Zg3 (q:Option Addr) (cp:Nat) (us:List DUser) (B:Kn) (hu:SlK B q cp 3 Zn us):Z9 (pj J) 150 [.slice q us.length cp] B (.bool (Zat us)):=by
 refine Zb 32 Tryz.func150 rfl rfl rfl (Nat.le_of_ble_eq_true rfl) ?_
 have hun:=hu.len
 refine Za (xA (h:=Ze (Za (xM (h:=xV Tryz.underlying30 (h:=ZJ (h:=xM (h:=Zw (d:=9) rfl (fun g0=>?_) (fun g0=>?_)))))))))
 try simp only [sQ,ne_eq] at g0
 refine xP (h:=xP (h:=xP (h:=xT (h:=Zc (t:=true) rfl (fun _=>Za (xA (h:=Zh (Zq ?_)))) (fun h=>Bool.noConfusion h)))))
 exact ZB .ret (.inl rfl) [_] t1 ⟨Zg (by rw [Bool.eq_iff_iff];simp [Zat];omega),rfl,rfl⟩
 try simp only [sQ,ne_eq] at g0
 refine xM (h:=xV Tryz.underlying30 (h:=ZcL (h:=xF (h:=Zc rfl (fun g0b=>?_) (fun g0b=>?_)))))
 try simp only [sQ,ne_eq] at g0b
 refine Za (xA (h:=Zh (Zq ?_)))
 exact ZB .ret (.inl rfl) [_] t1 ⟨Zg (by rw [Bool.eq_iff_iff];simp [Zat];omega),rfl,rfl⟩
 try simp only [sQ,ne_eq] at g0b
 refine Zf (Zd (Za (xA (h:=Ze (Za (xM (h:=xV Tryz.underlying30 (h:=xM (h:=Zl (ZC (α:=Nat × Str) [0,13,14,15] (fun g=>[(3,str g.2),(16,.int .i64 g.1)]) [] (fun g=>[]) (fun g Bx=>Bx=B∧g.1≤us.length∧ZdN (us.take g.1)=(true,g.2)∧g.2.length≤2000000) (fun g=>us.length - g.1) (0,[]) t2 rfl (⟨rfl,Nat.zero_le _,Ze5,by simp⟩) (fun g B1 hle1 hI=>?_)))))))))))
 obtain ⟨rfl,hk,hs,hl⟩:=hI
 refine ZF [(0,_),(3,_),(13,_),(14,_),(15,_),(16,_)] [] t6 rfl (Za (ZJ (h:=Ze (Zc rfl (fun g1=>?_) (fun g1=>?_)))))
 try simp only [sQ,ne_eq] at g1
 refine Zf (Zd (Ze (Zl (Za ?_))))
 obtain ⟨m,hm⟩:=ZY (xs:=us) (i:=g.1) om
 obtain ⟨bb3,oo3,rfl⟩:=hu.base hm
 obtain ⟨_,⟨rfl,hb4,hb4b⟩,hc4⟩:=hu.elem hm
 refine xIx Tryz.underlying30 Za3 (h:=yL [_,_,_] ZeK hc4 0 (h:=xAl [_,_,_] ZdK (h:=fun b5=>xS [_,_,_] 0 [_,_,_] Za3 (h:=ZE [_] rfl (Ze (Za (xL [_,_,_] ZeK 0 (h:=xR Zv5 rfl (Zkl m om2 om2 _) (h:=?_)))))))))
 refine xN (h:=xM (h:=Zw (d:=23) rfl (fun g2=>?_) (fun g2=>?_)))
 try simp only [sQ,ne_eq] at g2
 refine xP (h:=xP (h:=xP (h:=xP (h:=xT (h:=Zc (t:=true) rfl (fun _=>Za (xA (h:=Zh (Zq (ZD (Zq (ZP (ZD (Zq ?_))))))))) (fun h=>Bool.noConfusion h))))))
 exact ZB .ret (.inl rfl) [_] t1 ⟨Zg (Ze1 (Ze6 hm (by rw [show (scn Zd7 (fun _ u=>u.name) [] (us.take g.1)).2=g.2 from congrArg Prod.snd hs];simp [Zd7,g2]))).symm,rfl,rfl⟩
 try simp only [sQ,ne_eq] at g2
 refine xW ZaV (h:=x1 lk9 0 (h:=xM (h:=Zp (Zrt rfl rfl rfl rfl (xF (h:=Zc rfl (fun g3=>?_) (fun g3=>?_)))))))
 try simp only [sQ,ne_eq] at g3
 refine Za (xA (h:=Zh (Zq (ZD (Zq (ZP (ZD (Zq ?_))))))))
 exact ZB .ret (.inl rfl) [_] t1 ⟨Zg (Ze1 (Ze6 hm (by rw [show (scn Zd7 (fun _ u=>u.name) [] (us.take g.1)).2=g.2 from congrArg Prod.snd hs,Zd7,Zbi g.2 m.name,g3];simp))).symm,rfl,rfl⟩
 try simp only [sQ,ne_eq] at g3
 refine Zf (Zd (Zk (xW ZaV (h:=x1 lk9 0 (h:=xA (h:=ZS (Zd (Zk (xD (h:=xM (h:=?_)))))))))))
 exact ZG (g.1+1,m.name) [] so2 ⟨rfl,oz,Zcj hm hs (by rw [Zd7,Zbi g.2 m.name,g2,g3];rfl),oy⟩ t6 rfl
 try simp only [sQ,ne_eq] at g1
 refine ZH (Z0 (ZM (Zx (Zd (Za (xA (h:=Zh ?_)))))))
 exact ZB .ret (.inl rfl) [_] t1 ⟨Zg (by rw [ZgM (ZdT hs oz),Bool.eq_iff_iff];simp;omega),rfl,rfl⟩

set_option maxHeartbeats 400000 in
theorem Zi9 (x:DUser) (u:Str) (b:Nat) (h1:x.name.length≤2000000) (h2:u.length≤2000000) (B:Kn) (hb:Zaq B b 0 [str u]):Z9 (pj J) 157 [.agg #[str x.name,str x.pass,.int .i64 x.quota],ptr ⟨b,0,none⟩] B (.bool (decide (x.name=u))):=by
 refine Zb 8 Tryz.func157 rfl rfl rfl (Nat.le_of_ble_eq_true rfl) ?_
 refine Za (xBx [_,_,_] (h:=fun b1=>xA (h:=ZE [_] rfl (Za (xW ZaV (h:=x1 lk9 0 (h:=Zp (Zr rfl rfl lk9 rfl (hb _ 0 _ rfl) (Zdp (h:=xA (h:=Zh ?_)))))))))))
 exact ZB .ret (.inl rfl) [_] t1 ⟨rfl,rfl,rfl⟩

set_option maxHeartbeats 400000 in
theorem Zo3 (q:Option Addr) (cp:Nat) (us:List DUser) (F:FuncId) (cap:Array Value) (t:DUser→Bool) (B:Kn) (hu:SlK B q cp 3 Zn us) (he:enters (pj J) F=true) (hF :∀x:DUser,x.name.length≤2000000→x.pass.length≤2000000→Z9 (pj J) F ([.agg #[str x.name,str x.pass,.int .i64 x.quota]] ++ cap.toList) B (.bool (t x))):Z9 (pj J) 156 [.slice q us.length cp,.func (.func F) #[] cap] B (.tuple #[.agg #[str (Zfj t us).1.name,str (Zfj t us).1.pass,.int .i64 (Zfj t us).1.quota],.bool (Zfj t us).2]):=by
 refine Zb 21 Tryz.func156 rfl rfl rfl (Nat.le_of_ble_eq_true rfl) ?_
 have hun:=hu.len
 refine Za (xAl [_,_,_] ZdK (h:=fun b1=>xA (h:=ZE [_] rfl (Ze (Za (xM (h:=xV Tryz.underlying30 (h:=xM (h:=Zl (ZC (α:=Nat) [0,1,4,9,10] (fun k=>[(11,.int .i64 k)]) [] (fun k=>[]) (fun k Bx=>Bx=B∧k≤us.length∧∀y,y∈us.take k→t y=false) (fun k=>us.length - k) 0 t1 rfl (⟨rfl,Nat.zero_le _,by simp⟩) (fun k B2 hle2 hI=>?_)))))))))))
 obtain ⟨rfl,hk,ha⟩:=hI
 refine ZF [(0,_),(1,_),(4,_),(9,_),(10,_),(11,_)] [_] t6 rfl (Za (ZJ (h:=Ze (Zc rfl (fun g1=>?_) (fun g1=>?_)))))
 try simp only [sQ,ne_eq] at g1
 refine Zf (Zd (Ze (Zl (Za ?_))))
 obtain ⟨m,hm⟩:=ZY (xs:=us) (i:=k) om
 obtain ⟨bb4,oo4,rfl⟩:=hu.base hm
 obtain ⟨_,⟨rfl,hb5,hb5b⟩,hc5⟩:=hu.elem hm
 refine xIx Tryz.underlying30 Za3 (h:=yL [_,_,_] ZeK hc5 0 (h:=xAl [_,_,_] ZdK (h:=fun b6=>xS [_,_,_] 1 [_,_,_] Za3 (h:=ZE [_,_] rfl (Za (xM (h:=xL [_,_,_] ZeK 1 (h:=Zp (Zrm rfl rfl he rfl rfl (hF m om2 om2) ?_)))))))))
 refine Zc rfl (fun g2=>?_) (fun g2=>?_)
 try simp only [sQ,ne_eq] at g2
 refine Za (xL [_,_,_] ZeK 1 (h:=xS [_,_,_] 0 [_,_,_] Za3 (h:=xA (h:=ZE [_,_] rfl (Zh (ZD (Zq (ZP (ZD (Zq ?_))))))))))
 exact ZB .ret (.inl rfl) [_,_] ⟨⟨_,rfl,.inr ⟨[_,_,_],ZeK,Zb1 0 rfl rfl rfl,rfl⟩⟩,rfl,trivial⟩ ⟨by rw [Zo2 hm g2 ha];rfl,rfl,rfl⟩
 try simp only [sQ,ne_eq] at g2
 refine Zf (ZS (Zd (Zk (xD (h:=xM (h:=?_))))))
 exact ZG (k+1) [0] so2 ⟨rfl,oz,Za7 hm ha g2⟩ t6 rfl
 try simp only [sQ,ne_eq] at g1
 refine ZH (Z0 (ZM (Zx (Zd (Za (xAl [_,_,_] ZdK (h:=fun b8=>ZE [_,_] rfl (Za (xL [_,_,_] ZeK 1 (h:=xS [_,_,_] 0 [_,_,_] Za3 (h:=xA (h:=ZE [_,_] rfl (Zh ?_)))))))))))))
 exact ZB .ret (.inl rfl) [_,_] ⟨⟨_,rfl,.inr ⟨[_,_,_],ZeK,Zb1 0 rfl rfl rfl,rfl⟩⟩,rfl,trivial⟩ ⟨by rw [Zm1 (Zbf oz ha)];rfl,rfl,rfl⟩

set_option maxHeartbeats 400000 in
theorem ZgO (q:Option Addr) (cp:Nat) (us:List DUser) (nm:Str) (hn:nm.length≤2000000) (B:Kn) (hu:SlK B q cp 3 Zn us):Z9 (pj J) 102 [.slice q us.length cp,str nm] B (.tuple #[.agg #[str (ZaB us nm).1.name,str (ZaB us nm).1.pass,.int .i64 (ZaB us nm).1.quota],.bool (ZaB us nm).2]):=by
 refine Zb 15 Tryz.func102 rfl rfl rfl (Nat.le_of_ble_eq_true rfl) ?_
 have hun:=hu.len
 refine Za (xBx [_] (h:=fun b1=>xAl [_,_,_] ZdK (h:=fun b2=>xA (h:=ZE [_,_] rfl (Ze (Za (xM (h:=xR Zuv rfl (Zg3 _ _ _ _ hu) (h:=xN (h:=Zc rfl (fun g0=>?_) (fun g0=>?_)))))))))))
 try simp only [sQ,ne_eq] at g0
 refine Za (xB [] [_,_,_] [_,_,_] Zvw ZdK (h:=xS [_,_,_] 1 [_,_,_] Za3 (h:=xA (h:=ZE [_,_] rfl (Zh (Zq ?_))))))
 exact ZB .ret (.inl rfl) [_,_] ⟨⟨_,rfl,.inr ⟨[_,_,_],ZeK,Zb1 1 rfl rfl rfl,rfl⟩⟩,rfl,trivial⟩ ⟨by rw [ZaB,g0];rfl,rfl,rfl⟩
 try simp only [sQ,ne_eq] at g0
 refine Zf (Zd (Za (xM (h:=Zp (ZcG (xs:=[]) (ys:=[_]) rfl rfl rfl rfl (Zp (Zi2 0 rfl rfl rfl Zwp rfl (Z9.borrow fun hm=>Zo3 _ _ us 157 _ (fun y=>decide (y.name=nm)) _ (hu.mono Zn.mono (Kn.le_add _ _)) Zwo (fun y h1 h2=>Zi9 y nm _ h1 hn _ (Zin hm))) (xE (h:=xE (h:=xS [_,_,_] 1 [_,_,_] Za3 (h:=xA (h:=ZE [_,_] rfl (Zh ?_)))))))))))))
 exact ZB .ret (.inl rfl) [_,_] ⟨⟨_,rfl,.inr ⟨[_,_,_],ZeK,Zb1 1 rfl rfl rfl,rfl⟩⟩,rfl,trivial⟩ ⟨by rw [ZaB,if_pos g0];rfl,rfl,rfl⟩

set_option maxHeartbeats 400000 in
theorem ZgB (b o:Nat) (q1 q2 q3:Option Addr) (c1 c2 c3:Nat) (x:DHost) (nm:Str) (hn:nm.length≤2000000) (B:Kn) (hh:Zaq B b o [str x.domain,.slice q1 x.users.length c1,.slice q2 x.folders.length c2,.int .i64 x.queue.next,.slice q3 x.queue.items.length c3]) (hu:SlK B q1 c1 3 Zn x.users):Z9 (pj J) 44 [ptr ⟨b,o,none⟩,str nm] B (.bool (ZaB x.users nm).2):=by
 refine Zb 17 Tryz.func44 rfl rfl rfl (Nat.le_of_ble_eq_true rfl) ?_
 refine Za (xA (h:=Za (xM (h:=xNc (h:=xW Zbn (h:=Zp (Zr rfl rfl ZhA rfl (hh _ 1 _ rfl) (xM (h:=xR ZuA rfl (ZgO _ _ _ nm om2 _ hu) (h:=?_))))))))))
 refine xM (h:=xE (h:=xE (h:=xAl [_,_,_] ZdK (h:=fun b2=>xS [_,_,_] 0 [_,_,_] Za3 (h:=xA (h:=ZE [_] rfl (Za (xM (h:=xA (h:=Zh ?_))))))))))
 exact ZB .ret (.inl rfl) [_] t1 ⟨rfl,rfl,rfl⟩

set_option maxHeartbeats 400000 in
theorem ZjH (q1 q2 q3:Option Addr) (c1 c2 c3:Nat) (x:DHost) (ow nm:Str) (ho:ow.length≤2000000) (hn:nm.length≤2000000) (B:Kn) (hf:SlK B q2 c2 5 Zj x.folders):Z9 (pj J) 33 [.agg #[str x.domain,.slice q1 x.users.length c1,.slice q2 x.folders.length c2,.int .i64 x.queue.next,.slice q3 x.queue.items.length c3],str ow,str nm] B (.int .i64 (ZcX (inF ow nm) x.folders)):=by
 refine Zb 34 Tryz.func33 rfl rfl rfl (Nat.le_of_ble_eq_true rfl) ?_
 have hfn:=hf.len
 refine Za (xBx [_,_,_,_,_] (h:=fun b1=>xA (h:=ZE [_] rfl (Ze (Za (xA (h:=Zl (ZC (α:=Nat) [0,1,2,3] (fun k=>[(7,.int .i64 k)]) [] (fun k=>[]) (fun k Bx=>Bx=B∧k≤x.folders.length∧∀y,y∈x.folders.take k→inF ow nm y=false) (fun k=>x.folders.length - k) 0 t1 rfl (⟨rfl,Nat.zero_le _,by simp⟩) (fun k B2 hle2 hI=>?_)))))))))
 obtain ⟨rfl,hk,ha⟩:=hI
 refine ZF [(0,_),(1,_),(2,_),(3,_),(7,_)] [_] t5 rfl (Ze (Za (xM (h:=xW Zar (h:=x1 Zew 0 (h:=xV Tryz.underlying31 (h:=ZJ (h:=Zc rfl (fun g1=>?_) (fun g1=>?_)))))))))
 try simp only [sQ,ne_eq] at g1
 refine Zf (Zd (Ze (Zl (Za (xW Zar (h:=x1 Zew 0 (h:=xM (h:=?_))))))))
 obtain ⟨y,hy⟩:=ZY (xs:=x.folders) (i:=k) om
 obtain ⟨bb4,oo4,rfl⟩:=hf.base hy
 obtain ⟨_,⟨qg5,cg5,qm5,cm5,rfl,hg5,hm5,hb5,hb5b⟩,hc5⟩:=hf.elem hy
 have hg5n:=hg5.len
 have hm5n:=hm5.len
 have hm5s:=Zal hm5
 refine xIx Tryz.underlying31 ZbO (h:=xW Zbw (h:=y1 lk9 hc5 0 (h:=xM (h:=Zdp (h:=xM (h:=Zw (d:=23) rfl (fun g2=>?_) (fun g2=>?_)))))))
 try simp only [sQ,ne_eq] at g2
 refine xW Zar (h:=x1 Zew 0 (h:=xM (h:=xIx Tryz.underlying31 ZbO (h:=xW Zdz (h:=y1 lk9 hc5 1 (h:=xM (h:=Zdp (h:=xT (h:=Zc rfl (fun g3=>?_) (fun g3=>?_))))))))))
 try simp only [sQ,ne_eq] at g3
 refine Za (xM (h:=xA (h:=Zh (ZD (Zq (ZP (ZD (Zq ?_))))))))
 exact ZB .ret (.inl rfl) [_] t1 ⟨ZI (ZgC hy (by simp [inF,g2,g3]) ha).symm,rfl,rfl⟩
 try simp only [sQ,ne_eq] at g3
 refine Zf (ZS (Zd (Zk (xM (h:=xD (h:=xA (h:=?_)))))))
 exact ZG (k+1) [0] so2 ⟨rfl,oz,Za7 hy ha (by simp [inF,g2,g3])⟩ t5 rfl
 try simp only [sQ,ne_eq] at g2
 refine xP (h:=xP (h:=xP (h:=xP (h:=xP (h:=xP (h:=xP (h:=xP (h:=xF (h:=Zc (t:=false) rfl (fun h=>Bool.noConfusion h) (fun _=>Zf (ZS (Zd (Zk ?_)))))))))))))
 refine xM (h:=xD (h:=xA (h:=?_)))
 exact ZG (k+1) [0] so2 ⟨rfl,oz,Za7 hy ha (by simp [inF,g2])⟩ t5 rfl
 try simp only [sQ,ne_eq] at g1
 refine ZH (Z0 (ZM (Zx (Zd (Za (xA (h:=Zh ?_)))))))
 exact ZB .ret (.inl rfl) [_] t1 ⟨ZI (Zek (Zbf oz ha)).symm,rfl,rfl⟩

set_option maxHeartbeats 400000 in
theorem ZsR (f:DFolder) (qa qb:Option Addr) (ca cb:Nat) (ow nm:Str) (b b':Nat) (h1:f.owner.length≤2000000) (h2:f.name.length≤2000000) (h3:ow.length≤2000000) (h4:nm.length≤2000000) (B:Kn) (hb:Zaq B b 0 [str ow]) (hb2:Zaq B b' 0 [str nm]):Z9 (pj J) 126 [.agg #[str f.owner,str f.name,.slice qa f.grants.length ca,.int .i64 f.next,.slice qb f.mail.length cb],ptr ⟨b,0,none⟩,ptr ⟨b',0,none⟩] B (.bool (inF ow nm f)):=by
 refine Zb 15 Tryz.func126 rfl rfl rfl (Nat.le_of_ble_eq_true rfl) ?_
 refine Za (xBx [_,_,_,_,_] (h:=fun b1=>xA (h:=ZE [_] rfl (Za (xW Zbw (h:=x1 lk9 0 (h:=Zp (Zr rfl rfl lk9 rfl (hb _ 0 _ rfl) (Zdp (h:=xM (h:=Zw (d:=9) rfl (fun g1=>?_) (fun g1=>?_))))))))))))
 try simp only [sQ,ne_eq] at g1
 refine xW Zdz (h:=x1 lk9 0 (h:=Zp (Zr rfl rfl lk9 rfl (hb2 _ 0 _ rfl) (Zdp (h:=xT (h:=xA (h:=Zh ?_)))))))
 exact ZB .ret (.inl rfl) [_] t1 ⟨Zg (by rw [Bool.eq_iff_iff];simp [inF,g1]),rfl,rfl⟩
 try simp only [sQ,ne_eq] at g1
 refine xP (h:=xP (h:=xP (h:=xP (h:=xF (h:=xA (h:=Zh ?_))))))
 exact ZB .ret (.inl rfl) [_] t1 ⟨Zg (by rw [Bool.eq_iff_iff];simp [inF,g1]),rfl,rfl⟩

set_option maxHeartbeats 400000 in
theorem ZqB (q:Option Addr) (cp:Nat) (fs:List DFolder) (F:FuncId) (cap:Array Value) (t:DFolder→Bool) (B:Kn) (hf:SlK B q cp 5 Zj fs) (he:enters (pj J) F=true) (hF :∀(f:DFolder) (qa qb:Option Addr) (ca cb:Nat),f.owner.length≤2000000→f.name.length≤2000000→Z9 (pj J) F ([.agg #[str f.owner,str f.name,.slice qa f.grants.length ca,.int .i64 f.next,.slice qb f.mail.length cb]] ++ cap.toList) B (.bool (t f))):Z9 (pj J) 125 [.slice q fs.length cp,.func (.func F) #[] cap] B (.int .i64 (ZcX t fs)):=by
 refine Zb 19 Tryz.func125 rfl rfl rfl (Nat.le_of_ble_eq_true rfl) ?_
 have hfn:=hf.len
 refine Za (xA (h:=Ze (Za (xM (h:=xV Tryz.underlying31 (h:=xM (h:=Zl (ZC (α:=Nat) [0,1,7] (fun k=>[(8,.int .i64 k)]) [] (fun k=>[]) (fun k Bx=>Bx=B∧k≤fs.length∧∀y,y∈fs.take k→t y=false) (fun k=>fs.length - k) 0 t1 rfl (⟨rfl,Nat.zero_le _,by simp⟩) (fun k B1 hle1 hI=>?_)))))))))
 obtain ⟨rfl,hk,ha⟩:=hI
 refine ZF [(0,_),(1,_),(7,_),(8,_)] [] t4 rfl (Za (ZJ (h:=Ze (Zc rfl (fun g1=>?_) (fun g1=>?_)))))
 try simp only [sQ,ne_eq] at g1
 refine Zf (Zd (Ze (Zl (Za (xM (h:=xA (h:=Za (xM (h:=xM (h:=xM (h:=?_)))))))))))
 obtain ⟨y,hy⟩:=ZY (xs:=fs) (i:=k) om
 obtain ⟨bb3,oo3,rfl⟩:=hf.base hy
 obtain ⟨_,⟨qg4,cg4,qm4,cm4,rfl,hg4,hm4,hb4,hb4b⟩,hc4⟩:=hf.elem hy
 have hg4n:=hg4.len
 have hm4n:=hm4.len
 have hm4s:=Zal hm4
 refine xIx Tryz.underlying31 ZbO (h:=yL [_,_,_,_,_] Zhx hc4 0 (h:=Zp (Zrm rfl rfl he rfl rfl (hF y _ _ _ _ om2 om2) ?_)))
 refine Zc rfl (fun g2=>?_) (fun g2=>?_)
 try simp only [sQ,ne_eq] at g2
 refine Za (xM (h:=xA (h:=Zh (ZD (Zq (ZP (ZD (Zq ?_))))))))
 exact ZB .ret (.inl rfl) [_] t1 ⟨ZI (ZgC hy g2 ha).symm,rfl,rfl⟩
 try simp only [sQ,ne_eq] at g2
 refine Zf (ZS (Zd (Zk (xD (h:=xM (h:=?_))))))
 exact ZG (k+1) [] so2 ⟨rfl,oz,Za7 hy ha g2⟩ t4 rfl
 try simp only [sQ,ne_eq] at g1
 refine ZH (Z0 (ZM (Zx (Zd (Za (xA (h:=Zh ?_)))))))
 exact ZB .ret (.inl rfl) [_] t1 ⟨ZI (Zek (Zbf oz ha)).symm,rfl,rfl⟩

set_option maxHeartbeats 400000 in
theorem ZrJ (b o:Nat) (q1 q2 q3:Option Addr) (c1 c2 c3:Nat) (x:DHost) (ow nm:Str) (ho:ow.length≤2000000) (hn:nm.length≤2000000) (B:Kn) (hh:Zaq B b o [str x.domain,.slice q1 x.users.length c1,.slice q2 x.folders.length c2,.int .i64 x.queue.next,.slice q3 x.queue.items.length c3]) (hf:SlK B q2 c2 5 Zj x.folders):Z9 (pj J) 74 [ptr ⟨b,o,none⟩,str ow,str nm] B (.int .i64 (ZcX (inF ow nm) x.folders)):=by
 refine Zb 13 Tryz.func74 rfl rfl rfl (Nat.le_of_ble_eq_true rfl) ?_
 refine Za (xBx [_] (h:=fun b1=>xBx [_] (h:=fun b2=>xA (h:=ZE [_,_] rfl (Za (xM (h:=xNc (h:=xW Zar (h:=Zp (Zr rfl rfl Zew rfl (hh _ 2 _ rfl) (Zp (ZcG (xs:=[]) (ys:=[_,_]) rfl rfl rfl rfl (Zp (Ztm 0 1 rfl rfl rfl rfl rfl ZwM rfl (Z9.borrow2 fun hm1 hm2=>ZqB _ _ x.folders 126 _ (inF ow nm) _ ((hf.mono Zj.mono (Kn.le_add _ _)).mono Zj.mono (Kn.le_add _ _)) ZwL (fun f qa qb ca cb h1 h2=>ZsR f qa qb ca cb ow nm _ _ h1 h2 ho hn _ (Zin hm1) (Zin hm2))) (xA (h:=?_))))))))))))))))
 refine Zh ?_
 exact ZB .ret (.inl rfl) [_] t1 ⟨rfl,rfl,rfl⟩

set_option maxHeartbeats 400000 in
theorem ZkB (b o:Nat) (q1 q2 q3:Option Addr) (c1 c2 c3:Nat) (x:DHost) (B:Kn) (hh:Zaq B b o [str x.domain,.slice q1 x.users.length c1,.slice q2 x.folders.length c2,.int .i64 x.queue.next,.slice q3 x.queue.items.length c3]) (hu:SlK B q1 c1 3 Zn x.users) (hi:SlK B q3 c3 4 Zu x.queue.items):Z9 (pj J) 153 [ptr ⟨b,o,none⟩] B (.bool (x.queue.items.all (ZcE x.users))):=by
 refine Zb 35 Tryz.func153 rfl rfl rfl (Nat.le_of_ble_eq_true rfl) ?_
 have hin:=hi.len
 refine Za (xA (h:=Ze (Za (xM (h:=xNc (h:=xW Zd5 (h:=xW Zbx (h:=Zp (Zr rfl rfl ZhY rfl (hh _ 4 _ rfl) (xV Tryz.underlying32 (h:=xM (h:=Zl (ZC (α:=Nat) [0,11,12] (fun k=>[(13,.int .i64 k)]) [] (fun k=>[]) (fun k Bx=>Bx=B∧k≤x.queue.items.length∧∀y,y∈x.queue.items.take k→ZcE x.users y=true) (fun k=>x.queue.items.length - k) 0 t1 rfl (⟨rfl,Nat.zero_le _,by simp⟩) (fun k B1 hle1 hI=>?_))))))))))))))
 obtain ⟨rfl,hk,ha⟩:=hI
 refine ZF [(0,_),(11,_),(12,_),(13,_)] [] t4 rfl (Za (ZJ (h:=Ze (Zc rfl (fun g1=>?_) (fun g1=>?_)))))
 try simp only [sQ,ne_eq] at g1
 refine Zf (Zd (Ze (Zl (Za ?_))))
 obtain ⟨y,hy⟩:=ZY (xs:=x.queue.items) (i:=k) om
 obtain ⟨bb3,oo3,rfl⟩:=hi.base hy
 obtain ⟨_,⟨qi4,ci4,rfl,hi4,hb4,hb4b⟩,hc4⟩:=hi.elem hy
 have hi4n:=hi4.len
 refine xIx Tryz.underlying32 Zbg (h:=yL [_,_,_,_] Zef hc4 0 (h:=xAl [_,_,_,_] ZeH (h:=fun b5=>xS [_,_,_,_] 0 [_,_,_,_] Zbg (h:=ZE [_] rfl (Ze (Za (xM (h:=xW ZdZ (h:=x1 lk9 0 (h:=xR ZuX rfl (ZgB _ _ _ _ _ _ _ _ x y.fr om2 _ hh hu) (h:=?_)))))))))))
 refine xN (h:=Zc rfl (fun g2=>?_) (fun g2=>?_))
 try simp only [sQ,ne_eq] at g2
 refine Za (xA (h:=Zh (Zq (ZD (Zq (ZP (ZD (Zq ?_))))))))
 exact ZB .ret (.inl rfl) [_] t1 ⟨Zg (Zdg hy (by simp [ZcE,g2])).symm,rfl,rfl⟩
 try simp only [sQ,ne_eq] at g2
 refine Zf (Zd (Za (xW Zcc (h:=x1 ZkP 0 (h:=xV Tryz.underlying43 (h:=xM (h:=Zl (ZC (α:=Nat) [0,4,11,12,13,14,21,23,24] (fun j=>[(25,.int .i64 j)]) [] (fun j=>[]) (fun j Bx=>Bx=B1∧j≤y.left.length∧∀z,z∈y.left.take j→(ZaB x.users z).2=true) (fun j=>y.left.length - j) 0 t1 rfl (⟨rfl,Nat.zero_le _,by simp⟩) (fun j B7 hle7 hI=>?_)))))))))
 obtain ⟨rfl,hj,hb⟩:=hI
 refine ZF [(0,_),(4,_),(11,_),(12,_),(13,_),(14,_),(21,_),(23,_),(24,_),(25,_)] [_] t10 rfl (Za (ZJ (h:=Ze (Zc rfl (fun g3=>?_) (fun g3=>?_)))))
 try simp only [sQ,ne_eq] at g3
 refine Zf (Zd (Ze (Zl (Za ?_))))
 obtain ⟨z,hz⟩:=ZY (xs:=y.left) (i:=j) om
 obtain ⟨bb9,oo9,rfl⟩:=hi4.base hz
 obtain ⟨_,⟨rfl,hb10⟩,hc10⟩:=hi4.elem hz
 refine xIx Tryz.underlying43 sz9 (h:=y1 lk9 hc10 0 (h:=xA (h:=Za (xM (h:=xM (h:=xR ZuX rfl (ZgB _ _ _ _ _ _ _ _ x z om2 _ hh hu) (h:=?_)))))))
 refine xN (h:=Zc rfl (fun g4=>?_) (fun g4=>?_))
 try simp only [sQ,ne_eq] at g4
 refine Za (xA (h:=Zh (ZD (Zq (ZP (ZD (ZD (Zq (ZP (ZD (Zq ?_)))))))))))
 exact ZB .ret (.inl rfl) [_] t1 ⟨Zg (Zdg hy (by rw [ZcE,Zdg hz g4,Bool.and_false])).symm,rfl,rfl⟩
 try simp only [sQ,ne_eq] at g4
 refine Zf (ZS (Zd (Zk (xD (h:=xM (h:=?_))))))
 exact ZG (j+1) [0] so2 ⟨rfl,oz,Za7 hz hb g4⟩ t10 rfl
 try simp only [sQ,ne_eq] at g3
 refine ZH (Z0 (ZM (Zx (ZS (Zd (Zk (xD (h:=xM (h:=?_)))))))))
 exact ZG (k+1) [] so2 ⟨rfl,oz,Za7 hy ha (by rw [ZcE,g2,ZeG (Zbf oz hb)];rfl)⟩ t4 rfl
 try simp only [sQ,ne_eq] at g1
 refine ZH (Z0 (ZM (Zx (Zd (Za (xA (h:=Zh ?_)))))))
 exact ZB .ret (.inl rfl) [_] t1 ⟨Zg (ZeG (Zbf oz ha)).symm,rfl,rfl⟩

set_option maxHeartbeats 400000 in
theorem Zow (f g:DFolder) (qa qb qc qd:Option Addr) (ca cb cc cd:Nat) (B:Kn):Z9 (pj J) 71 [.agg #[str f.owner,str f.name,.slice qa f.grants.length ca,.int .i64 f.next,.slice qb f.mail.length cb],.agg #[str g.owner,str g.name,.slice qc g.grants.length cc,.int .i64 g.next,.slice qd g.mail.length cd]] B (.bool (ZfD f g)):=by
 refine Zb 24 Tryz.func71 rfl rfl rfl (Nat.le_of_ble_eq_true rfl) ?_
 refine Za (xBx [_,_,_,_,_] (h:=fun b1=>xBx [_,_,_,_,_] (h:=fun b2=>xA (h:=ZE [_,_] rfl (Za (xW Zbw (h:=x1 lk9 0 (h:=xW Zbw (h:=x1 lk9 1 (h:=Zrl (h:=xM (h:=Zw (d:=10) rfl (fun g1=>?_) (fun g1=>?_)))))))))))))
 try simp only [sQ,ne_eq] at g1
 refine xP (h:=xP (h:=xP (h:=xP (h:=xP (h:=xP (h:=xP (h:=xP (h:=xP (h:=xP (h:=xP (h:=xP (h:=xT (h:=?_)))))))))))))
 refine xA (h:=Zh ?_)
 exact ZB .ret (.inl rfl) [_] t1 ⟨Zg (by rw [Bool.eq_iff_iff];simp [ZfD,Zdd,g1]),rfl,rfl⟩
 try simp only [sQ,ne_eq] at g1
 refine xW Zbw (h:=x1 lk9 0 (h:=xW Zbw (h:=x1 lk9 1 (h:=Zdp (h:=xM (h:=Zw (d:=16) rfl (fun g2=>?_) (fun g2=>?_)))))))
 try simp only [sQ,ne_eq] at g2
 refine xW Zdz (h:=x1 lk9 0 (h:=xW Zdz (h:=x1 lk9 1 (h:=Zrl (h:=xT (h:=xF (h:=xA (h:=Zh ?_))))))))
 exact ZB .ret (.inl rfl) [_] t1 ⟨Zg (by rw [Bool.eq_iff_iff];simp [ZfD,Zdd,g1,g2]),rfl,rfl⟩
 try simp only [sQ,ne_eq] at g2
 refine xP (h:=xP (h:=xP (h:=xP (h:=xP (h:=xF (h:=xF (h:=xA (h:=Zh ?_))))))))
 exact ZB .ret (.inl rfl) [_] t1 ⟨Zg (by rw [Bool.eq_iff_iff];simp [ZfD,Zdd,g1,g2]),rfl,rfl⟩

set_option maxHeartbeats 400000 in
theorem Zkt (q:Option Addr) (cp:Nat) (us:List DUser) (B:Kn) (hu:SlK B q cp 3 Zn us):Z9 (pj J) 86 [.slice q us.length cp] B (.bool (Zat us)):=by
 refine Zb 54 Tryz.func86 rfl rfl rfl (Nat.le_of_ble_eq_true rfl) ?_
 have hun:=hu.len
 refine Za (xA (h:=Ze (Za (xA (h:=Zl (ZC (α:=Nat × Str) [0] (fun g=>[(3,.int .i64 g.1)]) [] (fun g=>[]) (fun g Bx=>Bx=B∧g.1≤us.length∧ZdN (us.take g.1)=(true,g.2)∧Prev (fun y=>y.name) ([]:Str) us g.1 g.2) (fun g=>us.length - g.1) (0,[]) t1 rfl (⟨rfl,Nat.zero_le _,Ze5,.zero⟩) (fun g B1 hle1 hI=>?_)))))))
 obtain ⟨rfl,hk,hs,hp⟩:=hI
 refine ZF [(0,_),(3,_)] [] t2 rfl (Ze (Za (xM (h:=xM (h:=xV Tryz.underlying30 (h:=ZJ (h:=Zc rfl (fun g1=>?_) (fun g1=>?_))))))))
 try simp only [sQ,ne_eq] at g1
 refine Zf (Zd (Ze (Zl (Za (xM (h:=xM (h:=?_)))))))
 obtain ⟨m,hm⟩:=ZY (xs:=us) (i:=g.1) om
 obtain ⟨bb3,oo3,rfl⟩:=hu.base hm
 obtain ⟨_,⟨rfl,hb4,hb4b⟩,hc4⟩:=hu.elem hm
 refine xIx Tryz.underlying30 Za3 (h:=yL [_,_,_] ZeK hc4 0 (h:=xAl [_,_,_] ZdK (h:=fun b5=>xS [_,_,_] 0 [_,_,_] Za3 (h:=ZE [_] rfl (Ze (Z8 (same _ _) mo kr ⟨rfl,rfl⟩ (fun _ _=>?_)))))))
 refine aW 0 rfl ZaV (h:=aT 1 rfl (Zab fun D=>Zr rfl rfl lk9 rfl (atL 0 rfl rfl rfl) r4) (h:=aT 2 rfl (Zab fun D=>Zaf rfl rfl Zs1 rfl (Zb7 _ om2 _) r4) (h:=?_)))
 refine aN 3 rfl (h:=aM 4 rfl (h:=Zav (d:=19) rfl (fun g2=>?_) (fun g2=>?_)))
 try simp only [sQ,ne_eq] at g2
 refine aZ 5 rfl (h:=aZ 6 rfl (h:=aZ 7 rfl (h:=aPT 8 rfl (h:=aM 9 rfl (h:=aZ 10 rfl (h:=aZ 11 rfl (h:=aZ 12 rfl (h:=aZ 13 rfl (h:=aPT 14 rfl (h:=aM 15 rfl (h:=aZ 16 rfl (h:=aZ 17 rfl (h:=?_)))))))))))))
 refine aZ 18 rfl (h:=aZ 19 rfl (h:=aPT 20 rfl (h:=aM 21 rfl (h:=aZ 22 rfl (h:=aZ 23 rfl (h:=aZ 24 rfl (h:=aZ 25 rfl (h:=aZ 26 rfl (h:=aZ 27 rfl (h:=aZ 28 rfl (h:=aZ 29 rfl (h:=aZ 30 rfl (h:=?_)))))))))))))
 refine aZ 31 rfl (h:=aZ 32 rfl (h:=aZ 33 rfl (h:=aZ 34 rfl (h:=aPT 35 rfl (h:=ZA kr kr ?_)))))
 refine Zd (Zc (t:=true) rfl (fun _=>Za (xA (h:=Zh (ZD (Zq (ZP (ZD (Zq ?_)))))))) (fun h=>Bool.noConfusion h))
 exact ZB .ret (.inl rfl) [_] t1 ⟨Zg (ZcO hm hs (by simp [Zd7,Zcv,anyone,g1,g2])).symm,rfl,rfl⟩
 try simp only [sQ,ne_eq] at g2
 refine aW 5 rfl ZaV (h:=aT 6 rfl (Zab fun D=>Zr rfl rfl lk9 rfl (atL 0 rfl rfl rfl) r4) (h:=ZpB 7 rfl (h:=aPF 8 rfl (h:=aM 9 rfl (h:=Zav (d:=24) rfl (fun g3=>?_) (fun g3=>?_))))))
 try simp only [sQ,ne_eq] at g3
 refine aZ 10 rfl (h:=aZ 11 rfl (h:=aZ 12 rfl (h:=aZ 13 rfl (h:=aPT 14 rfl (h:=aM 15 rfl (h:=aZ 16 rfl (h:=aZ 17 rfl (h:=aZ 18 rfl (h:=aZ 19 rfl (h:=aPT 20 rfl (h:=aM 21 rfl (h:=aZ 22 rfl (h:=?_)))))))))))))
 refine aZ 23 rfl (h:=aZ 24 rfl (h:=aZ 25 rfl (h:=aZ 26 rfl (h:=aZ 27 rfl (h:=aZ 28 rfl (h:=aZ 29 rfl (h:=aZ 30 rfl (h:=aZ 31 rfl (h:=aZ 32 rfl (h:=aZ 33 rfl (h:=aZ 34 rfl (h:=aPT 35 rfl (h:=?_)))))))))))))
 refine ZA kr kr ?_
 refine Zd (Zc (t:=true) rfl (fun _=>Za (xA (h:=Zh (ZD (Zq (ZP (ZD (Zq ?_)))))))) (fun h=>Bool.noConfusion h))
 exact ZB .ret (.inl rfl) [_] t1 ⟨Zg (ZcO hm hs (by simp [Zd7,Zcv,anyone,g1,g2,g3])).symm,rfl,rfl⟩
 try simp only [sQ,ne_eq] at g3
 refine aW 10 rfl Zfg (h:=aT 11 rfl (Zab fun D=>Zr rfl rfl lk9 rfl (atL 0 rfl rfl rfl) r4) (h:=aT 12 rfl (Zab fun D=>Zaf rfl rfl Zs1 rfl (Zb7 _ om2 _) r4) (h:=?_)))
 refine aN 13 rfl (h:=aPF 14 rfl (h:=aM 15 rfl (h:=Zav (d:=30) rfl (fun g4=>?_) (fun g4=>?_))))
 try simp only [sQ,ne_eq] at g4
 refine aZ 16 rfl (h:=aZ 17 rfl (h:=aZ 18 rfl (h:=aZ 19 rfl (h:=aPT 20 rfl (h:=aM 21 rfl (h:=aZ 22 rfl (h:=aZ 23 rfl (h:=aZ 24 rfl (h:=aZ 25 rfl (h:=aZ 26 rfl (h:=aZ 27 rfl (h:=aZ 28 rfl (h:=?_)))))))))))))
 refine aZ 29 rfl (h:=aZ 30 rfl (h:=aZ 31 rfl (h:=aZ 32 rfl (h:=aZ 33 rfl (h:=aZ 34 rfl (h:=aPT 35 rfl (h:=ZA kr kr ?_)))))))
 refine Zd (Zc (t:=true) rfl (fun _=>Za (xA (h:=Zh (ZD (Zq (ZP (ZD (Zq ?_)))))))) (fun h=>Bool.noConfusion h))
 exact ZB .ret (.inl rfl) [_] t1 ⟨Zg (ZcO hm hs (by simp [Zd7,Zcv,anyone,g1,g2,g3,g4])).symm,rfl,rfl⟩
 try simp only [sQ,ne_eq] at g4
 refine aW 16 rfl Zc1 (h:=aT 17 rfl (Zab fun D=>Zr rfl rfl lk3 rfl (atL 0 rfl rfl rfl) r4) (h:=aT 18 rfl (Zab fun D=>Zaf rfl rfl ZqY rfl (ZfE _ _ _ _) r4) (h:=aN 19 rfl (h:=aPF 20 rfl (h:=aM 21 rfl (h:=Zav (d:=36) rfl (fun g5=>?_) (fun g5=>?_)))))))
 try simp only [sQ,ne_eq] at g5
 refine aZ 22 rfl (h:=aZ 23 rfl (h:=aZ 24 rfl (h:=aZ 25 rfl (h:=aZ 26 rfl (h:=aZ 27 rfl (h:=aZ 28 rfl (h:=aZ 29 rfl (h:=aZ 30 rfl (h:=aZ 31 rfl (h:=aZ 32 rfl (h:=aZ 33 rfl (h:=aZ 34 rfl (h:=?_)))))))))))))
 refine aPT 35 rfl (h:=ZA kr kr ?_)
 refine Zd (Zc (t:=true) rfl (fun _=>Za (xA (h:=Zh (ZD (Zq (ZP (ZD (Zq ?_)))))))) (fun h=>Bool.noConfusion h))
 exact ZB .ret (.inl rfl) [_] t1 ⟨Zg (ZcO hm hs (by simp [Zd7,Zcv,anyone,g1,g2,g3,g4,g5])).symm,rfl,rfl⟩
 try simp only [sQ,ne_eq] at g5
 refine aM 22 rfl (h:=Zne 23 rfl (h:=aM 24 rfl (h:=Zav (d:=39) rfl (fun g6=>?_) (fun g6=>?_))))
 try simp only [sQ,ne_eq] at g6
 refine aM 25 rfl (h:=aM 26 rfl (h:=aU 27 rfl (h:=?_)))
 obtain ⟨y,hy⟩:=ZsG (xs:=us) (i:=(↑g.1 - 1)) om om
 obtain ⟨_,⟨rfl,hb10,hb10b⟩,hc10⟩:=hu.elem hy
 refine aIx 28 rfl Tryz.underlying30 Za3 (h:=?_)
 have hpe:=hp.at hy oz
 refine aW 29 rfl ZaV (h:=aT 30 rfl (Zab fun D=>Zr rfl rfl lk9 rfl (hc10 _ 0 _ rfl) r4) (h:=aW 31 rfl ZaV (h:=aT 32 rfl (Zab fun D=>Zr rfl rfl lk9 rfl (atL 0 rfl rfl rfl) r4) (h:=aT 33 rfl (Zab fun D=>Zru rfl rfl rfl rfl r4) (h:=aPT 34 rfl (h:=aPF 35 rfl (h:=ZA kr kr ?_)))))))
 refine Zd (Zc rfl (fun g7=>?_) (fun g7=>?_))
 try simp only [sQ,ne_eq] at g7
 refine Za (xA (h:=Zh (ZD (Zq (ZP (ZD (Zq ?_)))))))
 exact ZB .ret (.inl rfl) [_] t1 ⟨Zg (ZcO hm hs (by simp [Zd7,Zcv,anyone,g1,g2,g3,g4,g5,g6,g7,hpe])).symm,rfl,rfl⟩
 try simp only [sQ,ne_eq] at g7
 refine Zf (ZS (Zd (Zk (xM (h:=xD (h:=xA (h:=?_)))))))
 exact ZG (g.1+1,m.name) [] so2 ⟨rfl,oz,Zcj hm hs (by rw [hpe];simp [Zd7,Zcv,anyone,g2,g3,g4,g7];simp at g5;omega),.succ hm⟩ t2 rfl
 try simp only [sQ,ne_eq] at g6
 refine aZ 25 rfl (h:=aZ 26 rfl (h:=aZ 27 rfl (h:=aZ 28 rfl (h:=aZ 29 rfl (h:=aZ 30 rfl (h:=aZ 31 rfl (h:=aZ 32 rfl (h:=aZ 33 rfl (h:=aPF 34 rfl (h:=aPF 35 rfl (h:=ZA kr kr ?_)))))))))))
 refine Zd (Zc (t:=false) rfl (fun h=>Bool.noConfusion h) (fun _=>Zf (ZS (Zd (Zk (xM (h:=xD (h:=xA (h:=?_)))))))))
 exact ZG (g.1+1,m.name) [] so2 ⟨rfl,oz,Zcj hm hs (by rw [hp.at0 oz];simp [Zd7,Zcv,anyone,g2,g3,g4,ZlR (ZhT g2)];simp at g5;omega),.succ hm⟩ t2 rfl
 try simp only [sQ,ne_eq] at g1
 refine ZH (Z0 (ZM (Zx (Zd (Za (xM (h:=xV Tryz.underlying30 (h:=xR ZqY rfl (ZfE _ _ _ _) (h:=xA (h:=Zh ?_))))))))))
 exact ZB .ret (.inl rfl) [_] t1 ⟨Zg (by rw [ZgM (ZdT hs oz),Bool.eq_iff_iff];simp;omega),rfl,rfl⟩

end Go.Proofs.YthgggppcgbglkaaGreatDoor
