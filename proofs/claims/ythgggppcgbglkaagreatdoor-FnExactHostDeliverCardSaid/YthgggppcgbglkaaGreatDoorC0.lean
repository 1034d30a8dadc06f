/-
  WHAT THE FUNCTIONS THAT THE LAWS REACH COMPUTE: each function's contract, proved off its printed body (the text is written by program). No condition beyond those that each theorem states.
-/
import Derived.Test.YthgggppcgbglkaaGreatDoorRows
import Derived.Test.YthgggppcgbglkaaGreatDoorL0
import Derived.KernelRfl
namespace Go.Proofs.YthgggppcgbglkaaGreatDoor
open Go Go.BL
set_option linter.unusedVariables false
set_option linter.unusedSimpArgs false
noncomputable abbrev pj (J : JoinT) : PJ := ⟨Tryz.prog, J⟩
noncomputable abbrev wgL : Go.Conc.Lib.WgLink := { add := 184, done := 186, wait := 188, relMerge := 206, disable := 207, enable := 208, inBubble := 209, associate := 210, fatal := 211, uOr := 212, uAdd := 213, raceRead := 214, uLoad := 215, uStore := 216, disassociate := 217, semrelease := 218, acquire := 219, isAssociated := 220, uCas := 221, raceWrite := 222, semacquire := 223, orU64 := 231, addU64 := 232, loadU64 := 233, storeU64 := 234, casU64 := 235, tWg := 245, tUP := 268, tAssoc := 269, tAU := 242, tU64 := 240, tUint := 273, tU32 := 243, tNoCopy := 237, tANoCopy := 238, tAlign64 := 239, tWgP := 266, tPU32 := 274, tPAU := 295, tPU64 := 297 }
theorem ZkL : Go.Conc.Lib.WgLib Tryz.prog wgL :=
  ⟨Tryz.func184, Tryz.func186, Tryz.func188, Tryz.func206, Tryz.func207, Tryz.func208, Tryz.func209, Tryz.func210, Tryz.func211, Tryz.func212, Tryz.func213, Tryz.func214, Tryz.func215, Tryz.func216, Tryz.func217, Tryz.func218, Tryz.func219, Tryz.func220, Tryz.func221, Tryz.func222, Tryz.func223, Tryz.func231, Tryz.func232, Tryz.func233, Tryz.func234, Tryz.func235, Tryz.underlying266, Tryz.runUnderlying266, Tryz.sizeOf266, Tryz.isAgg266, Tryz.zeroValue266, Tryz.underlying268, Tryz.runUnderlying268, Tryz.sizeOf268, Tryz.isAgg268, Tryz.zeroValue268, Tryz.underlying269, Tryz.runUnderlying269, Tryz.sizeOf269, Tryz.isAgg269, Tryz.zeroValue269, Tryz.underlying245, Tryz.runUnderlying245, Tryz.sizeOf245, Tryz.isAgg245, Tryz.zeroValue245, Tryz.underlying242, Tryz.runUnderlying242, Tryz.sizeOf242, Tryz.isAgg242, Tryz.zeroValue242, Tryz.underlying240, Tryz.runUnderlying240, Tryz.sizeOf240, Tryz.isAgg240, Tryz.zeroValue240, Tryz.underlying273, Tryz.runUnderlying273, Tryz.sizeOf273, Tryz.isAgg273, Tryz.zeroValue273, Tryz.underlying243, Tryz.runUnderlying243, Tryz.sizeOf243, Tryz.isAgg243, Tryz.zeroValue243, Tryz.underlying274, Tryz.runUnderlying274, Tryz.sizeOf274, Tryz.isAgg274, Tryz.zeroValue274, Tryz.underlying295, Tryz.runUnderlying295, Tryz.sizeOf295, Tryz.isAgg295, Tryz.zeroValue295, Tryz.underlying297, Tryz.runUnderlying297, Tryz.sizeOf297, Tryz.isAgg297, Tryz.zeroValue297, Tryz.underlying0, Tryz.runUnderlying0, Tryz.sizeOf0, Tryz.isAgg0, Tryz.zeroValue0, Tryz.underlying3, Tryz.runUnderlying3, Tryz.sizeOf3, Tryz.isAgg3, Tryz.zeroValue3, Tryz.underlying4, Tryz.runUnderlying4, Tryz.sizeOf4, Tryz.isAgg4, Tryz.zeroValue4, Tryz.underlying9, Tryz.runUnderlying9, Tryz.sizeOf9, Tryz.isAgg9, Tryz.zeroValue9, Tryz.underlying20, Tryz.runUnderlying20, Tryz.sizeOf20, Tryz.isAgg20, Tryz.zeroValue20, Tryz.underlying21, Tryz.runUnderlying21, Tryz.sizeOf21, Tryz.isAgg21, Tryz.zeroValue21, (by kernel_rfl), (by kernel_rfl)⟩
theorem Zra : enters Tryz.prog 90 = true := by kernel_rfl
theorem mo : Tryz.prog.follows .mixedOrders = true := by kernel_rfl
theorem ZbR : Zy Tryz.prog 158 1 = some 1 := by kernel_rfl
theorem lk3 : lk Tryz.prog 3 = some none := by kernel_rfl
theorem Zgr : Zy Tryz.prog 158 0 = some 0 := by kernel_rfl
theorem lk9 : lk Tryz.prog 9 = some none := by kernel_rfl
theorem Zrb : enters Tryz.prog 124 = true := by kernel_rfl
theorem sz3 : ZP Tryz.prog 3 = some 1 := by kernel_rfl
theorem Zwq : enters Tryz.prog 172 = true := by kernel_rfl
theorem Ztd : enters Tryz.prog 123 = true := by kernel_rfl
theorem Zv2 : enters Tryz.prog 205 = true := by kernel_rfl
theorem Zt9 : Zby Tryz.prog 158 = some [(0, 1), (1, 1)] := by kernel_rfl
theorem ZpY : Zal Tryz.prog 158 = some (.agg #[.string ⟨#[]⟩, .int .i64 0]) := by kernel_rfl
theorem Zt1 : ZP Tryz.prog 158 = some 2 := by kernel_rfl
theorem sz9 : ZP Tryz.prog 9 = some 1 := by kernel_rfl
theorem zo9 : Zal Tryz.prog 9 = some (.string ⟨#[]⟩) := by kernel_rfl
theorem ZrT : Zcd Tryz.prog 43 9 1 16 = true := by kernel_rfl
theorem Zsk : (match Program.underlying Tryz.prog 43 with | some (.slice _) => true | _ => false) = true := by kernel_rfl
theorem ZwM : enters Tryz.prog 141 = true := by kernel_rfl
theorem Zs9 : enters Tryz.prog 70 = true := by kernel_rfl
theorem Zbe : ZP Tryz.prog 123 = some 3 := by kernel_rfl
theorem Za5 : Zy Tryz.prog 123 0 = some 0 := by kernel_rfl
theorem ZuJ : enters Tryz.prog 130 = true := by kernel_rfl
theorem ZrN : Zy Tryz.prog 48 0 = some 0 := by kernel_rfl
theorem Zpc : Zy Tryz.prog 48 1 = some 1 := by kernel_rfl
theorem ZgW : lk Tryz.prog 43 = some none := by kernel_rfl
theorem ZwZ : enters Tryz.prog 115 = true := by kernel_rfl
theorem ZrM : Zy Tryz.prog 48 2 = some 2 := by kernel_rfl
theorem ZuH : enters Tryz.prog 133 = true := by kernel_rfl
theorem Ztt : enters Tryz.prog 72 = true := by kernel_rfl
theorem Zwv : enters Tryz.prog 164 = true := by kernel_rfl
theorem ZwY : enters Tryz.prog 116 = true := by kernel_rfl
theorem ZaV : Zy Tryz.prog 34 1 = some 1 := by kernel_rfl
theorem ZgP : lk Tryz.prog 32 = some none := by kernel_rfl
theorem Za0 : ZP Tryz.prog 126 = some 4 := by kernel_rfl
theorem Zdq : lk Tryz.prog 126 = some (some 4) := by kernel_rfl
theorem Zdo : Zal Tryz.prog 126 = some (.agg #[.int .i64 0, .string ⟨#[]⟩, .string ⟨#[]⟩, .slice none 0 0]) := by kernel_rfl
theorem Zc4 : Zy Tryz.prog 126 0 = some 0 := by kernel_rfl
theorem Zd6 : Zy Tryz.prog 126 1 = some 1 := by kernel_rfl
theorem ZaE : Zy Tryz.prog 126 3 = some 3 := by kernel_rfl
theorem Zd5 : Zy Tryz.prog 126 2 = some 2 := by kernel_rfl
theorem Zxl : Zby Tryz.prog 48 = some [(0, 1), (1, 1), (2, 1)] := by kernel_rfl
theorem Zxe : Zal Tryz.prog 48 = some (.agg #[.string ⟨#[]⟩, .slice none 0 0, .string ⟨#[]⟩]) := by kernel_rfl
theorem Zx8 : enters Tryz.prog 56 = true := by kernel_rfl
theorem Zef : Zy Tryz.prog 34 0 = some 0 := by kernel_rfl
theorem Zjr : Zal Tryz.prog 34 = some (.agg #[.int .i64 0, .slice none 0 0]) := by kernel_rfl
theorem Zu7 : Zby Tryz.prog 34 = some [(0, 1), (1, 1)] := by kernel_rfl
theorem ZgF : ZP Tryz.prog 34 = some 2 := by kernel_rfl
theorem Zto : ZP Tryz.prog 43 = some 1 := by kernel_rfl
theorem Zts : Zcd Tryz.prog 32 126 4 64 = true := by kernel_rfl
theorem Zt4 : (match Program.underlying Tryz.prog 32 with | some (.slice _) => true | _ => false) = true := by kernel_rfl
theorem Ztp : ZP Tryz.prog 32 = some 1 := by kernel_rfl
theorem Zed : lk Tryz.prog 34 = some (some 2) := by kernel_rfl
theorem ZxS : enters Tryz.prog 87 = true := by kernel_rfl
theorem Zji : enters Tryz.prog 91 = true := by kernel_rfl
theorem ZwS : enters Tryz.prog 131 = true := by kernel_rfl
theorem Ztw : Zal Tryz.prog 167 = some (.pointer none) := by kernel_rfl
theorem Zwo : enters Tryz.prog 175 = true := by kernel_rfl
theorem Zv5 : enters Tryz.prog 202 = true := by kernel_rfl
theorem Zgm : lk Tryz.prog 167 = some none := by kernel_rfl
theorem ZwX : enters Tryz.prog 119 = true := by kernel_rfl
theorem ZvH : Zby Tryz.prog 171 = some [(0, 4), (4, 1)] := by kernel_rfl
theorem Zvm : Zal Tryz.prog 171 = some (.agg #[.int .i64 0, .string ⟨#[]⟩, .string ⟨#[]⟩, .slice none 0 0, .pointer none]) := by kernel_rfl
theorem Zsj : ZP Tryz.prog 167 = some 1 := by kernel_rfl
theorem ZlA : Zy Tryz.prog 171 0 = some 0 := by kernel_rfl
theorem Zlz : Zy Tryz.prog 171 1 = some 4 := by kernel_rfl
theorem ZuI : enters Tryz.prog 132 = true := by kernel_rfl
theorem Ztc : enters Tryz.prog 135 = true := by kernel_rfl
theorem Ze1 : lk Tryz.prog 253 = some none := by kernel_rfl
theorem zo3 : Zal Tryz.prog 3 = some (.int .i64 0) := by kernel_rfl
theorem ZvR : Zcd Tryz.prog 253 3 1 8 = true := by kernel_rfl
theorem ZvF : (match Program.underlying Tryz.prog 253 with | some (.slice _) => true | _ => false) = true := by kernel_rfl
theorem ZtY : ZP Tryz.prog 253 = some 1 := by kernel_rfl
theorem ZdB : ZiY Tryz.prog 251 "Less" 284 false = true := by kernel_rfl
theorem ZpD : enters Tryz.prog 284 = true := by kernel_rfl
theorem ZdA : ZiY Tryz.prog 251 "Swap" 287 false = true := by kernel_rfl
theorem ZpC : enters Tryz.prog 287 = true := by kernel_rfl
theorem Zm2 : ZiY Tryz.prog 251 "Push" 286 true = true := by kernel_rfl
theorem ZvW : enters Tryz.prog 286 = true := by kernel_rfl
theorem Zj1 : ZiY Tryz.prog 251 "Len" 283 false = true := by kernel_rfl
theorem ZuD : enters Tryz.prog 283 = true := by kernel_rfl
theorem ZvZ : enters Tryz.prog 229 = true := by kernel_rfl
theorem ZvY : enters Tryz.prog 230 = true := by kernel_rfl
theorem ZoI : ZiY Tryz.prog 251 "Pop" 285 true = true := by kernel_rfl
theorem ZvX : enters Tryz.prog 285 = true := by kernel_rfl
theorem Zv9 : enters Tryz.prog 196 = true := by kernel_rfl
theorem Zv8 : enters Tryz.prog 197 = true := by kernel_rfl
theorem Zx5 : enters Tryz.prog 60 = true := by kernel_rfl
theorem Zwu : enters Tryz.prog 165 = true := by kernel_rfl
theorem ZuM : enters Tryz.prog 117 = true := by kernel_rfl
theorem Zte : enters Tryz.prog 118 = true := by kernel_rfl
theorem ZwR : enters Tryz.prog 134 = true := by kernel_rfl
theorem ZcB : Zy Tryz.prog 205 0 = some 0 := by kernel_rfl
theorem Zfw : Zy Tryz.prog 205 1 = some 1 := by kernel_rfl
theorem Zx2 : enters Tryz.prog 65 = true := by kernel_rfl
theorem Zd3 : Zy Tryz.prog 205 2 = some 2 := by kernel_rfl
theorem Zxu : enters Tryz.prog 67 = true := by kernel_rfl
theorem Zbu : Zy Tryz.prog 73 1 = some 1 := by kernel_rfl
theorem Zir : lk Tryz.prog 71 = some none := by kernel_rfl
theorem Zcx : ZP Tryz.prog 205 = some 3 := by kernel_rfl
theorem Zgl : lk Tryz.prog 205 = some (some 3) := by kernel_rfl
theorem Zwl : enters Tryz.prog 178 = true := by kernel_rfl
theorem ZcG : Zy Tryz.prog 73 0 = some 0 := by kernel_rfl
theorem Zga : Zal Tryz.prog 205 = some (.agg #[.int .i64 0, .int .i64 0, .string ⟨#[]⟩]) := by kernel_rfl
theorem Zv6 : enters Tryz.prog 199 = true := by kernel_rfl
theorem Zfs : lk Tryz.prog 73 = some (some 2) := by kernel_rfl
theorem Ztb : enters Tryz.prog 167 = true := by kernel_rfl
theorem Zfx : Zy Tryz.prog 123 1 = some 1 := by kernel_rfl
theorem Zc5 : Zy Tryz.prog 123 2 = some 2 := by kernel_rfl
theorem Ze2 : lk Tryz.prog 123 = some (some 3) := by kernel_rfl
theorem ZdP : Zal Tryz.prog 123 = some (.agg #[.string ⟨#[]⟩, .string ⟨#[]⟩, .int .i64 0]) := by kernel_rfl
theorem Zwh : enters Tryz.prog 183 = true := by kernel_rfl
theorem ZuF : enters Tryz.prog 150 = true := by kernel_rfl
theorem ZvI : Zby Tryz.prog 123 = some [(0, 1), (1, 1), (2, 1)] := by kernel_rfl
theorem ZwB : enters Tryz.prog 156 = true := by kernel_rfl
theorem ZwA : enters Tryz.prog 157 = true := by kernel_rfl
theorem ZbK : Zy Tryz.prog 36 1 = some 1 := by kernel_rfl
theorem Zis : lk Tryz.prog 30 = some none := by kernel_rfl
theorem ZuN : enters Tryz.prog 102 = true := by kernel_rfl
theorem ZaI : Zy Tryz.prog 36 2 = some 2 := by kernel_rfl
theorem ZfF : lk Tryz.prog 31 = some none := by kernel_rfl
theorem Zcb : ZP Tryz.prog 75 = some 5 := by kernel_rfl
theorem Zca : Zy Tryz.prog 75 0 = some 0 := by kernel_rfl
theorem ZdF : Zy Tryz.prog 75 1 = some 1 := by kernel_rfl
theorem Ziq : lk Tryz.prog 75 = some (some 5) := by kernel_rfl
theorem ZwU : enters Tryz.prog 125 = true := by kernel_rfl
theorem ZwT : enters Tryz.prog 126 = true := by kernel_rfl
theorem ZbE : Zy Tryz.prog 36 3 = some 3 := by kernel_rfl
theorem ZvV : enters Tryz.prog 44 = true := by kernel_rfl
theorem Zer : ZP Tryz.prog 133 = some 2 := by kernel_rfl
theorem ZcC : Zy Tryz.prog 133 0 = some 0 := by kernel_rfl
theorem Zd4 : Zy Tryz.prog 133 1 = some 1 := by kernel_rfl
theorem Zvb : enters Tryz.prog 35 = true := by kernel_rfl
theorem Zb9 : Zy Tryz.prog 75 3 = some 3 := by kernel_rfl
theorem ZwK : enters Tryz.prog 143 = true := by kernel_rfl
theorem Zf9 : Zal Tryz.prog 75 = some (.agg #[.string ⟨#[]⟩, .string ⟨#[]⟩, .slice none 0 0, .int .i64 0, .slice none 0 0]) := by kernel_rfl
theorem ZeC : Zy Tryz.prog 75 2 = some 2 := by kernel_rfl
theorem ZrJ : lk Tryz.prog 68 = some none := by kernel_rfl
theorem ZxP : enters Tryz.prog 94 = true := by kernel_rfl
theorem ZwL : enters Tryz.prog 142 = true := by kernel_rfl
theorem Zx1 : enters Tryz.prog 71 = true := by kernel_rfl
theorem ZhG : Zy Tryz.prog 36 0 = some 0 := by kernel_rfl
theorem ZxU : enters Tryz.prog 85 = true := by kernel_rfl
theorem ZxT : enters Tryz.prog 86 = true := by kernel_rfl
theorem ZcA : lk Tryz.prog 36 = some (some 5) := by kernel_rfl
theorem ZxR : enters Tryz.prog 88 = true := by kernel_rfl
theorem Zxw : enters Tryz.prog 33 = true := by kernel_rfl
theorem Zxt : enters Tryz.prog 89 = true := by kernel_rfl
theorem Zx7 : enters Tryz.prog 57 = true := by kernel_rfl
theorem ZoO : lk Tryz.prog 133 = some (some 2) := by kernel_rfl
theorem ZmB : Zal Tryz.prog 133 = some (.agg #[.string ⟨#[]⟩, .int .i64 0]) := by kernel_rfl
theorem Zyj : enters Tryz.prog 41 = true := by kernel_rfl
theorem Zw9 : enters Tryz.prog 103 = true := by kernel_rfl
theorem Zuw : Extern.findNext Tryz.f200 = none := by kernel_rfl
theorem Zux : Extern.find Tryz.f200 = some Extern.BytealgCompare.compare := by kernel_rfl
theorem Zwp : enters Tryz.prog 173 = true := by kernel_rfl
theorem ZuK : enters Tryz.prog 127 = true := by kernel_rfl
theorem Zv7 : enters Tryz.prog 198 = true := by kernel_rfl
theorem Zwt : enters Tryz.prog 166 = true := by kernel_rfl
theorem Zva : enters Tryz.prog 74 = true := by kernel_rfl
theorem ZuL : enters Tryz.prog 121 = true := by kernel_rfl
theorem sz4 : ZP Tryz.prog 4 = some 1 := by kernel_rfl
theorem lk4 : lk Tryz.prog 4 = some none := by kernel_rfl
theorem Zv1 : enters Tryz.prog 224 = true := by kernel_rfl
theorem Zwi : enters Tryz.prog 182 = true := by kernel_rfl
theorem Zug : lk Tryz.prog 235 = some none := by kernel_rfl
theorem ZvL : lk Tryz.prog 80 = some none := by kernel_rfl
theorem Zwf : enters Tryz.prog 187 = true := by kernel_rfl
theorem Zvh : Zal Tryz.prog 245 = some (.agg #[.int .u64 0, .int .u32 0]) := by kernel_rfl
theorem ZvS : Zcd Tryz.prog 235 4 1 1 = true := by kernel_rfl
theorem zo4 : Zal Tryz.prog 4 = some (.bool false) := by kernel_rfl
theorem Zvi : Zal Tryz.prog 235 = some (.slice none 0 0) := by kernel_rfl
theorem ZvE : ZP Tryz.prog 235 = some 1 := by kernel_rfl
theorem Zwg : enters Tryz.prog 184 = true := by kernel_rfl
theorem Zwe : enters Tryz.prog 188 = true := by kernel_rfl
theorem Zwd : enters Tryz.prog 189 = true := by kernel_rfl
theorem ZwG : enters Tryz.prog 149 = true := by kernel_rfl
theorem Zx0 : enters Tryz.prog 75 = true := by kernel_rfl
theorem ZwF : enters Tryz.prog 151 = true := by kernel_rfl
theorem ZwE : enters Tryz.prog 152 = true := by kernel_rfl
theorem ZwD : enters Tryz.prog 153 = true := by kernel_rfl
theorem Zpq : Zy Tryz.prog 112 0 = some 0 := by kernel_rfl
theorem Zpp : Zy Tryz.prog 112 1 = some 1 := by kernel_rfl
theorem Zpg : Zy Tryz.prog 229 0 = some 0 := by kernel_rfl
theorem Zpd : Zy Tryz.prog 264 2 = some 2 := by kernel_rfl
theorem Zt3 : ZP Tryz.prog 112 = some 3 := by kernel_rfl
theorem Zun : lk Tryz.prog 112 = some (some 3) := by kernel_rfl
theorem ZxX : enters Tryz.prog 82 = true := by kernel_rfl
theorem ZtZ : ZP Tryz.prog 229 = some 2 := by kernel_rfl
theorem Zuh : lk Tryz.prog 229 = some (some 2) := by kernel_rfl
theorem Zwn : enters Tryz.prog 176 = true := by kernel_rfl
theorem ZtX : ZP Tryz.prog 264 = some 3 := by kernel_rfl
theorem Zuf : lk Tryz.prog 264 = some (some 3) := by kernel_rfl
theorem Zv4 : enters Tryz.prog 203 = true := by kernel_rfl
theorem Zpj : Zy Tryz.prog 183 1 = some 1 := by kernel_rfl
theorem Zpi : Zy Tryz.prog 183 2 = some 2 := by kernel_rfl
theorem Zph : Zy Tryz.prog 183 3 = some 3 := by kernel_rfl
theorem Zx9 : enters Tryz.prog 55 = true := by kernel_rfl
theorem Zt0 : ZP Tryz.prog 183 = some 4 := by kernel_rfl
theorem Zui : lk Tryz.prog 183 = some (some 4) := by kernel_rfl
theorem ZwN : enters Tryz.prog 140 = true := by kernel_rfl
theorem Zpo : Zy Tryz.prog 117 1 = some 1 := by kernel_rfl
theorem Zul : lk Tryz.prog 115 = some none := by kernel_rfl
theorem Zwm : enters Tryz.prog 177 = true := by kernel_rfl
theorem ZrS : Zy Tryz.prog 26 1 = some 1 := by kernel_rfl
theorem Zxo : lk Tryz.prog 24 = some none := by kernel_rfl
theorem ZxV : enters Tryz.prog 84 = true := by kernel_rfl
theorem Zpn : Zy Tryz.prog 119 0 = some 0 := by kernel_rfl
theorem Zpm : Zy Tryz.prog 119 1 = some 1 := by kernel_rfl
theorem Zpl : Zy Tryz.prog 119 2 = some 2 := by kernel_rfl
theorem Zum : lk Tryz.prog 114 = some none := by kernel_rfl
theorem ZwP : enters Tryz.prog 138 = true := by kernel_rfl
theorem Zpk : Zy Tryz.prog 119 3 = some 3 := by kernel_rfl
theorem Zuk : lk Tryz.prog 117 = some (some 2) := by kernel_rfl
theorem ZwO : enters Tryz.prog 139 = true := by kernel_rfl
theorem Zt2 : ZP Tryz.prog 119 = some 5 := by kernel_rfl
theorem Zuj : lk Tryz.prog 119 = some (some 5) := by kernel_rfl
theorem ZxW : enters Tryz.prog 83 = true := by kernel_rfl
theorem ZrR : Zy Tryz.prog 28 0 = some 0 := by kernel_rfl
theorem ZrQ : Zy Tryz.prog 28 1 = some 1 := by kernel_rfl
theorem Zxq : lk Tryz.prog 22 = some none := by kernel_rfl
theorem Zyr : enters Tryz.prog 27 = true := by kernel_rfl
theorem ZrP : Zy Tryz.prog 28 2 = some 2 := by kernel_rfl
theorem Zxp : lk Tryz.prog 23 = some none := by kernel_rfl
theorem Zyq : enters Tryz.prog 28 = true := by kernel_rfl
theorem ZrO : Zy Tryz.prog 28 3 = some 3 := by kernel_rfl
theorem Zxn : lk Tryz.prog 26 = some (some 2) := by kernel_rfl
theorem Zyp : enters Tryz.prog 29 = true := by kernel_rfl
theorem ZsX : Zy Tryz.prog 112 2 = some 2 := by kernel_rfl
theorem ZsU : Zy Tryz.prog 229 1 = some 1 := by kernel_rfl
theorem ZsS : Zy Tryz.prog 264 0 = some 0 := by kernel_rfl
theorem ZsR : Zy Tryz.prog 264 1 = some 1 := by kernel_rfl
theorem Znr : Zcd Tryz.prog 30 123 3 40 = true := by kernel_rfl
theorem ZxO : enters Tryz.prog 95 = true := by kernel_rfl
theorem ZvQ : Zcd Tryz.prog 68 133 2 24 = true := by kernel_rfl
theorem Zwk : enters Tryz.prog 180 = true := by kernel_rfl
theorem Ztr : Zcd Tryz.prog 71 205 3 32 = true := by kernel_rfl
theorem Zv3 : enters Tryz.prog 204 = true := by kernel_rfl
theorem ZsV : Zy Tryz.prog 183 0 = some 0 := by kernel_rfl
theorem Zx6 : enters Tryz.prog 59 = true := by kernel_rfl
theorem ZwH : enters Tryz.prog 148 = true := by kernel_rfl
theorem Zuv : Zy Tryz.prog 26 0 = some 0 := by kernel_rfl
theorem ZxM : enters Tryz.prog 97 = true := by kernel_rfl
theorem ZnI : Zal Tryz.prog 73 = some (.agg #[.int .i64 0, .slice none 0 0]) := by kernel_rfl
theorem ZsW : Zy Tryz.prog 117 0 = some 0 := by kernel_rfl
theorem Zwj : enters Tryz.prog 181 = true := by kernel_rfl
theorem ZvC : ZP Tryz.prog 71 = some 1 := by kernel_rfl
theorem ZjO : ZP Tryz.prog 73 = some 2 := by kernel_rfl
theorem ZwJ : enters Tryz.prog 146 = true := by kernel_rfl
theorem ZvD : ZP Tryz.prog 68 = some 1 := by kernel_rfl
theorem ZwI : enters Tryz.prog 147 = true := by kernel_rfl
theorem Zu9 : Zcd Tryz.prog 31 75 5 88 = true := by kernel_rfl
theorem ZxN : enters Tryz.prog 96 = true := by kernel_rfl
theorem Zcn : Zal Tryz.prog 36 = some (.agg #[.string ⟨#[]⟩, .slice none 0 0, .slice none 0 0, .int .i64 0, .slice none 0 0]) := by kernel_rfl
theorem Zyn : enters Tryz.prog 37 = true := by kernel_rfl
theorem ZxD : ZP Tryz.prog 30 = some 1 := by kernel_rfl
theorem Zym : enters Tryz.prog 38 = true := by kernel_rfl
theorem Zxh : ZP Tryz.prog 31 = some 1 := by kernel_rfl
theorem Zyl : enters Tryz.prog 39 = true := by kernel_rfl
theorem Zde : ZP Tryz.prog 36 = some 5 := by kernel_rfl
theorem Zw8 : enters Tryz.prog 105 = true := by kernel_rfl
theorem Zwb : enters Tryz.prog 194 = true := by kernel_rfl
theorem Zv0 : enters Tryz.prog 228 = true := by kernel_rfl
theorem Zx4 : enters Tryz.prog 63 = true := by kernel_rfl
theorem Zwx : enters Tryz.prog 162 = true := by kernel_rfl
theorem Zw6 : enters Tryz.prog 107 = true := by kernel_rfl
theorem Zwa : enters Tryz.prog 195 = true := by kernel_rfl
theorem Zwz : enters Tryz.prog 160 = true := by kernel_rfl
theorem Zwy : enters Tryz.prog 161 = true := by kernel_rfl
theorem Zw7 : enters Tryz.prog 106 = true := by kernel_rfl
theorem Zyi : enters Tryz.prog 46 = true := by kernel_rfl
theorem Zyh : enters Tryz.prog 47 = true := by kernel_rfl
theorem Zyg : enters Tryz.prog 48 = true := by kernel_rfl
theorem Zu5 : (match Program.underlying Tryz.prog 71 with | some (.slice _) => true | _ => false) = true := by kernel_rfl
theorem Zxk : Zby Tryz.prog 73 = some [(0, 1), (1, 1)] := by kernel_rfl
theorem Zxi : (match Program.underlying Tryz.prog 68 with | some (.slice _) => true | _ => false) = true := by kernel_rfl
theorem Zta : enters Tryz.prog 168 = true := by kernel_rfl
theorem sz5 : ZP Tryz.prog 5 = some 1 := by kernel_rfl
theorem zo5 : Zal Tryz.prog 5 = some (.int .u8 0) := by kernel_rfl
theorem Zej : enters Tryz.prog 108 = true := by kernel_rfl
theorem ZuG : enters Tryz.prog 144 = true := by kernel_rfl
theorem ZnF : (match Program.underlying Tryz.prog 30 with | some (.slice _) => true | _ => false) = true := by kernel_rfl
theorem ZgU : Zby Tryz.prog 36 = some [(0, 1), (1, 1), (2, 1), (3, 2)] := by kernel_rfl
theorem ZxQ : enters Tryz.prog 92 = true := by kernel_rfl
theorem Zxj : (match Program.underlying Tryz.prog 31 with | some (.slice _) => true | _ => false) = true := by kernel_rfl
theorem Zt8 : Zby Tryz.prog 205 = some [(0, 1), (1, 1), (2, 1)] := by kernel_rfl
theorem Zxx : enters Tryz.prog 32 = true := by kernel_rfl
theorem ZwW : enters Tryz.prog 120 = true := by kernel_rfl
theorem Zyo : enters Tryz.prog 30 = true := by kernel_rfl
theorem Zxv : enters Tryz.prog 66 = true := by kernel_rfl
theorem ZxZ : enters Tryz.prog 78 = true := by kernel_rfl
theorem Zx3 : enters Tryz.prog 64 = true := by kernel_rfl
theorem Zw5 : enters Tryz.prog 109 = true := by kernel_rfl
theorem Zw4 : enters Tryz.prog 110 = true := by kernel_rfl
theorem Zw3 : enters Tryz.prog 111 = true := by kernel_rfl
theorem Zyf : enters Tryz.prog 49 = true := by kernel_rfl
theorem Zye : enters Tryz.prog 50 = true := by kernel_rfl
theorem Zyd : enters Tryz.prog 51 = true := by kernel_rfl
theorem Zw2 : enters Tryz.prog 112 = true := by kernel_rfl
theorem Zw1 : enters Tryz.prog 113 = true := by kernel_rfl
theorem Zww : enters Tryz.prog 163 = true := by kernel_rfl
theorem Zw0 : enters Tryz.prog 114 = true := by kernel_rfl
theorem Zyc : enters Tryz.prog 52 = true := by kernel_rfl
theorem Zyb : enters Tryz.prog 53 = true := by kernel_rfl
theorem Zya : enters Tryz.prog 54 = true := by kernel_rfl
theorem ZxB : (Tryz.prog.info? 321).map (·.comparable) = some true := by kernel_rfl
theorem ZtW : ZP Tryz.prog 345 = some 1 := by kernel_rfl
theorem Zvl : Zal Tryz.prog 220 = some (.nilIface) := by kernel_rfl
theorem Zvk : Zal Tryz.prog 223 = some (.nilIface) := by kernel_rfl
theorem Zvj : Zal Tryz.prog 225 = some (.nilIface) := by kernel_rfl
theorem ZwQ : enters Tryz.prog 137 = true := by kernel_rfl
theorem ZnH : lk Tryz.prog 82 = some none := by kernel_rfl
theorem Zs8 : enters Tryz.prog 81 = true := by kernel_rfl
theorem Zwc : enters Tryz.prog 190 = true := by kernel_rfl
theorem ZwC : enters Tryz.prog 154 = true := by kernel_rfl
theorem ZxL : enters Tryz.prog 98 = true := by kernel_rfl
theorem ZxK : enters Tryz.prog 99 = true := by kernel_rfl
theorem Zxa : enters Tryz.prog 100 = true := by kernel_rfl
theorem Zyk : enters Tryz.prog 40 = true := by kernel_rfl
theorem Zue : lk Tryz.prog 28 = some (some 5) := by kernel_rfl
theorem en8 : enters Tryz.prog 8 = true := by kernel_rfl
theorem Zvd : enters Tryz.prog 10 = true := by kernel_rfl
theorem Zvc : enters Tryz.prog 12 = true := by kernel_rfl
theorem ZxA : enters Tryz.prog 13 = true := by kernel_rfl
theorem Zxz : enters Tryz.prog 14 = true := by kernel_rfl
theorem Zt7 : Zby Tryz.prog 260 = some [(0, 3), (3, 1)] := by kernel_rfl
theorem Ztv : Zal Tryz.prog 260 = some (.agg #[.int .i64 0, .int .i64 0, .string ⟨#[]⟩, .pointer none]) := by kernel_rfl
theorem ZhI : Zy Tryz.prog 258 1 = some 1 := by kernel_rfl
theorem ZoN : lk Tryz.prog 256 = some none := by kernel_rfl
theorem Zpf : Zy Tryz.prog 258 0 = some 0 := by kernel_rfl
theorem Zqi : ZP Tryz.prog 256 = some 1 := by kernel_rfl
theorem ZhH : Zy Tryz.prog 258 2 = some 2 := by kernel_rfl
theorem Zpe : Zy Tryz.prog 260 1 = some 3 := by kernel_rfl
theorem ZvG : Zby Tryz.prog 258 = some [(0, 1), (1, 1), (2, 1)] := by kernel_rfl
theorem Zvg : Zal Tryz.prog 258 = some (.agg #[.pointer none, .pointer none, .int .i64 0]) := by kernel_rfl
theorem ZuE : enters Tryz.prog 170 = true := by kernel_rfl
theorem ZsT : Zy Tryz.prog 260 0 = some 0 := by kernel_rfl
theorem Zws : enters Tryz.prog 169 = true := by kernel_rfl
theorem Zwr : enters Tryz.prog 171 = true := by kernel_rfl
theorem ZwV : enters Tryz.prog 122 = true := by kernel_rfl
theorem ZvU : enters Tryz.prog 69 = true := by kernel_rfl
theorem ZvT : enters Tryz.prog 80 = true := by kernel_rfl
theorem ZxY : enters Tryz.prog 79 = true := by kernel_rfl
theorem Zys : enters Tryz.prog 25 = true := by kernel_rfl
theorem Zxy : enters Tryz.prog 26 = true := by kernel_rfl
set_option maxRecDepth 4000
variable {J : JoinT}
abbrev cur (b : Nat) (l : List UInt8) (i : Nat) : Cells := Z7 b [str l, .int .i64 i] 158
set_option maxHeartbeats 400000 in
theorem ZfY (n lo hi:Int) (B:Kn):Zag (pj J) 90 [.int .i64 n,.int .i64 lo,.int .i64 hi] B (.bool (decide (lo≤n) && decide (n≤hi))):=by
 refine Zb 15 Tryz.func90 rfl rfl rfl (Nat.le_of_ble_eq_true rfl) ?_
 refine Za (xA (h:=Z2 [(0,_),(1,_),(2,_),(6,_)] t4 (Za (xM (h:=xM (h:=Zel (h:=xM (h:=Zz (d:=10) rfl (fun g1=>?_) (fun g1=>?_)))))))))
 try simp only [sQ,ne_eq] at g1
 refine xM (h:=xM (h:=Zce (h:=xT (h:=xA (h:=Z2 [(0,_),(1,_),(2,_),(6,_)] t4 (Zh ?_))))))
 exact ZE .ret (.inl rfl) [_] t1 ⟨by exact Zi (by rw [Bool.eq_iff_iff];simp [];omega),rfl,rfl⟩
 try simp only [sQ,ne_eq] at g1
 refine xP (h:=xP (h:=xP (h:=xF (h:=xA (h:=Z2 [(0,_),(1,_),(2,_),(6,_)] t4 (Zh ?_))))))
 exact ZE .ret (.inl rfl) [_] t1 ⟨by exact Zi (by rw [Bool.eq_iff_iff];simp [];omega),rfl,rfl⟩

set_option maxHeartbeats 400000 in
theorem Zm1 (c:UInt8) (B:Kn):Zag (pj J) 172 [.int .u8 c.toNat] B (.bool (Zbg c)):=by
 refine Zb 17 Tryz.func172 rfl rfl rfl (Nat.le_of_ble_eq_true rfl) ?_
 refine Za (xA (h:=Z2 [(0,_),(2,_)] t2 (Za (xM (h:=Zel (h:=xM (h:=Zz (d:=5) rfl (fun g1=>?_) (fun g1=>?_))))))))
 try simp only [sQ,ne_eq] at g1
 refine xM (h:=Zce (h:=xT (h:=xM (h:=Zz (d:=9) rfl (fun g2=>?_) (fun g2=>?_)))))
 try simp only [sQ,ne_eq] at g2
 refine xP (h:=xP (h:=xP (h:=xP (h:=xP (h:=xP (h:=xT (h:=xA (h:=Z2 [(0,_),(2,_)] t2 (Zh ?_)))))))))
 exact ZE .ret (.inl rfl) [_] t1 ⟨by exact Zi (by rw [Bool.eq_iff_iff];simp [Zbg];omega),rfl,rfl⟩
 try simp only [sQ,ne_eq] at g2
 refine xM (h:=Zel (h:=xM (h:=Zz (d:=12) rfl (fun g3=>?_) (fun g3=>?_))))
 try simp only [sQ,ne_eq] at g3
 refine xM (h:=Zce (h:=xT (h:=xF (h:=xA (h:=Z2 [(0,_),(2,_)] t2 (Zh ?_))))))
 exact ZE .ret (.inl rfl) [_] t1 ⟨by exact Zi (by rw [Bool.eq_iff_iff];simp [Zbg];omega),rfl,rfl⟩
 try simp only [sQ,ne_eq] at g3
 refine xP (h:=xP (h:=xF (h:=xF (h:=xA (h:=Z2 [(0,_),(2,_)] t2 (Zh ?_))))))
 exact ZE .ret (.inl rfl) [_] t1 ⟨by exact Zi (by rw [Bool.eq_iff_iff];simp [Zbg];omega),rfl,rfl⟩
 try simp only [sQ,ne_eq] at g1
 refine xP (h:=xP (h:=xF (h:=xM (h:=xM (h:=Zel (h:=xM (h:=Zz (d:=12) rfl (fun g4=>?_) (fun g4=>?_))))))))
 try simp only [sQ,ne_eq] at g4
 refine xM (h:=Zce (h:=xT (h:=xF (h:=xA (h:=Z2 [(0,_),(2,_)] t2 (Zh ?_))))))
 exact ZE .ret (.inl rfl) [_] t1 ⟨by exact Zi (by rw [Bool.eq_iff_iff];simp [Zbg];omega),rfl,rfl⟩
 try simp only [sQ,ne_eq] at g4
 refine xP (h:=xP (h:=xF (h:=xF (h:=xA (h:=Z2 [(0,_),(2,_)] t2 (Zh ?_))))))
 exact ZE .ret (.inl rfl) [_] t1 ⟨by exact Zi (by rw [Bool.eq_iff_iff];simp [Zbg];omega),rfl,rfl⟩

set_option maxHeartbeats 400000 in
theorem Zch (l:List UInt8) (hl:l.length≤2000000) (B:Kn):Zag (pj J) 70 [str l] B (.bool (ZaG l)):=by
 refine Zb 37 Tryz.func70 rfl rfl rfl (Nat.le_of_ble_eq_true rfl) ?_
 refine Za (xA (h:=Z2 [(0,_),(2,_)] t2 (Ze (Za (xA (h:=Z2 [(0,_),(2,_),(3,_)] t3 (Zl (Zjw (α:=Nat) (fun k=>[(0,str l),(3,.int .i64 k)]) (fun k=>[]) (fun k Bx=>Bx=B∧k≤l.length∧(l.take k).all Zbg=true) (fun k=>l.length - k) 0 t2 rfl (⟨rfl,Nat.zero_le _,by simp⟩) (fun k B1 hle1 hI=>?_)))))))))
 obtain ⟨rfl,hk,ha⟩:=hI
 refine Ze (Za (xM (h:=xM (h:=xVs Tryz.underlying9 (h:=ZI (h:=Z2 [(0,_),(3,_),(7,_)] t3 (Zc rfl (fun g1=>?_) (fun g1=>?_))))))))
 try simp only [sQ,ne_eq] at g1
 obtain ⟨c,hc⟩ :∃c,l[k]? = some c:=⟨_,List.getElem?_eq_getElem oz⟩
 refine Zf (Zd (Ze (Zl (ZmE 33 (!(Zbg c)) [0,3,7] ?_ ?_))))
 refine xM (h:=xM (h:=Zp (ZdR rfl rfl Tryz.underlying9 rfl rfl oz (by simpa using hc) ?_)))
 refine Zel (h:=xM (h:=Zz (d:=14) rfl (fun g1=>?_) (fun g1=>?_)))
 try simp only [sQ,ne_eq] at g1
 refine xM (h:=xM (h:=Zp (ZdR rfl rfl Tryz.underlying9 rfl rfl oz (by simpa using hc) ?_)))
 refine Zce (h:=xT (h:=xN (h:=xM (h:=Zz (d:=21) rfl (fun g2=>?_) (fun g2=>?_)))))
 try simp only [sQ,ne_eq] at g2
 refine xM (h:=xM (h:=Zp (ZdR rfl rfl Tryz.underlying9 rfl rfl oz (by simpa using hc) ?_)))
 refine Zel (h:=xM (h:=Zz (d:=26) rfl (fun g3=>?_) (fun g3=>?_)))
 try simp only [sQ,ne_eq] at g3
 refine xM (h:=xM (h:=Zp (ZdR rfl rfl Tryz.underlying9 rfl rfl oz (by simpa using hc) ?_)))
 refine Zce (h:=xT (h:=xN (h:=xT (h:=?_))))
 exact ⟨rfl,rfl,rfl,Zi3 rfl (by rw [Bool.eq_iff_iff];simp [Zbg,];omega),t3⟩
 try simp only [sQ,ne_eq] at g3
 refine xP (h:=xP (h:=xP (h:=xP (h:=xF (h:=xN (h:=xT (h:=?_)))))))
 exact ⟨rfl,rfl,rfl,Zi3 rfl (by rw [Bool.eq_iff_iff];simp [Zbg,];omega),t3⟩
 try simp only [sQ,ne_eq] at g2
 refine xP (h:=xP (h:=xP (h:=xP (h:=xP (h:=xP (h:=xP (h:=xP (h:=xP (h:=xP (h:=xP (h:=xF (h:=?_))))))))))))
 exact ⟨rfl,rfl,rfl,Zi3 rfl (by rw [Bool.eq_iff_iff];simp [Zbg,];omega),t3⟩
 try simp only [sQ,ne_eq] at g1
 refine xP (h:=xP (h:=xP (h:=xP (h:=xF (h:=xN (h:=xM (h:=xM (h:=xM (h:=Zp (ZdR rfl rfl Tryz.underlying9 rfl rfl oz (by simpa using hc) ?_))))))))))
 refine Zel (h:=xM (h:=Zz (d:=26) rfl (fun g4=>?_) (fun g4=>?_)))
 try simp only [sQ,ne_eq] at g4
 refine xM (h:=xM (h:=Zp (ZdR rfl rfl Tryz.underlying9 rfl rfl oz (by simpa using hc) ?_)))
 refine Zce (h:=xT (h:=xN (h:=xT (h:=?_))))
 exact ⟨rfl,rfl,rfl,Zi3 rfl (by rw [Bool.eq_iff_iff];simp [Zbg,];omega),t3⟩
 try simp only [sQ,ne_eq] at g4
 refine xP (h:=xP (h:=xP (h:=xP (h:=xF (h:=xN (h:=xT (h:=?_)))))))
 exact ⟨rfl,rfl,rfl,Zi3 rfl (by rw [Bool.eq_iff_iff];simp [Zbg,];omega),t3⟩
 refine Z2 [(0,_),(3,_),(7,_),(33,_)] t4 (Zc rfl (fun g9=>?_) (fun g9=>?_))
 try simp only [sQ,ne_eq] at g9
 refine Za (xA (h:=Z2 [(0,_),(2,_),(3,_),(7,_),(33,_)] t5 (Zh (ZD (Zq (Zsq (ZD (Zq ?_))))))))
 exact ZE .ret (.inl rfl) [_] t1 ⟨Zi (by simp [ZaG,Zrl hc g9]),rfl,rfl⟩
 try simp only [sQ,ne_eq] at g9
 refine Zf (ZT (Zd (Zg (xM (h:=Zp (ZgN rfl rfl rfl rfl (by first | exact Zcq oz oz | rfl) ?_))))))
 refine xA (h:=?_)
 exact ZmU (k+1) oz ⟨rfl,oz,ZmA hc g9 ha⟩ t2 rfl
 try simp only [sQ,ne_eq] at g1
 refine ZH (Z0 (ZmT (Zw (Zd (Za (xM (h:=xVs Tryz.underlying9 (h:=xR Zra rfl (ZfY _ _ _ _) (h:=xA (h:=Z2 [(0,_),(2,_),(3,_),(7,_)] t4 (Zh ?_)))))))))))
 exact ZE .ret (.inl rfl) [_] t1 ⟨Zi (by (obtain rfl:k=l.length:=oz);rw [List.take_length] at ha;rw [Bool.eq_iff_iff];simp [ZaG,ha];omega),rfl,rfl⟩

set_option maxHeartbeats 400000 in
theorem Zmw (b:Nat) (l:List UInt8) (i:Nat) (hi:i≤l.length) (hl:l.length≤2000000) (B:Kn):ZrZ (pj J) 124 [ptr ⟨b,0,none⟩] B (cur b l i) (.bool (decide (i=l.length))) (cur b l i):=by
 refine Zb 13 Tryz.func124 rfl rfl rfl (Nat.le_of_ble_eq_true rfl) ?_
 refine Za (xA (h:=Z2 [(0,_),(2,_)] t2 (Ze (Zaa (same _ _) mo kr ⟨rfl,rfl⟩ (fun _ _=>?_)))))
 refine aM 0 rfl (h:=aNc 1 rfl (h:=aW 2 rfl ZbR (h:=aT 3 rfl (Zam fun D=>Zr rfl rfl lk3 rfl (atL 0 rfl rfl rfl) r4) (h:=aM 4 rfl (h:=aNc 5 rfl (h:=aW 6 rfl Zgr (h:=aT 7 rfl (Zam fun D=>Zr rfl rfl lk9 rfl (atL 0 rfl rfl rfl) r4) (h:=aT 8 rfl (Zam fun D=>ZnT rfl rfl Tryz.underlying9 rfl r4) (h:=Zu3 9 rfl (h:=aA 10 rfl (h:=ZC kr kr ?_)))))))))))
 refine Zd (Z2 [(0,_),(2,_)] t2 (Zh ?_))
 exact Zq9 .ret (.inl rfl) [_] 0 rfl t1 ⟨Zi (by rw [Bool.eq_iff_iff];simp;omega),rfl,rfl⟩

set_option maxHeartbeats 400000 in
theorem ZtT (b:Nat) (l:List UInt8) (i:Nat) (hi:i≤l.length) (hl:l.length≤2000000) (x:UInt8) (B:Kn):ZrZ (pj J) 205 [ptr ⟨b,0,none⟩,.int .u8 x.toNat] B (cur b l i) (.bool (decide (l[i]? = some x))) (cur b l (if l[i]? = some x then i+1 else i)):=by
 refine Zb 27 Tryz.func205 rfl rfl rfl (Nat.le_of_ble_eq_true rfl) ?_
 refine Za (xA (h:=Z2 [(0,_),(1,_),(4,_)] t3 (Ze (Zg3 19 (decide (l[i]?≠some x)) [0,1,4] (same _ _) mo kr ⟨rfl,rfl⟩ (fun _ _=>?_) ?_))))
 refine aM 0 rfl (h:=aT 1 rfl (Zam fun D=>Zh7 0 rfl rfl rfl Zrb rfl (Zmw _ _ _ oz oz _) r4) (h:=?_))
 refine aM 2 rfl (h:=ZaR (d:=7) rfl (fun g1=>?_) (fun g1=>?_))
 try simp only [sQ,ne_eq] at g1
 refine aZ 3 rfl (h:=aZ 4 rfl (h:=aZ 5 rfl (h:=aZ 6 rfl (h:=aZ 7 rfl (h:=aZ 8 rfl (h:=aZ 9 rfl (h:=aZ 10 rfl (h:=aZ 11 rfl (h:=aZ 12 rfl (h:=aZ 13 rfl (h:=aPT 14 rfl (h:=ZC kr kr ?_))))))))))))
 exact ⟨rfl,rfl,rfl,Zi3 rfl (by first | (simp [g1];done) | (rw [Bool.eq_iff_iff];simp [hc,← UInt8.toNat_inj];omega)),t3⟩
 try simp only [sQ,ne_eq] at g1
 obtain ⟨c,hc⟩ :∃c,l[i]? = some c:=⟨_,List.getElem?_eq_getElem oz⟩
 refine aM 3 rfl (h:=aNc 4 rfl (h:=aW 5 rfl Zgr (h:=aT 6 rfl (Zam fun D=>Zr rfl rfl lk9 rfl (atL 0 rfl rfl rfl) r4) (h:=aM 7 rfl (h:=aNc 8 rfl (h:=aW 9 rfl ZbR (h:=aT 10 rfl (Zam fun D=>Zr rfl rfl lk3 rfl (atL 0 rfl rfl rfl) r4) (h:=aT 11 rfl (Zam fun D=>ZdR rfl rfl Tryz.underlying9 rfl rfl oz (by simpa using hc) r4) (h:=?_)))))))))
 refine aM 12 rfl (h:=Zu1 13 rfl (h:=aPF 14 rfl (h:=ZC kr kr ?_)))
 exact ⟨rfl,rfl,rfl,Zi3 rfl (by first | (simp [g1];done) | (rw [Bool.eq_iff_iff];simp [hc,← UInt8.toNat_inj];omega)),t3⟩
 refine Z2 [(0,_),(1,_),(4,_),(19,_)] t4 (Zc rfl (fun g2=>?_) (fun g2=>?_))
 try simp only [sQ,ne_eq] at g2
 refine Za (xA (h:=Z2 [(0,_),(1,_),(4,_),(19,_)] t4 (Zh (Zq ?_))))
 exact Zq9 .ret (.inl rfl) [_] 0 rfl t1 ⟨Zi (by simp [g2]),rfl,by rw [if_neg g2]⟩
 try simp only [sQ,ne_eq] at g2
 refine Zf (Zd (Za (xM (h:=xNc (h:=xW ZbR (h:=x1 lk3 0 (h:=Zp (ZgN rfl rfl rfl rfl (by first | exact Zcq oz oz | rfl) ?_))))))))
 refine xNc (h:=xW ZbR (h:=xS [_] 0 [_,_] sz3 (h:=ZG [(0,_),(1,_),(4,_),(19,_)] [_] t4 rfl (Za (xA (h:=Z2 [(0,_),(1,_),(4,_),(19,_)] t4 (Zh ?_)))))))
 exact Zq9 .ret (.inl rfl) [_] 0 rfl t1 ⟨Zi (by simp [g2]),rfl,by rw [if_pos g2];rfl⟩

set_option maxHeartbeats 400000 in
theorem ZoF (b:Nat) (l:List UInt8) (i:Nat) (hi:i≤l.length) (hl:l.length≤2000000) (B:Kn):ZrZ (pj J) 123 [ptr ⟨b,0,none⟩] B (cur b l i) (.tuple #[str (word l i),.bool (Zdc (word l i))]) (cur b l (i+(word l i).length)):=by
 refine Zb 54 Tryz.func123 rfl rfl rfl (Nat.le_of_ble_eq_true rfl) ?_
 refine Za (xA (h:=xA (h:=Z2 [(0,_),(2,_),(3,_)] t3 (Za (xM (h:=xNc (h:=xW ZbR (h:=x1 lk3 0 (h:=xA (h:=Z2 [(0,_),(2,_),(3,_),(4,_)] t4 (Ze (Zl ?_))))))))))))
 refine Zjw (α:=Nat) (fun k=>[(0,ptr ⟨b,0,none⟩),(4,.int .i64 i)]) (fun k=>[cur b l (i+k)]) (fun k Bx=>Bx=B∧i+k≤l.length∧((l.drop i).take k).all Zbg=true) (fun k=>l.length - i - k) 0 t2 rfl (⟨rfl,oz,by simp⟩) (fun k B1 hle1 hI=>?_)
 obtain ⟨rfl,hk,ha⟩:=hI
 refine Ze (Zg3 24 (match l[i+k]? with | some c=>Zbg c | none=>false) [0,4] (same _ _) mo kr ⟨rfl,rfl⟩ (fun _ _=>?_) ?_)
 refine aM 0 rfl (h:=aT 1 rfl (Zam fun D=>Zh7 0 rfl rfl rfl Zrb rfl (Zmw _ _ _ oz oz _) r4) (h:=?_))
 refine aN 2 rfl (h:=aM 3 rfl (h:=ZaR (d:=13) rfl (fun g1=>?_) (fun g1=>?_)))
 try simp only [sQ,ne_eq] at g1
 obtain ⟨c,hc⟩ :∃c,l[i+k]? = some c:=⟨_,List.getElem?_eq_getElem oz⟩
 refine aM 4 rfl (h:=aNc 5 rfl (h:=aW 6 rfl Zgr (h:=aT 7 rfl (Zam fun D=>Zr rfl rfl lk9 rfl (atL 0 rfl rfl rfl) r4) (h:=aM 8 rfl (h:=aNc 9 rfl (h:=aW 10 rfl ZbR (h:=aT 11 rfl (Zam fun D=>Zr rfl rfl lk3 rfl (atL 0 rfl rfl rfl) r4) (h:=aT 12 rfl (Zam fun D=>ZdR rfl rfl Tryz.underlying9 rfl rfl oz hc r4) (h:=?_)))))))))
 refine aT 13 rfl (Zam fun D=>Zak rfl rfl Zwq rfl (Zm1 _ _) r4) (h:=aPT 14 rfl (h:=ZC kr kr ?_))
 exact ⟨rfl,rfl,rfl,Zi3 rfl (by first | (rw [hc];done) | (rw [List.getElem?_eq_none oz])),t2⟩
 try simp only [sQ,ne_eq] at g1
 refine aZ 4 rfl (h:=aZ 5 rfl (h:=aZ 6 rfl (h:=aZ 7 rfl (h:=aZ 8 rfl (h:=aZ 9 rfl (h:=aZ 10 rfl (h:=aZ 11 rfl (h:=aZ 12 rfl (h:=aZ 13 rfl (h:=aPF 14 rfl (h:=ZC kr kr ?_)))))))))))
 exact ⟨rfl,rfl,rfl,Zi3 rfl (by first | (rw [hc];done) | (rw [List.getElem?_eq_none oz])),t2⟩
 refine Z2 [(0,_),(4,_),(24,_)] t3 (Zc rfl (fun g2=>?_) (fun g2=>?_))
 try simp only [sQ,ne_eq] at g2
 refine Zf (Zd (Zl (Zg (xM (h:=xNc (h:=xW ZbR (h:=x1 lk3 0 (h:=Zp (ZgN rfl rfl rfl rfl (by first | exact Zcq oz oz | rfl) ?_)))))))))
 refine xNc (h:=xW ZbR (h:=xS [_] 0 [_,_] sz3 (h:=ZT ?_)))
 obtain ⟨c,hc,hn⟩:=Zol g2
 exact ZmU (k+1) (by have:=Za9 hc;omega) ⟨rfl,by have:=Za9 hc;omega,ZmA (by simpa using hc) hn ha⟩ t2 rfl
 try simp only [sQ,ne_eq] at g2
 have hw:word l i=(l.drop i).take k:=ZpZ ha (fun c hc=>by rw [hc] at g2;exact g2)
 have hwl:(word l i).length=k:=by rw [hw,List.length_take,List.length_drop];omega
 refine ZH (Z0 (ZmT (Zw (Zd (Za (xM (h:=xNc (h:=xW ZbR (h:=x1 lk3 0 (h:=xM (h:=Zp (ZiJ rfl rfl rfl rfl (by first | exact Zcq oz oz | rfl) ?_))))))))))))
 refine xA (h:=Z2 [(0,_),(4,_),(5,_),(24,_)] t4 (Ze (Zaa (same _ _) mo kr ⟨rfl,rfl⟩ (fun _ _=>?_))))
 refine aM 0 rfl (h:=aNc 1 rfl (h:=aW 2 rfl Zgr (h:=aT 3 rfl (Zam fun D=>Zr rfl rfl lk9 rfl (atL 0 rfl rfl rfl) r4) (h:=aM 4 rfl (h:=aM 5 rfl (h:=aNc 6 rfl (h:=aW 7 rfl ZbR (h:=aT 8 rfl (Zam fun D=>Zr rfl rfl lk3 rfl (atL 0 rfl rfl rfl) r4) (h:=aT 9 rfl (Zam fun D=>ZfJ rfl rfl Tryz.underlying9 rfl (a:=i) (b:=i+k) ⟨_,_,rfl,rfl⟩ ⟨_,_,rfl,oz⟩ oz oz r4) (h:=?_))))))))))
 refine aM 10 rfl (h:=Zxd 11 rfl (h:=aM 12 rfl (h:=ZaR (d:=50) rfl (fun g1=>?_) (fun g1=>?_))))
 try simp only [sQ,ne_eq] at g1
 refine aM 13 rfl (h:=Ztm 14 rfl (h:=aPT 15 rfl (h:=aA 16 rfl (h:=aA 17 rfl (h:=ZC kr kr ?_)))))
 refine Zd (Z2 [(0,_),(2,_),(3,_),(4,_),(5,_),(24,_)] t6 (Zh ?_))
 exact Zq9 .ret (.inl rfl) [_,_] 0 rfl t2 ⟨Zib (by rw [Zfb,hw]) (Zi (by rw [Bool.eq_iff_iff];simp [Zdc,hwl];omega)),rfl,by rw [hwl]⟩
 try simp only [sQ,ne_eq] at g1
 refine aZ 13 rfl (h:=aZ 14 rfl (h:=aPF 15 rfl (h:=aA 16 rfl (h:=aA 17 rfl (h:=ZC kr kr ?_)))))
 refine Zd (Z2 [(0,_),(2,_),(3,_),(4,_),(5,_),(24,_)] t6 (Zh ?_))
 exact Zq9 .ret (.inl rfl) [_,_] 0 rfl t2 ⟨Zib (by rw [Zfb,hw]) (Zi (by rw [Bool.eq_iff_iff];simp [Zdc,hwl];omega)),rfl,by rw [hwl]⟩

set_option maxHeartbeats 400000 in
theorem Zrc (b:Nat) (l:List UInt8) (i:Nat) (hi:i≤l.length) (hl:l.length≤2000000) (B:Kn):ZrZ (pj J) 182 [ptr ⟨b,0,none⟩] B (cur b l i) (.tuple #[str (ZhP l i),.bool (ZlG l i)]) (cur b l (dom l i).2):=by
 refine Zb 53 Tryz.func182 rfl rfl rfl (Nat.le_of_ble_eq_true rfl) ?_
 refine Za (xA (h:=xA (h:=Z2 [(0,_),(2,_),(3,_)] t3 (Za (xM (h:=xNc (h:=xW ZbR (h:=x1 lk3 0 (h:=xA (h:=Z2 [(0,_),(2,_),(3,_),(4,_)] t4 (Ze (Za ?_))))))))))))
 refine xM (h:=Zp (Zh5 0 rfl rfl rfl Ztd rfl (ZoF _ _ _ oz oz _) ?_))
 refine xM (h:=xE (h:=xE (h:=xA (h:=xA (h:=ZG [(0,_),(2,_),(3,_),(4,_),(6,_)] [_] t5 rfl (Za (xM (h:=xN (h:=Z2 [(0,_),(2,_),(3,_),(4,_),(6,_),(20,_)] t6 (Zc rfl (fun g1=>?_) (fun g1=>?_)))))))))))
 try simp only [sQ,ne_eq] at g1
 refine Za (xA (h:=xA (h:=Z2 [(0,_),(2,_),(3,_),(4,_),(6,_),(20,_)] t6 (Zh (Zq ?_)))))
 exact Zq9 .ret (.inl rfl) [_,_] 0 rfl t2 ⟨Zib (by simp [ZhP,ZlF g1]) (Zi (by simp [ZlG,ZlF g1])),rfl,by rw [ZlF g1]⟩
 try simp only [sQ,ne_eq] at g1
 refine Zf (Zd (Ze (Za (xA (h:=Z2 [(0,_),(2,_),(3,_),(4,_),(6,_),(7,_),(20,_)] t7 (Zl (Zjw (α:=Nat × Nat) (fun x=>[(0,ptr ⟨b,0,none⟩),(4,.int .i64 i),(7,.int .i64 x.1)]) (fun x=>[cur b l x.2]) (fun x Bx=>Bx=B∧1≤x.1∧x.1≤3∧i≤x.2∧x.2≤l.length∧dom l i=more (3 - x.1) l x.2) (fun x=>3 - x.1) (1,i+(word l i).length) t3 rfl (⟨rfl,oz,oz,oz,Zg1 hi,Zrd g1⟩) (fun x B1 hle1 hI=>?_))))))))
 obtain ⟨rfl,hk1,hk3,hix,hxl,hd⟩:=hI
 refine Ze (Za (xM (h:=ZI (h:=xM (h:=Zz (d:=23) rfl (fun g2=>?_) (fun g2=>?_))))))
 try simp only [sQ,ne_eq] at g2
 refine xM (h:=Zp (Zh5 0 rfl rfl rfl Zv2 rfl (ZtT _ _ _ oz oz 46 _) ?_))
 refine xT (h:=ZG [(0,_),(4,_),(7,_),(26,_)] [_] t4 rfl (Zc rfl (fun g3=>?_) (fun g3=>?_)))
 try simp only [sQ,ne_eq] at g3
 rw [if_pos g3]
 have hx2:=Za9 g3
 refine Zf (Zd (Ze (Zl (Za (xM (h:=Zp (Zh5 0 rfl rfl rfl Ztd rfl (ZoF _ _ _ oz oz _) ?_)))))))
 refine xM (h:=xE (h:=xE (h:=xA (h:=xA (h:=ZG [(0,_),(4,_),(7,_),(9,_),(26,_)] [_] t5 rfl (Za (xM (h:=xN (h:=Z2 [(0,_),(4,_),(7,_),(9,_),(26,_),(35,_)] t6 (Zc rfl (fun g4=>?_) (fun g4=>?_)))))))))))
 try simp only [sQ,ne_eq] at g4
 refine Za (xA (h:=xA (h:=Z2 [(0,_),(2,_),(3,_),(4,_),(7,_),(9,_),(26,_),(35,_)] t8 (Zh (ZD (Zq (Zsq (ZD (Zq ?_)))))))))
 have hdd:=hd.trans (ZqI oz g3 g4)
 exact Zq9 .ret (.inl rfl) [_,_] 0 rfl t2 ⟨Zib (by simp [ZhP,hdd]) (Zi (by simp [ZlG,hdd])),rfl,by rw [hdd]⟩
 try simp only [sQ,ne_eq] at g4
 refine Zf (ZT (Zd (Zg (xM (h:=Zp (ZgN rfl rfl rfl rfl (by first | exact Zcq oz oz | rfl) ?_))))))
 refine xA (h:=?_)
 exact ZmU (x.1+1,x.2+1+(word l (x.2+1)).length) (so) ⟨rfl,so,so,so,Zg1 oz,by rw [hd,ZoK oz g3 g4];rw [show 3 - (x.1+1)=3 - x.1 - 1 from by omega]⟩ t3 rfl
 try simp only [sQ,ne_eq] at g3
 rw [if_neg g3]
 replace hd:=hd.trans (Zhr g3)
 refine ZH (Z0 (ZmT (Zw (Zd (Ze (Zaa (same _ _) mo kr ⟨rfl,rfl⟩ (fun _ _=>?_)))))))
 refine aM 0 rfl (h:=aNc 1 rfl (h:=aW 2 rfl Zgr (h:=aT 3 rfl (Zam fun D=>Zr rfl rfl lk9 rfl (atL 0 rfl rfl rfl) r4) (h:=aM 4 rfl (h:=aM 5 rfl (h:=aNc 6 rfl (h:=aW 7 rfl ZbR (h:=aT 8 rfl (Zam fun D=>Zr rfl rfl lk3 rfl (atL 0 rfl rfl rfl) r4) (h:=aT 9 rfl (Zam fun D=>ZfJ rfl rfl Tryz.underlying9 rfl (a:=i) (b:=x.2) ⟨_,_,rfl,rfl⟩ ⟨_,_,rfl,rfl⟩ oz oz r4) (h:=?_))))))))))
 refine aM 10 rfl (h:=aNc 11 rfl (h:=aW 12 rfl ZbR (h:=aT 13 rfl (Zam fun D=>Zr rfl rfl lk3 rfl (atL 0 rfl rfl rfl) r4) (h:=aM 14 rfl (h:=aT 15 rfl (Zam fun D=>ZiJ rfl rfl rfl rfl (by first | exact Zcq oz oz | rfl) r4) (h:=?_))))))
 refine Ztm 16 rfl (h:=aA 17 rfl (h:=aA 18 rfl (h:=ZC kr kr ?_)))
 refine Zd (Z2 [(0,_),(2,_),(3,_),(4,_),(7,_),(26,_)] t6 (Zh ?_))
 exact Zq9 .ret (.inl rfl) [_,_] 0 rfl t2 ⟨Zib (by simp [ZhP,hd]) (Zi (by rw [Bool.eq_iff_iff];simp [ZlG,hd];omega)),rfl,by rw [hd]⟩
 try simp only [sQ,ne_eq] at g2
 replace hd:dom l i=(true,x.2):=hd.trans (by rw [show 3 - x.1=0 from by omega];rfl)
 refine xP (h:=xP (h:=xF (h:=Z2 [(0,_),(4,_),(7,_),(26,_)] t4 (Zc (t:=false) rfl (fun h=>Bool.noConfusion h) (fun _=>ZH (Z0 (ZmT (Zw (Zd (Ze (Zaa (same _ _) mo kr ⟨rfl,rfl⟩ (fun _ _=>?_))))))))))))
 refine aM 0 rfl (h:=aNc 1 rfl (h:=aW 2 rfl Zgr (h:=aT 3 rfl (Zam fun D=>Zr rfl rfl lk9 rfl (atL 0 rfl rfl rfl) r4) (h:=aM 4 rfl (h:=aM 5 rfl (h:=aNc 6 rfl (h:=aW 7 rfl ZbR (h:=aT 8 rfl (Zam fun D=>Zr rfl rfl lk3 rfl (atL 0 rfl rfl rfl) r4) (h:=aT 9 rfl (Zam fun D=>ZfJ rfl rfl Tryz.underlying9 rfl (a:=i) (b:=x.2) ⟨_,_,rfl,rfl⟩ ⟨_,_,rfl,rfl⟩ oz oz r4) (h:=?_))))))))))
 refine aM 10 rfl (h:=aNc 11 rfl (h:=aW 12 rfl ZbR (h:=aT 13 rfl (Zam fun D=>Zr rfl rfl lk3 rfl (atL 0 rfl rfl rfl) r4) (h:=aM 14 rfl (h:=aT 15 rfl (Zam fun D=>ZiJ rfl rfl rfl rfl (by first | exact Zcq oz oz | rfl) r4) (h:=?_))))))
 refine Ztm 16 rfl (h:=aA 17 rfl (h:=aA 18 rfl (h:=ZC kr kr ?_)))
 refine Zd (Z2 [(0,_),(2,_),(3,_),(4,_),(7,_),(26,_)] t6 (Zh ?_))
 exact Zq9 .ret (.inl rfl) [_,_] 0 rfl t2 ⟨Zib (by simp [ZhP,hd]) (Zi (by rw [Bool.eq_iff_iff];simp [ZlG,hd];omega)),rfl,by rw [hd]⟩

set_option maxHeartbeats 400000 in
theorem ZcP (l:List UInt8) (hl:l.length≤2000000) (B:Kn):Zag (pj J) 72 [str l] B (.bool (ZaG l)):=by
 refine Zb 16 Tryz.func72 rfl rfl rfl (Nat.le_of_ble_eq_true rfl) ?_
 refine Za (xA (h:=Z2 [(0,_),(2,_)] t2 (Za (xM (h:=xB [(0,_)] [_,_] [_,_] Zt9 ZpY (h:=xAl [_,_] ZpY (h:=fun b0=>xS [_,_] 0 [_,_] Zt1 (h:=ZG [(0,_),(2,_),(3,_)] [_] t3 rfl (Za (Zp (Zh5 0 rfl rfl rfl Ztd rfl (ZoF _ _ 0 oz hl _) ?_)))))))))))
 refine xM (h:=xE (h:=xE (h:=xA (h:=xA (h:=ZG [(0,_),(2,_),(3,_),(5,_)] [_] t4 rfl (Za (xM (h:=xM (h:=Zz (d:=13) rfl (fun g1=>?_) (fun g1=>?_))))))))))
 try simp only [sQ,ne_eq] at g1
 refine Zp (Zh7 0 rfl rfl rfl Zrb rfl (Zmw _ _ (0+(word l 0).length) (Zg1 (Nat.zero_le _)) oz _) ?_)
 refine xT (h:=xA (h:=Z2 [(0,_),(2,_),(3,_),(5,_)] t4 (Zh ?_)))
 exact ZE .ret (.inl rfl) [_] t1 ⟨Zi (by rw [ZcZ];simp [g1];try omega),rfl,rfl⟩
 try simp only [sQ,ne_eq] at g1
 refine xP (h:=xF (h:=xA (h:=Z2 [(0,_),(2,_),(3,_),(5,_)] t4 (Zh ?_))))
 exact ZE .ret (.inl rfl) [_] t1 ⟨Zi (by rw [ZcZ];simp [g1];try omega),rfl,rfl⟩

abbrev Zvf (s : Cells) (q : Option Addr) (m cp : Nat) (ls : List (List UInt8)) : Prop := Zg0 s q m cp 9 1 (ls.map str)
theorem ZjB {s:Cells} {q:Option Addr} {m cp:Nat} {ls:List (List UInt8)} {a:List UInt8} (h:Zg0 s q m cp 9 1 (ls.map str ++ [str a])):Zvf s q m cp (ls ++ [a]):=by
 unfold Zvf
 rw [List.map_append]
 exact h
set_option maxHeartbeats 400000 in
theorem ZsF (l:List UInt8) (hl:l.length≤2000000) (x0:UInt8) (B:Kn):ZxC (pj J) 141 [str l,.int .u8 x0.toNat] B (fun v s=>∃q cp,v = .slice q (cut x0 l).length cp∧Zvf s q (cut x0 l).length cp (cut x0 l)):=by
 refine Zb 35 Tryz.func141 rfl rfl rfl (Nat.le_of_ble_eq_true rfl) ?_
 refine Za (xA (h:=Z2 [(0,_),(1,_),(4,_)] t3 (Za (xBs [] [] Tryz.underlying43 sz9 zo9 (h:=fun b0=>xA (h:=ZG [(0,_),(1,_),(4,_),(5,_)] [_] t4 rfl (Za (xA (h:=Z2 [(0,_),(1,_),(4,_),(5,_),(6,_)] t5 (Ze (Za (xA (h:=?_)))))))))))))
 refine Z2 [(0,_),(1,_),(4,_),(5,_),(6,_),(7,_)] t6 (Zl (Zjw (α:=CutSt) (fun x=>[(0,str l),(1,.int .u8 x0.toNat),(5,.slice x.q x.m x.cp),(6,.int .i64 x.f),(7,.int .i64 x.i)]) (fun x=>[x.s]) (fun x Bx=>Bx=B∧x.f≤x.i∧x.i≤l.length∧x.m≤x.i∧x.m=x.ps.length∧Zvf x.s x.q x.m x.cp x.ps∧cut x0 l=x.ps ++ glue ((l.take x.i).drop x.f) (cut x0 (l.drop x.i))) (fun x=>l.length - x.i) ⟨0,0,0,[],some ⟨b0,0,none⟩,0,Z7 b0 [] 9⟩ t5 rfl (⟨rfl,Nat.le_refl _,Nat.zero_le _,Nat.le_refl _,rfl,Zg0.lit rfl,by simp [Zmq (Zmz x0 l)]⟩) (fun x B1 hle1 hI=>?_)))
 obtain ⟨rfl,hf,hi,hn,hm,hv,hc⟩:=hI
 refine Ze (Za (xM (h:=xM (h:=xVs Tryz.underlying9 (h:=ZI (h:=Z2 [(0,_),(1,_),(5,_),(6,_),(7,_),(12,_)] t6 (Zc rfl (fun g1=>?_) (fun g1=>?_))))))))
 try simp only [sQ,ne_eq] at g1
 obtain ⟨c,hx⟩ :∃c,l[x.i]? = some c:=⟨_,List.getElem?_eq_getElem oz⟩
 refine Zf (Zd (Ze (Zl (Za (xM (h:=xM (h:=Zp (ZdR rfl rfl Tryz.underlying9 rfl rfl oz hx ?_))))))))
 refine xM (h:=Zh3 (h:=Z2 [(0,_),(1,_),(5,_),(6,_),(7,_),(12,_),(19,_)] t7 (Zc rfl (fun g2=>?_) (fun g2=>?_))))
 try simp only [sQ,ne_eq] at g2
 refine Za (xM (h:=xM (h:=xM (h:=xM (h:=Zp (ZfJ rfl rfl Tryz.underlying9 rfl (a:=x.f) (b:=x.i) ⟨_,_,rfl,rfl⟩ ⟨_,_,rfl,rfl⟩ oz oz ?_))))))
 refine xBs [(0,_)] [_] Tryz.underlying43 sz9 zo9 (h:=fun b1=>Zp (ZeJ 0 rfl (hv) rfl rfl ZrT Zsk rfl rfl (ZbG.box 1 rfl) rfl rfl oz (fun l1 p1 c1 hv1=>?_)))
 refine xA (h:=ZG [(0,_),(1,_),(5,_),(6,_),(7,_),(12,_),(19,_)] [_,_] t7 rfl (ZnN [0] rfl (Zg (xM (h:=Zp (ZgN rfl rfl rfl rfl (by first | exact Zcq oz oz | rfl) ?_))))))
 refine xA (h:=ZT (Zd (Zg (xM (h:=Zp (ZgN rfl rfl rfl rfl (by first | exact Zcq oz oz | rfl) ?_))))))
 refine xA (h:=?_)
 exact ZmU ⟨x.i+1,x.i+1,x.m+1,x.ps ++ [(l.take x.i).drop x.f],p1,c1,l1⟩ (so) ⟨rfl,Nat.le_refl _,so,so,by simp [hm],ZjB hv1,by rw [hc,Ztj hx (Zvw g2),List.append_assoc];simp [Zq3,Zmq (Zmz x0 _)]⟩ t5 rfl
 try simp only [sQ,ne_eq] at g2
 refine Zf (ZT (Zd (Zg (xM (h:=Zp (ZgN rfl rfl rfl rfl (by first | exact Zcq oz oz | rfl) ?_))))))
 refine xA (h:=?_)
 exact ZmU ⟨x.i+1,x.f,x.m,x.ps,x.q,x.cp,x.s⟩ (so) ⟨rfl,so,so,so,hm,hv,by rw [hc,Zrf hx (Zvv g2),Zpa,Zn8 hx hf]⟩ t5 rfl
 try simp only [sQ,ne_eq] at g1
 obtain hie:x.i=l.length:=by omega
 rw [hie,List.take_length,List.drop_length] at hc
 refine ZH (Z0 (ZmT (Zw (Zd (Za (xM (h:=xM (h:=xM (h:=Zp (ZfJ rfl rfl Tryz.underlying9 rfl (a:=x.f) (b:=l.length) ⟨_,_,rfl,rfl⟩ rfl oz oz ?_))))))))))
 refine xBs [(0,_)] [_] Tryz.underlying43 sz9 zo9 (h:=fun b1=>Zp (ZeJ 0 rfl (hv) rfl rfl ZrT Zsk rfl rfl (ZbG.box 1 rfl) rfl rfl oz (fun l2 p2 c2 hv2=>?_)))
 refine xA (h:=ZG [(0,_),(1,_),(4,_),(5,_),(6,_),(7,_),(12,_)] [_,_] t7 rfl (Zh ?_))
 have he:cut x0 l=x.ps ++ [l.drop x.f]:=by rw [hc];simp [cut,glue]
 have hlen:(cut x0 l).length=x.m+1:=by rw [he];simp [hm]
 exact ZaW .ret (.inl rfl) [_] [0] rfl t1 ⟨rfl,_,rfl,p2,c2,by rw [hlen];rfl,by rw [hlen,he];rw [List.take_length] at hv2;exact ZjB hv2⟩

set_option maxHeartbeats 400000 in
theorem ZjR (l:List UInt8) (hl:l.length≤2000000) (B:Kn):Zag (pj J) 85 [str l] B (.bool (Zcy l)):=by
 refine Zb 27 Tryz.func85 rfl rfl rfl (Nat.le_of_ble_eq_true rfl) ?_
 refine Za (xA (h:=Z2 [(0,_),(2,_)] t2 (Za (xM (h:=Zp (ZtD rfl rfl ZwM rfl (ZsF _ hl 46 _) ?_))))))
 rintro _ s ⟨q,cp,rfl,hv⟩
 refine xA (h:=ZG [(0,_),(2,_),(3,_)] [_] t3 rfl (Ze (Za (xA (h:=Z2 [(0,_),(2,_),(3,_),(4,_)] t4 (Zl (Zjw (α:=Nat) (fun k=>[(0,str l),(3,.slice q (cut 46 l).length cp),(4,.int .i64 k)]) (fun k=>[s]) (fun k Bx=>Bx=B∧k≤(cut 46 l).length∧((cut 46 l).take k).all ZaG=true) (fun k=>(cut 46 l).length - k) 0 t3 rfl (⟨rfl,Nat.zero_le _,by simp⟩) (fun k B1 hle1 hI=>?_))))))))
 obtain ⟨rfl,hk,ha⟩:=hI
 have hcc:=Zkz 46 l
 refine Ze (Za (xM (h:=xM (h:=xV Tryz.underlying43 (h:=ZI (h:=Z2 [(0,_),(3,_),(4,_),(10,_)] t4 (Zc rfl (fun g1=>?_) (fun g1=>?_))))))))
 try simp only [sQ,ne_eq] at g1
 obtain ⟨y,hy⟩ :∃y,(cut 46 l)[k]? = some y:=⟨_,List.getElem?_eq_getElem oz⟩
 have hyl:=ZlH 46 l y (List.mem_of_getElem? hy)
 obtain ⟨a,rfl,hsp,hat⟩:=hv.at (B:=B1) (L:=[s]) (i:=k) (v:=str y) 0 rfl (by rw [List.getElem?_map,hy];rfl)
 refine Zf (Zd (Ze (Zl (Za (xM (h:=xM (h:=Zp (ZbO rfl rfl Tryz.underlying43 sz9 rfl rfl oz oz ?_))))))))
 refine Zp (Zr rfl rfl lk9 rfl (ZuV hat) (xR Zs9 rfl (Zch _ oz _) (h:=?_)))
 refine xN (h:=Z2 [(0,_),(3,_),(4,_),(10,_),(18,_)] t5 (Zc rfl (fun g2=>?_) (fun g2=>?_)))
 try simp only [sQ,ne_eq] at g2
 refine Za (xA (h:=Z2 [(0,_),(2,_),(3,_),(4,_),(10,_),(18,_)] t6 (Zh (ZD (Zq (Zsq (ZD (Zq ?_))))))))
 exact ZE .ret (.inl rfl) [_] t1 ⟨Zi (by simp [Zcy,ZkH hy g2]),rfl,rfl⟩
 try simp only [sQ,ne_eq] at g2
 refine Zf (ZT (Zd (Zg (xM (h:=Zp (ZgN rfl rfl rfl rfl (by first | exact Zcq oz oz | rfl) ?_))))))
 refine xA (h:=?_)
 exact ZmU (k+1) oz ⟨rfl,oz,ZhV hy g2 ha⟩ t3 rfl
 try simp only [sQ,ne_eq] at g1
 obtain hke:k=(cut 46 l).length:=by omega
 rw [hke,List.take_length] at ha
 refine ZH (Z0 (ZmT (Zw (Zd (Za (xM (h:=xV Tryz.underlying43 (h:=Zce (h:=xM (h:=Zz (d:=22) rfl (fun g3=>?_) (fun g3=>?_)))))))))))
 try simp only [sQ,ne_eq] at g3
 refine xM (h:=xVs Tryz.underlying9 (h:=Zce (h:=xT (h:=xA (h:=Z2 [(0,_),(2,_),(3,_),(4,_),(10,_)] t5 (Zh ?_))))))
 exact ZE .ret (.inl rfl) [_] t1 ⟨Zi (by rw [Bool.eq_iff_iff];simp [Zcy,ha];omega),rfl,rfl⟩
 try simp only [sQ,ne_eq] at g3
 refine xP (h:=xP (h:=xP (h:=xF (h:=xA (h:=Z2 [(0,_),(2,_),(3,_),(4,_),(10,_)] t5 (Zh ?_))))))
 exact ZE .ret (.inl rfl) [_] t1 ⟨Zi (by rw [Bool.eq_iff_iff];simp [Zcy,ha];omega),rfl,rfl⟩

set_option maxHeartbeats 400000 in
theorem ZfZ (q:Option Addr) (cp:Nat) (us:List DUser) (u:Str) (B:Kn) (hu:SlK B q cp 3 Zm us):Zag (pj J) 35 [.slice q us.length cp,str u] B (.int .i64 (ZfG us u)):=by
 refine Zb 20 Tryz.func35 rfl rfl rfl (Nat.le_of_ble_eq_true rfl) ?_
 have hun:=hu.len
 refine Za (xA (h:=Ze (Za (xA (h:=Zl (ZA (α:=Nat) [0,1] (fun k=>[(5,.int .i64 k)]) [] (fun k=>[]) (fun k Bx=>Bx=B∧k≤us.length∧∀x,x∈us.take k→x.name≠u) (fun k=>us.length - k) 0 t1 rfl (⟨rfl,Nat.zero_le _,by simp⟩) (fun k B1 hle1 hI=>?_)))))))
 obtain ⟨rfl,hk,ha⟩:=hI
 refine ZG [(0,_),(1,_),(5,_)] [] t3 rfl (Ze (Za (xM (h:=xM (h:=xV Tryz.underlying30 (h:=ZI (h:=Zc rfl (fun g1=>?_) (fun g1=>?_))))))))
 try simp only [sQ,ne_eq] at g1
 refine Zf (Zd (Ze (Zl (Za (xM (h:=xM (h:=?_)))))))
 obtain ⟨x,hx⟩:=ZZ (xs:=us) (i:=k) om
 obtain ⟨bb3,oo3,rfl⟩:=hu.base hx
 obtain ⟨_,⟨rfl,hb4,hb4b⟩,hc4⟩:=hu.elem hx
 refine xIx Tryz.underlying30 Zbe (h:=xW Za5 (h:=y1 lk9 hc4 0 (h:=xM (h:=Zem (h:=Zc rfl (fun g2=>?_) (fun g2=>?_))))))
 try simp only [sQ,ne_eq] at g2
 refine Za (xM (h:=xA (h:=Zh (ZD (Zq (ZS (ZD (Zq ?_))))))))
 exact ZE .ret (.inl rfl) [_] t1 ⟨ZN (ZqP hx g2 ha).symm,rfl,rfl⟩
 try simp only [sQ,ne_eq] at g2
 refine Zf (ZT (Zd (Zg (xM (h:=xD (h:=xA (h:=?_)))))))
 exact ZF (k+1) [] so2 ⟨rfl,oz,Zbj hx ha g2⟩ t3 rfl
 try simp only [sQ,ne_eq] at g1
 refine ZH (Z0 (ZJ (Zw (Zd (Za (xA (h:=Zh ?_)))))))
 exact ZE .ret (.inl rfl) [_] t1 ⟨ZN (Zo1 (Zbw oz ha)).symm,rfl,rfl⟩

set_option maxHeartbeats 400000 in
theorem ZlD (q q':Option Addr) (cp cp':Nat) (xs ys:List Str) (B:Kn) (ha:SlK B q cp 1 Zbv xs) (hb:SlK B q' cp' 1 Zbv ys):Zag (pj J) 63 [.slice q xs.length cp,.slice q' ys.length cp'] B (.bool (decide (xs=ys))):=by
 refine Zb 26 Tryz.func63 rfl rfl rfl (Nat.le_of_ble_eq_true rfl) ?_
 have han:=ha.len
 have hbn:=hb.len
 refine Za (xA (h:=Ze (Za (xM (h:=xV Tryz.underlying43 (h:=xM (h:=xV Tryz.underlying43 (h:=ZaT (h:=Zc rfl (fun g1=>?_) (fun g1=>?_))))))))))
 try simp only [sQ,ne_eq] at g1
 refine Za (xA (h:=Zh (Zq ?_)))
 exact ZE .ret (.inl rfl) [_] t1 ⟨Zi (Zgt g1),rfl,rfl⟩
 try simp only [sQ,ne_eq] at g1
 refine Zf (Zd (Ze (Za (xA (h:=Zl (ZA (α:=Nat) [0,1,10] (fun k=>[(5,.int .i64 k)]) [] (fun k=>[]) (fun k Bx=>Bx=B∧k≤xs.length∧xs.take k=ys.take k) (fun k=>xs.length - k) 0 t1 rfl (⟨rfl,Nat.zero_le _,by simp⟩) (fun k B1 hle1 hI=>?_)))))))
 obtain ⟨rfl,hk,he⟩:=hI
 refine ZG [(0,_),(1,_),(5,_),(10,_)] [] t4 rfl (Ze (Za (xM (h:=xM (h:=xV Tryz.underlying43 (h:=ZI (h:=Zc rfl (fun g2=>?_) (fun g2=>?_))))))))
 try simp only [sQ,ne_eq] at g2
 refine Zf (Zd (Ze (Zl (Ze (Zaa (same _ _) mo kr ⟨rfl,rfl⟩ (fun _ _=>?_))))))
 refine aM 0 rfl (h:=aM 1 rfl (h:=?_))
 obtain ⟨x,hx⟩:=ZZ (xs:=xs) (i:=k) om
 obtain ⟨bb3,oo3,rfl⟩:=ha.base hx
 obtain ⟨_,⟨rfl,hb4⟩,hc4⟩:=ha.elem hx
 refine aIx 2 rfl Tryz.underlying43 sz9 (h:=aT 3 rfl (Zam fun D=>Zr rfl rfl lk9 rfl (hc4 _ 0 _ rfl) r4) (h:=aM 4 rfl (h:=aM 5 rfl (h:=?_))))
 obtain ⟨y,hy⟩:=ZZ (xs:=ys) (i:=k) om
 obtain ⟨bb6,oo6,rfl⟩:=hb.base hy
 obtain ⟨_,⟨rfl,hb7⟩,hc7⟩:=hb.elem hy
 refine aIx 6 rfl Tryz.underlying43 sz9 (h:=aT 7 rfl (Zam fun D=>Zr rfl rfl lk9 rfl (hc7 _ 0 _ rfl) r4) (h:=Zfe 8 rfl (h:=ZC kr kr ?_)))
 refine Zd (Zc rfl (fun g3=>?_) (fun g3=>?_))
 try simp only [sQ,ne_eq] at g3
 refine Za (xA (h:=Zh (ZD (Zq (ZS (ZD (Zq ?_)))))))
 exact ZE .ret (.inl rfl) [_] t1 ⟨Zi (ZeT hx hy g3),rfl,rfl⟩
 try simp only [sQ,ne_eq] at g3
 refine Zf (ZT (Zd (Zg (xM (h:=xD (h:=xA (h:=?_)))))))
 exact ZF (k+1) [] so2 ⟨rfl,oz,ZbS hx hy g3 he⟩ t4 rfl
 try simp only [sQ,ne_eq] at g2
 refine ZH (Z0 (ZJ (Zw (Zd (Za (xA (h:=Zh ?_)))))))
 exact ZE .ret (.inl rfl) [_] t1 ⟨Zi (eqT oz oz he),rfl,rfl⟩

set_option maxHeartbeats 400000 in
theorem Zmk (q:Option Addr) (cp:Nat) (xs:List Str) (u:Str) (B:Kn) (ha:SlK B q cp 1 Zbv xs):Zag (pj J) 130 [.slice q xs.length cp,str u] B (.bool (decide (u∈xs))):=by
 refine Zb 18 Tryz.func130 rfl rfl rfl (Nat.le_of_ble_eq_true rfl) ?_
 have han:=ha.len
 refine Za (xA (h:=Ze (Za (xA (h:=Zl (ZA (α:=Nat) [0,1] (fun k=>[(5,.int .i64 k)]) [] (fun k=>[]) (fun k Bx=>Bx=B∧k≤xs.length∧∀x,x∈xs.take k→x≠u) (fun k=>xs.length - k) 0 t1 rfl (⟨rfl,Nat.zero_le _,by simp⟩) (fun k B1 hle1 hI=>?_)))))))
 obtain ⟨rfl,hk,hn⟩:=hI
 refine ZG [(0,_),(1,_),(5,_)] [] t3 rfl (Ze (Za (xM (h:=xM (h:=xV Tryz.underlying43 (h:=ZI (h:=Zc rfl (fun g1=>?_) (fun g1=>?_))))))))
 try simp only [sQ,ne_eq] at g1
 refine Zf (Zd (Ze (Zl (Za (xM (h:=xM (h:=?_)))))))
 obtain ⟨x,hx⟩:=ZZ (xs:=xs) (i:=k) om
 obtain ⟨bb3,oo3,rfl⟩:=ha.base hx
 obtain ⟨_,⟨rfl,hb4⟩,hc4⟩:=ha.elem hx
 refine xIx Tryz.underlying43 sz9 (h:=y1 lk9 hc4 0 (h:=xM (h:=Zem (h:=Zc rfl (fun g2=>?_) (fun g2=>?_)))))
 try simp only [sQ,ne_eq] at g2
 refine Za (xA (h:=Zh (ZD (Zq (ZS (ZD (Zq ?_)))))))
 exact ZE .ret (.inl rfl) [_] t1 ⟨Zi (ZxH hx g2),rfl,rfl⟩
 try simp only [sQ,ne_eq] at g2
 refine Zf (ZT (Zd (Zg (xM (h:=xD (h:=xA (h:=?_)))))))
 exact ZF (k+1) [] so2 ⟨rfl,oz,Zbj hx hn g2⟩ t3 rfl
 try simp only [sQ,ne_eq] at g1
 refine ZH (Z0 (ZJ (Zw (Zd (Za (xA (h:=Zh ?_)))))))
 exact ZE .ret (.inl rfl) [_] t1 ⟨Zi (ZxI (Zbw oz hn)),rfl,rfl⟩

set_option maxHeartbeats 400000 in
theorem Zm9 (q:Option Addr) (cp:Nat) (xs:List Str) (B:Kn) (ha:SlK B q cp 1 Zbv xs):Zag (pj J) 115 [.slice q xs.length cp] B (.bool (Zcz xs)):=by
 refine Zb 29 Tryz.func115 rfl rfl rfl (Nat.le_of_ble_eq_true rfl) ?_
 have han:=ha.len
 refine Za (xA (h:=Ze (Za (xA (h:=Zl (ZA (α:=Nat) [0] (fun k=>[(3,.int .i64 k)]) [] (fun k=>[]) (fun k Bx=>Bx=B∧k≤xs.length∧(xs.take k).all ZaG=true∧(xs.take k).Nodup) (fun k=>xs.length - k) 0 t1 rfl (⟨rfl,Nat.zero_le _,by simp,by simp⟩) (fun k B1 hle1 hI=>?_)))))))
 obtain ⟨rfl,hk,hv,hn⟩:=hI
 refine ZG [(0,_),(3,_)] [] t2 rfl (Ze (Za (xM (h:=xM (h:=xV Tryz.underlying43 (h:=ZI (h:=Zc rfl (fun g1=>?_) (fun g1=>?_))))))))
 try simp only [sQ,ne_eq] at g1
 refine Zf (Zd (Ze (Zl (Ze (Zaa (same _ _) mo kr ⟨rfl,rfl⟩ (fun _ _=>?_))))))
 refine aM 0 rfl (h:=aM 1 rfl (h:=?_))
 obtain ⟨x,hx⟩:=ZZ (xs:=xs) (i:=k) om
 obtain ⟨bb3,oo3,rfl⟩:=ha.base hx
 obtain ⟨_,⟨rfl,hb4⟩,hc4⟩:=ha.elem hx
 refine aIx 2 rfl Tryz.underlying43 sz9 (h:=aT 3 rfl (Zam fun D=>Zr rfl rfl lk9 rfl (hc4 _ 0 _ rfl) r4) (h:=aT 4 rfl (Zam fun D=>Zak rfl rfl Zs9 rfl (Zch _ om2 _) r4) (h:=?_)))
 refine aN 5 rfl (h:=aM 6 rfl (h:=ZaR (d:=16) rfl (fun g2=>?_) (fun g2=>?_)))
 try simp only [sQ,ne_eq] at g2
 refine aZ 7 rfl (h:=aZ 8 rfl (h:=aZ 9 rfl (h:=aZ 10 rfl (h:=aZ 11 rfl (h:=aZ 12 rfl (h:=aZ 13 rfl (h:=aZ 14 rfl (h:=aPT 15 rfl (h:=ZC kr kr ?_)))))))))
 refine Zd (Zc (t:=true) rfl (fun _=>Za (xA (h:=Zh (ZD (Zq (ZS (ZD (Zq ?_)))))))) (fun h=>Bool.noConfusion h))
 exact ZE .ret (.inl rfl) [_] t1 ⟨Zi (ZgI hx g2),rfl,rfl⟩
 try simp only [sQ,ne_eq] at g2
 refine aM 7 rfl (h:=aM 8 rfl (h:=?_))
 obtain ⟨hq6,q6,cp6,hv6,hr6⟩:=ha.cutE 0 k om om
 have hr6n:=hr6.len
 refine aT 9 rfl (Zam fun D=>Zjz (a:=0) (b:=k) hv6 om hq6 rfl rfl Tryz.underlying43 sz9 rfl rfl ⟨_,_,rfl,by first | omega | (simp;done) | (simp;omega)⟩ r4) (h:=?_)
 refine aM 10 rfl (h:=aM 11 rfl (h:=aIx 12 rfl Tryz.underlying43 sz9 (h:=aT 13 rfl (Zam fun D=>Zr rfl rfl lk9 rfl (hc4 _ 0 _ rfl) r4) (h:=aT 14 rfl (Zam fun D=>Zak rfl rfl ZuJ rfl (Zmk _ _ _ _ _ hr6) r4) (h:=aPF 15 rfl (h:=ZC kr kr ?_))))))
 refine Zd (Zc rfl (fun g3=>?_) (fun g3=>?_))
 try simp only [sQ,ne_eq] at g3
 refine Za (xA (h:=Zh (ZD (Zq (ZS (ZD (Zq ?_)))))))
 exact ZE .ret (.inl rfl) [_] t1 ⟨Zi (ZgH hx (by simpa using g3)),rfl,rfl⟩
 try simp only [sQ,ne_eq] at g3
 refine Zf (ZT (Zd (Zg (xM (h:=xD (h:=xA (h:=?_)))))))
 exact ZF (k+1) [] so2 ⟨rfl,oz,ZhV hx g2 hv,ZoD hx hn (by simpa using g3)⟩ t2 rfl
 try simp only [sQ,ne_eq] at g1
 refine ZH (Z0 (ZJ (Zw (Zd (Za (xM (h:=xV Tryz.underlying43 (h:=Zce (h:=xA (h:=Zh ?_))))))))))
 exact ZE .ret (.inl rfl) [_] t1 ⟨Zi (Zhq oz hv hn),rfl,rfl⟩

set_option maxHeartbeats 400000 in
theorem ZjQ (q:Option Addr) (cp:Nat) (x:DLetter) (B:Kn) (ha:SlK B q cp 1 Zbv x.to_) (h1:x.fr.length≤2000000) (h2:x.text.length≤2000000):Zag (pj J) 56 [.agg #[str x.fr,.slice q x.to_.length cp,str x.text]] B (.bool (Zb3 x)):=by
 refine Zb 23 Tryz.func56 rfl rfl rfl (Nat.le_of_ble_eq_true rfl) ?_
 refine Za (xBx [_,_,_] (h:=fun b1=>xA (h:=ZB [_] rfl (Za (xW ZrN (h:=x1 lk9 0 (h:=xR Zs9 rfl (Zch _ om2 _) (h:=?_))))))))
 refine xM (h:=Zz (d:=6) rfl (fun g1=>?_) (fun g1=>?_))
 try simp only [sQ,ne_eq] at g1
 refine xW Zpc (h:=x1 ZgW 0 (h:=xR ZwZ rfl (Zm9 _ _ _ _ ha) (h:=xT (h:=xM (h:=Zz (d:=11) rfl (fun g2=>?_) (fun g2=>?_))))))
 try simp only [sQ,ne_eq] at g2
 refine xW Zpc (h:=x1 ZgW 0 (h:=xV Tryz.underlying43 (h:=Zdb (h:=xT (h:=xM (h:=Zz (d:=17) rfl (fun g3=>?_) (fun g3=>?_)))))))
 try simp only [sQ,ne_eq] at g3
 refine xW ZrM (h:=x1 lk9 0 (h:=xVs Tryz.underlying9 (h:=Zce (h:=xT (h:=xA (h:=Zh ?_))))))
 exact ZE .ret (.inl rfl) [_] t1 ⟨Zi (by rw [Bool.eq_iff_iff];simp [Zb3,g1,g2,g3];try omega),rfl,rfl⟩
 try simp only [sQ,ne_eq] at g3
 refine xP (h:=xP (h:=xP (h:=xP (h:=xF (h:=xA (h:=Zh ?_))))))
 exact ZE .ret (.inl rfl) [_] t1 ⟨Zi (by rw [Bool.eq_iff_iff];simp [Zb3,g1,g2,g3];try omega),rfl,rfl⟩
 try simp only [sQ,ne_eq] at g2
 refine xP (h:=xP (h:=xP (h:=xP (h:=xF (h:=xM (h:=xP (h:=xP (h:=xP (h:=xP (h:=xF (h:=xA (h:=Zh ?_))))))))))))
 exact ZE .ret (.inl rfl) [_] t1 ⟨Zi (by rw [Bool.eq_iff_iff];simp [Zb3,g1,g2];try omega),rfl,rfl⟩
 try simp only [sQ,ne_eq] at g1
 refine xP (h:=xP (h:=xP (h:=xF (h:=xM (h:=xP (h:=xP (h:=xP (h:=xP (h:=xF (h:=xM (h:=xP (h:=xP (h:=?_)))))))))))))
 refine xP (h:=xP (h:=xF (h:=xA (h:=Zh ?_))))
 exact ZE .ret (.inl rfl) [_] t1 ⟨Zi (by rw [Bool.eq_iff_iff];simp [Zb3,g1];try omega),rfl,rfl⟩

set_option maxHeartbeats 400000 in
theorem ZoZ (q:Option Addr) (cp:Nat) (xs:List Str) (v:Str) (B:Kn) (ha:SlK B q cp 1 Zbv xs):Zag (pj J) 133 [.slice q xs.length cp,str v] B (.int .i64 (Ztq xs v)):=by
 refine Zb 19 Tryz.func133 rfl rfl rfl (Nat.le_of_ble_eq_true rfl) ?_
 have han:=ha.len
 refine Za (xA (h:=Ze (Za (xM (h:=xV Tryz.underlying43 (h:=xM (h:=Zl (ZA (α:=Nat) [0,1,7] (fun k=>[(8,.int .i64 k)]) [] (fun k=>[]) (fun k Bx=>Bx=B∧k≤xs.length∧∀x,x∈xs.take k→decide (x=v)=false) (fun k=>xs.length - k) 0 t1 rfl (⟨rfl,Nat.zero_le _,by simp⟩) (fun k B1 hle1 hI=>?_)))))))))
 obtain ⟨rfl,hk,hn⟩:=hI
 refine ZG [(0,_),(1,_),(7,_),(8,_)] [] t4 rfl (Za (ZI (h:=Ze (Zc rfl (fun g1=>?_) (fun g1=>?_)))))
 try simp only [sQ,ne_eq] at g1
 refine Zf (Zd (Ze (Zl (Za (xM (h:=xA (h:=Za (xM (h:=xM (h:=xM (h:=?_)))))))))))
 obtain ⟨x,hx⟩:=ZZ (xs:=xs) (i:=k) om
 obtain ⟨bb3,oo3,rfl⟩:=ha.base hx
 obtain ⟨_,⟨rfl,hb4⟩,hc4⟩:=ha.elem hx
 refine xIx Tryz.underlying43 sz9 (h:=y1 lk9 hc4 0 (h:=Zem (h:=Zc rfl (fun g2=>?_) (fun g2=>?_))))
 try simp only [sQ,ne_eq] at g2
 refine Za (xM (h:=xA (h:=Zh (ZD (Zq (ZS (ZD (Zq ?_))))))))
 exact ZE .ret (.inl rfl) [_] t1 ⟨ZN (ZgX hx (by simp [g2]) hn).symm,rfl,rfl⟩
 try simp only [sQ,ne_eq] at g2
 refine Zf (ZT (Zd (Zg (xD (h:=xM (h:=?_))))))
 exact ZF (k+1) [] so2 ⟨rfl,oz,Zbj hx hn (by simp [Ne.symm g2])⟩ t4 rfl
 try simp only [sQ,ne_eq] at g1
 refine ZH (Z0 (ZJ (Zw (Zd (Za (xA (h:=Zh ?_)))))))
 exact ZE .ret (.inl rfl) [_] t1 ⟨ZN (Zey (Zbw oz hn)).symm,rfl,rfl⟩

set_option maxHeartbeats 400000 in
theorem Znt (q:Option Addr) (cp:Nat) (xs:List Str) (v:Str) (B:Kn) (ha:SlK B q cp 1 Zbv xs):Zag (pj J) 164 [.slice q xs.length cp,str v] B (.bool (decide (v∈xs))):=by
 refine Zb 9 Tryz.func164 rfl rfl rfl (Nat.le_of_ble_eq_true rfl) ?_
 refine Za (xA (h:=Za (xM (h:=xM (h:=xR ZuH rfl (ZoZ _ _ _ _ _ ha) (h:=Zel (h:=xA (h:=Zh ?_))))))))
 exact ZE .ret (.inl rfl) [_] t1 ⟨Zi (by rw [Bool.eq_iff_iff];simp [Zmn]),rfl,rfl⟩

set_option maxHeartbeats 400000 in
theorem Zk0 (q:Option Addr) (cp:Nat) (xs:List Str) (B:Kn) (ha:SlK B q cp 1 Zbv xs):Zag (pj J) 116 [.slice q xs.length cp] B (.bool (decide (1≤xs.length) && Zcz xs)):=by
 refine Zb 31 Tryz.func116 rfl rfl rfl (Nat.le_of_ble_eq_true rfl) ?_
 have han:=ha.len
 refine Za (xA (h:=Ze (Za (xM (h:=xV Tryz.underlying43 (h:=ZI (h:=xM (h:=Zz (d:=8) rfl (fun g1=>?_) (fun g1=>?_)))))))))
 try simp only [sQ,ne_eq] at g1
 refine xP (h:=xP (h:=xP (h:=xT (h:=Zc (t:=true) rfl (fun _=>Za (xA (h:=Zh (Zq ?_)))) (fun h=>Bool.noConfusion h)))))
 exact ZE .ret (.inl rfl) [_] t1 ⟨Zi (by simp;omega),rfl,rfl⟩
 try simp only [sQ,ne_eq] at g1
 refine xM (h:=xV Tryz.underlying43 (h:=Zdb (h:=xF (h:=Zc rfl (fun g2=>?_) (fun g2=>?_)))))
 try simp only [sQ,ne_eq] at g2
 refine Za (xA (h:=Zh (Zq ?_)))
 exact ZE .ret (.inl rfl) [_] t1 ⟨Zi (by simp [Zcz];omega),rfl,rfl⟩
 try simp only [sQ,ne_eq] at g2
 refine Zf (Zd (Ze (Za (xM (h:=xV Tryz.underlying43 (h:=xM (h:=Zl (ZA (α:=Nat) [0,12,13,14] (fun k=>[(15,.int .i64 k)]) [] (fun k=>[]) (fun k Bx=>Bx=B∧k≤xs.length∧(xs.take k).all ZaG=true∧(xs.take k).Nodup) (fun k=>xs.length - k) 0 t1 rfl (⟨rfl,Nat.zero_le _,by simp,by simp⟩) (fun k B1 hle1 hI=>?_)))))))))
 obtain ⟨rfl,hk,hv,hn⟩:=hI
 refine ZG [(0,_),(12,_),(13,_),(14,_),(15,_)] [] t5 rfl (Za (ZI (h:=Ze (Zc rfl (fun g3=>?_) (fun g3=>?_)))))
 try simp only [sQ,ne_eq] at g3
 refine Zf (Zd (Ze (Zl (Za (xM (h:=?_))))))
 obtain ⟨x,hx⟩:=ZZ (xs:=xs) (i:=k) om
 obtain ⟨bb3,oo3,rfl⟩:=ha.base hx
 obtain ⟨_,⟨rfl,hb4⟩,hc4⟩:=ha.elem hx
 refine xIx Tryz.underlying43 sz9 (h:=y1 lk9 hc4 0 (h:=xA (h:=xA (h:=Za (xM (h:=xR Ztt rfl (ZcP _ om2 _) (h:=?_)))))))
 refine xN (h:=xM (h:=Zz (d:=23) rfl (fun g4=>?_) (fun g4=>?_)))
 try simp only [sQ,ne_eq] at g4
 refine xP (h:=xP (h:=xP (h:=xP (h:=xP (h:=xT (h:=Zc (t:=true) rfl (fun _=>Za (xA (h:=Zh (ZD (Zq (ZS (ZD (Zq ?_)))))))) (fun h=>Bool.noConfusion h)))))))
 exact ZE .ret (.inl rfl) [_] t1 ⟨Zi (by rw [← ZgI hx g4,Bool.and_false]),rfl,rfl⟩
 try simp only [sQ,ne_eq] at g4
 refine xM (h:=xM (h:=?_))
 obtain ⟨hq6,q6,cp6,hv6,hr6⟩:=ha.cutE 0 k om om
 have hr6n:=hr6.len
 refine Zp (Zjz (a:=0) (b:=k) hv6 om hq6 rfl rfl Tryz.underlying43 sz9 rfl rfl ⟨_,_,rfl,by first | omega | (simp;done) | (simp;omega)⟩ ?_)
 refine xM (h:=xR Zwv rfl (Znt _ _ _ _ _ hr6) (h:=xF (h:=Zc rfl (fun g5=>?_) (fun g5=>?_))))
 try simp only [sQ,ne_eq] at g5
 refine Za (xA (h:=Zh (ZD (Zq (ZS (ZD (Zq ?_)))))))
 exact ZE .ret (.inl rfl) [_] t1 ⟨Zi (by rw [← ZgH hx (by simpa using g5),Bool.and_false]),rfl,rfl⟩
 try simp only [sQ,ne_eq] at g5
 refine Zf (ZT (Zd (Zg (xD (h:=xM (h:=?_))))))
 exact ZF (k+1) [] so2 ⟨rfl,oz,ZhV hx g4 hv,ZoD hx hn (by simpa using g5)⟩ t5 rfl
 try simp only [sQ,ne_eq] at g3
 refine ZH (Z0 (ZJ (Zw (Zd (Za (xA (h:=Zh ?_)))))))
 exact ZE .ret (.inl rfl) [_] t1 ⟨Zi (by rw [← Zhq oz hv hn];simp;omega),rfl,rfl⟩

set_option maxHeartbeats 400000 in
theorem Zkg (q:Option Addr) (cp:Nat) (x:DLetter) (B:Kn) (ha:SlK B q cp 1 Zbv x.to_) (h1:x.fr.length≤2000000) (h2:x.text.length≤2000000):Zag (pj J) 60 [.agg #[str x.fr,.slice q x.to_.length cp,str x.text]] B (.bool (Zb3 x)):=by
 refine Zb 17 Tryz.func60 rfl rfl rfl (Nat.le_of_ble_eq_true rfl) ?_
 refine Za (xBx [_,_,_] (h:=fun b1=>xA (h:=ZB [_] rfl (Za (xW ZrN (h:=x1 lk9 0 (h:=xR Ztt rfl (ZcP _ om2 _) (h:=?_))))))))
 refine xM (h:=Zz (d:=6) rfl (fun g1=>?_) (fun g1=>?_))
 try simp only [sQ,ne_eq] at g1
 refine xW Zpc (h:=x1 ZgW 0 (h:=xR ZwY rfl (Zk0 _ _ _ _ ha) (h:=xT (h:=xM (h:=Zz (d:=11) rfl (fun g2=>?_) (fun g2=>?_))))))
 try simp only [sQ,ne_eq] at g2
 refine xW ZrM (h:=x1 lk9 0 (h:=xVs Tryz.underlying9 (h:=Zce (h:=xT (h:=xA (h:=Zh ?_))))))
 exact ZE .ret (.inl rfl) [_] t1 ⟨Zi (by rw [Zew];simp [g1,g2]),rfl,rfl⟩
 try simp only [sQ,ne_eq] at g2
 refine xP (h:=xP (h:=xP (h:=xP (h:=xF (h:=xA (h:=Zh ?_))))))
 exact ZE .ret (.inl rfl) [_] t1 ⟨Zi (by rw [Zew];simp [g1,g2]),rfl,rfl⟩
 try simp only [sQ,ne_eq] at g1
 refine xP (h:=xP (h:=xP (h:=xF (h:=xM (h:=xP (h:=xP (h:=xP (h:=xP (h:=xF (h:=xA (h:=Zh ?_)))))))))))
 exact ZE .ret (.inl rfl) [_] t1 ⟨Zi (by rw [Zew];simp [g1]),rfl,rfl⟩

set_option maxHeartbeats 400000 in
theorem ZkZ (aq:Option Addr) (cq:Nat) (q:DQueue) (B:Kn) (hq:SlK B aq cq 4 Zs q.items):Zag (pj J) 87 [.agg #[.int .i64 q.next,.slice aq q.items.length cq]] B (.bool (Zar q)):=by
 refine Zb 48 Tryz.func87 rfl rfl rfl (Nat.le_of_ble_eq_true rfl) ?_
 have hqn:=hq.len
 refine Za (xBx [_,_] (h:=fun b1=>xA (h:=ZB [_] rfl (Za (xA (h:=Ze (Za (xA (h:=Zl (ZA (α:=Nat × Int) [0,1] (fun p=>[(3,.int .i64 p.2),(4,.int .i64 p.1)]) [] (fun p=>[]) (fun p Bx=>Bx=B∧p.1≤q.items.length∧Zdx 0 q.items=Zdx p.2 (q.items.drop p.1)∧0≤p.2∧p.2≤99) (fun p=>q.items.length - p.1) (0,0) t2 rfl (⟨rfl,Nat.zero_le _,rfl,by decide,by decide⟩) (fun p B2 hle2 hI=>?_)))))))))))
 obtain ⟨rfl,hk,hs,hl0,hl1⟩:=hI
 refine ZG [(0,_),(1,_),(3,_),(4,_)] [_] t4 rfl (Ze (Za (xM (h:=xW ZaV (h:=x1 ZgP 0 (h:=xV Tryz.underlying32 (h:=ZI (h:=Zc rfl (fun g1=>?_) (fun g1=>?_)))))))))
 try simp only [sQ,ne_eq] at g1
 refine Zf (Zd (Ze (Zl (Za (xW ZaV (h:=x1 ZgP 0 (h:=xM (h:=?_))))))))
 obtain ⟨x,hx⟩:=ZZ (xs:=q.items) (i:=p.1) om
 obtain ⟨bb4,oo4,rfl⟩:=hq.base hx
 obtain ⟨_,⟨qi5,ci5,rfl,hi5,hb5,hb5b⟩,hc5⟩:=hq.elem hx
 have hi5n:=hi5.len
 refine xIx Tryz.underlying32 Za0 (h:=?_)
 replace hs:=Zoo hs hx
 refine yL [_,_,_,_] Zdq hc5 0 (h:=xAl [_,_,_,_] Zdo (h:=fun b6=>xS [_,_,_,_] 1 [_,_,_,_] Za0 (h:=ZB [_,_] rfl (Ze (Za (xW Zc4 (h:=x1 lk3 1 (h:=xM (h:=xD (h:=xR Zra rfl (ZfY _ _ _ _) (h:=xN (h:=xM (h:=?_)))))))))))))
 refine Zz (d:=24) rfl (fun g2=>?_) (fun g2=>?_)
 try simp only [sQ,ne_eq] at g2
 refine xP (h:=xP (h:=xP (h:=xP (h:=xP (h:=xP (h:=xP (h:=xP (h:=xP (h:=xT (h:=Zc (t:=true) rfl (fun _=>Za (xA (h:=?_))) (fun h=>Bool.noConfusion h)))))))))))
 refine Zh (Zq (ZD (Zq (ZS (ZD (Zq ?_))))))
 exact ZE .ret (.inl rfl) [_] t1 ⟨Zi (Zma (by rw [hs,if_neg];intro h;simp [h.1] at g2)),rfl,rfl⟩
 try simp only [sQ,ne_eq] at g2
 simp only [Bool.and_eq_true,decide_eq_true_eq] at g2
 refine xW Zd6 (h:=x1 lk9 1 (h:=xW ZaE (h:=x1 ZgW 1 (h:=xW Zd5 (h:=x1 lk9 1 (h:=xB [(0,_),(1,_),(2,_)] [_,_,_] [_,_,_] Zxl Zxe (h:=xR Zx8 rfl (ZjQ _ _ ⟨x.fr,x.left,x.text⟩ _ hi5 oa oa) (h:=?_))))))))
 refine xN (h:=xF (h:=Zc rfl (fun g3=>?_) (fun g3=>?_)))
 try simp only [sQ,ne_eq] at g3
 refine Za (xA (h:=Zh (Zq (ZD (Zq (ZS (ZD (Zq ?_))))))))
 exact ZE .ret (.inl rfl) [_] t1 ⟨Zi (Zma (by rw [hs,if_neg];intro h;rw [Zdj,g3] at h;cases h.2)),rfl,rfl⟩
 try simp only [sQ,ne_eq] at g3
 refine Zf (Zd (Zg (xW Zc4 (h:=x1 lk3 1 (h:=xA (h:=ZT (Zd (Zg (xM (h:=xD (h:=xA (h:=?_))))))))))))
 exact ZF (p.1+1,x.id) [0] so2 ⟨rfl,so,by rw [hs,if_pos ⟨g2,g3⟩],so,so⟩ t4 rfl
 try simp only [sQ,ne_eq] at g1
 rw [ZpG oz,Zdx] at hs
 refine ZH (Z0 (ZJ (Zw (Zd (Za (xW Zef (h:=x1 lk3 0 (h:=xM (h:=xD (h:=xR Zra rfl (ZfY _ _ _ _) (h:=xM (h:=Zz (d:=42) rfl (fun g1=>?_) (fun g1=>?_)))))))))))))
 try simp only [sQ,ne_eq] at g1
 refine xW ZaV (h:=x1 ZgP 0 (h:=xV Tryz.underlying32 (h:=Zce (h:=xT (h:=xA (h:=Zh ?_))))))
 exact ZE .ret (.inl rfl) [_] t1 ⟨Zi (by rw [← Zl9 hs,Bool.eq_iff_iff];simp [g1,g1];try omega),rfl,rfl⟩
 try simp only [sQ,ne_eq] at g1
 refine xP (h:=xP (h:=xP (h:=xP (h:=xF (h:=xA (h:=Zh ?_))))))
 exact ZE .ret (.inl rfl) [_] t1 ⟨Zi (by rw [← Zl9 hs,Bool.eq_iff_iff];simp [g1,g1];try omega),rfl,rfl⟩

set_option maxHeartbeats 400000 in
theorem Zan (aq:Option Addr) (cq:Nat) (q:DQueue) (B:Kn) (hq:SlK B aq cq 4 Zs q.items):Zx (pj J) 91 [.agg #[.int .i64 q.next,.slice aq q.items.length cq]] B [] (fun v B' Ls=>∃l a cp,Ls=[l]∧v = .agg #[.int .i64 q.next,.slice a q.items.length cp]∧ZW (B'.less B) l a cp 126 4 Zs q.items):=by
 refine Zb 34 Tryz.func91 rfl rfl rfl (Nat.le_of_ble_eq_true rfl) ?_
 have hqn:=hq.len
 refine Za (xBx [_,_] (h:=fun b1=>xAl [_,_] Zjr (h:=fun b2=>ZB [_,_] rfl (Za (xW Zef (h:=x1 lk3 0 (h:=xBs [] [] Tryz.underlying32 Za0 Zdo (h:=fun b3=>xB [(0,_),(1,_)] [_,_] [_,_] Zu7 Zjr (h:=xAl [_,_] Zjr (h:=fun b4=>xS [_,_] 3 [_,_] ZgF (h:=ZB [_,_,_,_] rfl (Ze ?_))))))))))))
 refine Za (xA (h:=Zl (ZA (α:=Gh DItem) [0,1,2,3] (fun g=>[(4,.int .i64 g.k)]) [2,3] (fun g=>[g.l,Z7 b4 [.int .i64 q.next,.slice g.a g.xs.length g.c] 34]) (fun g Bx=>g.k≤q.items.length∧g.xs=q.items.take g.k∧ZW (Bx.less B) g.l g.a g.c 126 4 Zs g.xs) (fun g=>q.items.length - g.k) ⟨0,0,_,_,_,[]⟩ t1 rfl (⟨Nat.zero_le _,rfl,.lit0⟩) (fun g B5 hle5 hI=>?_))))
 obtain ⟨hk,hxs,hv⟩:=hI
 have hxn:=congrArg List.length hxs
 rw [List.length_take] at hxn
 replace hq:=hq.mono Zs.mono hle5
 refine ZG [(0,_),(1,_),(2,_),(3,_),(4,_)] [_,_,_,_] t5 rfl (Ze (Za (xM (h:=xW ZaV (h:=x1 ZgP 0 (h:=xV Tryz.underlying32 (h:=ZI (h:=Zc rfl (fun g1=>?_) (fun g1=>?_)))))))))
 try simp only [sQ,ne_eq] at g1
 refine Zf (Zd (Ze (Zl (Za (xW ZaV (h:=x1 ZgP 0 (h:=xM (h:=?_))))))))
 obtain ⟨x,hx⟩:=ZZ (xs:=q.items) (i:=g.k) om
 obtain ⟨bb7,oo7,rfl⟩:=hq.base hx
 obtain ⟨_,⟨qi8,ci8,rfl,hi8,hb8,hb8b⟩,hc8⟩:=hq.elem hx
 have hi8n:=hi8.len
 refine xIx Tryz.underlying32 Za0 (h:=yL [_,_,_,_] Zdq hc8 0 (h:=xAl [_,_,_,_] Zdo (h:=fun b9=>xS [_,_,_,_] 4 [_,_,_,_] Za0 (h:=ZB [_,_,_,_,_] rfl (Za (xBs [] [] Tryz.underlying43 sz9 zo9 (h:=fun b10=>xW ZaE (h:=x1 ZgW 4 (h:=Zp (ZbY (R:=Zbv) 5 rfl (ZW.lit0 (R:=Zbv)) rfl rfl rfl ZrT Zsk rfl rfl rfl hi8.rows Zbv.one rfl om (fun l11 p11 c11 hv11=>?_)))))))))))
 refine xW ZaE (h:=xS [_] 4 [_,_,_,_] Zto (h:=ZB [_,_,_,_,_,_] rfl (ZnO 5 rfl hv11 Zbv.any om3 hle5 (fun B12 hle12 hr12f=>?_))))
 have hr12:=hr12f.mono Zbv.mono Kn.less_le
 replace hq:=hq.mono Zs.mono hle12
 replace hv:=hv.mono Zs.mono (Kn.less_mono hle12)
 have hr12n:=hr12.len
 refine Zg (xW ZaV (h:=x1 ZgP 3 (h:=xL [_,_,_,_] Zdq 4 (h:=xBs [(0,_)] [_,_,_,_] Tryz.underlying32 Za0 Zdo (h:=fun b13=>Zp (ZfK (z:=⟨x.id,x.fr,x.text,x.left⟩) (R:=Zs) 2 rfl hv rfl rfl rfl Zts Zt4 rfl rfl (ZbG.box 6 rfl) rfl rfl (⟨_,_,rfl,hr12f,by first | assumption | omega | (simp;done) | (simp;omega),by first | assumption | omega | (simp;done) | (simp;omega)⟩) om (fun l14 p14 c14 hv14=>?_)))))))
 refine xW ZaV (h:=xS [_] 3 [_,_] Ztp (h:=ZT (Zd (Zg (xM (h:=xD (h:=xA (h:=?_))))))))
 exact ZF ⟨g.k+1,0,l14,p14,c14,(g.xs ++ [⟨x.id,x.fr,x.text,x.left⟩])⟩ [0,1,2,3] so2 ⟨so,by simp only [];rw [ZaF hx,hxs],hv14⟩ t5 rfl
 try simp only [sQ,ne_eq] at g1
 have hxe:g.xs=q.items:=by rw [hxs];exact List.take_of_length_le oz
 refine ZH (Z0 (ZJ (Zw (Zd (Za (xL [_,_] Zed 3 (h:=xS [_,_] 1 [_,_] ZgF (h:=ZB [_,_,_,_] rfl (Zh ?_)))))))))
 exact ZaW .ret (.inl rfl) [_] [2] rfl ⟨⟨_,rfl,.inr ⟨[_,_],Zed,ZbH 1 rfl rfl rfl,rfl⟩⟩,trivial⟩ ⟨_,_,_,rfl,by rw [← hxe];rfl,hxe ▸ hv⟩

set_option maxHeartbeats 400000 in
theorem Zke (q:Option Addr) (cp:Nat) (xs:List Str) (u:Str) (B:Kn) (ha:SlK B q cp 1 Zbv xs):Zx (pj J) 131 [.slice q xs.length cp,str u] B [] (fun v B' Ls=>Ls=[]∧∃a cp,v = .slice a (without xs u).length cp∧SlK (B'.less B) a cp 1 Zbv (without xs u)):=by
 refine Zb 28 Tryz.func131 rfl rfl rfl (Nat.le_of_ble_eq_true rfl) ?_
 have han:=ha.len
 refine Za (xA (h:=Za (xBs [] [] Tryz.underlying43 sz9 zo9 (h:=fun b1=>xA (h:=ZB [_] rfl (Ze (Za (xA (h:=Zl (ZA (α:=Gh Str) [0,1,4] (fun g=>[(5,.slice g.a g.xs.length g.c),(6,.int .i64 g.k)]) [0] (fun g=>[g.l]) (fun g Bx=>Bx=B∧g.k≤xs.length∧g.xs=without (xs.take g.k) u∧g.xs.length≤g.k∧ZW Bx g.l g.a g.c 9 1 Zbv g.xs) (fun g=>xs.length - g.k) ⟨0,0,_,_,_,[]⟩ t2 rfl (⟨rfl,Nat.zero_le _,rfl,Nat.le_refl _,.lit0⟩) (fun g B2 hle2 hI=>?_)))))))))))
 obtain ⟨rfl,hk,hxs,hgl,hv⟩:=hI
 refine ZG [(0,_),(1,_),(4,_),(5,_),(6,_)] [_] t5 rfl (Ze (Za (xM (h:=xM (h:=xV Tryz.underlying43 (h:=ZI (h:=Zc rfl (fun g1=>?_) (fun g1=>?_))))))))
 try simp only [sQ,ne_eq] at g1
 refine Zf (Zd (Ze (Zl (Za (xM (h:=xM (h:=?_)))))))
 obtain ⟨x,hx⟩:=ZZ (xs:=xs) (i:=g.k) om
 obtain ⟨bb4,oo4,rfl⟩:=ha.base hx
 obtain ⟨_,⟨rfl,hb5⟩,hc5⟩:=ha.elem hx
 refine xIx Tryz.underlying43 sz9 (h:=y1 lk9 hc5 0 (h:=xM (h:=Zek (h:=Zc rfl (fun g2=>?_) (fun g2=>?_)))))
 try simp only [sQ,ne_eq] at g2
 refine Zg (xM (h:=xM (h:=xM (h:=xIx Tryz.underlying43 sz9 (h:=y1 lk9 hc5 0 (h:=xBs [(0,_)] [_] Tryz.underlying43 sz9 zo9 (h:=fun b6=>Zp (ZfK (z:=x) (R:=Zbv) 0 rfl hv rfl rfl rfl ZrT Zsk rfl rfl (ZbG.box 1 rfl) rfl rfl (⟨rfl,by first | assumption | omega | (simp;done) | (simp;omega)⟩) om (fun l7 p7 c7 hv7=>?_)))))))))
 refine xA (h:=ZT (Zd (Zg (xM (h:=xD (h:=xA (h:=?_)))))))
 exact ZF ⟨g.k+1,0,l7,p7,c7,(g.xs ++ [x])⟩ [0] so2 ⟨rfl,so,by simp only [];rw [Zjv hx g2,hxs],by simp;omega,hv7⟩ t5 rfl
 try simp only [sQ,ne_eq] at g2
 refine Zf (ZT (Zd (Zg (xM (h:=xD (h:=xA (h:=?_)))))))
 exact ZF ⟨g.k+1,0,g.l,g.a,g.c,g.xs⟩ [0] so2 ⟨rfl,so,by simp only [];rw [Zju hx g2,hxs],so,hv⟩ t5 rfl
 try simp only [sQ,ne_eq] at g1
 have hxe:g.xs=without xs u:=by rw [hxs,List.take_of_length_le oz]
 refine ZH (Z0 (ZJ (Zw (Zd (ZnO 0 rfl hv Zbv.any om3 (Kn.le.refl _) (fun B8 hle8 hr8f=>?_))))))
 have hr8:=hr8f.mono Zbv.mono Kn.less_le
 replace ha:=ha.mono Zbv.mono hle8
 have hr8n:=hr8.len
 refine Za (xM (h:=xA (h:=ZB [_] rfl (Zh ?_))))
 exact ZaW .ret (.inl rfl) [_] [] rfl t1 ⟨rfl,_,_,by rw [← hxe];rfl,hxe ▸ hr8f⟩

set_option maxHeartbeats 400000 in
theorem ZoT (aq:Option Addr) (cq:Nat) (q:DQueue) (id:Int) (u:Str) (B:Kn) (hq:SlK B aq cq 4 Zs q.items):Zx (pj J) 78 [.agg #[.int .i64 q.next,.slice aq q.items.length cq],.int .i64 id,str u] B [] (fun v B' Ls=>(∃l a cp,Ls=[l]∧v = .tuple #[.agg #[.int .i64 (ZaZ q id u).1.next,.slice a (ZaZ q id u).1.items.length cp],str (ZaZ q id u).2.1,.bool (ZaZ q id u).2.2]∧ZW (B'.less B) l a cp 126 4 Zs (ZaZ q id u).1.items∧(ZaZ q id u).2.1.length≤2000000)):=by
 refine Zb 65 Tryz.func78 rfl rfl rfl (Nat.le_of_ble_eq_true rfl) ?_
 have hqn:=hq.len
 refine Za (xBx [_,_] (h:=fun b1=>xAl [_,_] Zjr (h:=fun b2=>xA (h:=xA (h:=ZB [_,_] rfl (Za (xW Zef (h:=x1 lk3 0 (h:=xBs [] [] Tryz.underlying32 Za0 Zdo (h:=fun b3=>xB [(0,_),(1,_)] [_,_] [_,_] Zu7 Zjr (h:=xAl [_,_] Zjr (h:=fun b4=>xS [_,_] 3 [_,_] ZgF (h:=?_)))))))))))))
 refine ZB [_,_,_,_] rfl (Za (xA (h:=Za (xA (h:=Ze (Za (xA (h:=Zl (ZA (α:=Gh2 DItem (Str × Bool)) [0,1,2,3,6,7,8,9] (fun g=>[(10,str g.e.1),(11,.bool g.e.2),(12,.int .i64 g.k)]) [2,3] (fun g=>[g.l,Z7 b4 [.int .i64 q.next,.slice g.a g.xs.length g.c] 34]) (fun g Bx=>g.k≤q.items.length∧g.e=Zfl id u (q.items.take g.k)∧g.e.1.length≤2000000∧g.xs=ZeZ id u (q.items.take g.k)∧ZW (Bx.less B) g.l g.a g.c 126 4 Zs g.xs) (fun g=>q.items.length - g.k) ⟨0,0,_,_,_,[],([],false)⟩ t3 rfl (⟨Nat.zero_le _,rfl,Nat.zero_le _,rfl,.lit0⟩) (fun g B5 hle5 hI=>?_))))))))))
 obtain ⟨hk,he,htl,hxs,hv⟩:=hI
 have hxn:g.xs.length≤g.k:=by rw [hxs];exact Nat.le_trans (Zhc _ _ _) (by rw [List.length_take];omega)
 replace hq:=hq.mono Zs.mono hle5
 refine ZG [(0,_),(1,_),(2,_),(3,_),(6,_),(7,_),(8,_),(9,_),(10,_),(11,_),(12,_)] [_,_,_,_] t11 rfl (Ze (Za (xM (h:=xW ZaV (h:=x1 ZgP 0 (h:=xV Tryz.underlying32 (h:=ZI (h:=Zc rfl (fun g1=>?_) (fun g1=>?_)))))))))
 try simp only [sQ,ne_eq] at g1
 refine Zf (Zd (Ze (Zl (Za (xW ZaV (h:=x1 ZgP 0 (h:=xM (h:=?_))))))))
 obtain ⟨x,hx⟩:=ZZ (xs:=q.items) (i:=g.k) om
 obtain ⟨bb7,oo7,rfl⟩:=hq.base hx
 obtain ⟨_,⟨qi8,ci8,rfl,hi8,hb8,hb8b⟩,hc8⟩:=hq.elem hx
 have hi8n:=hi8.len
 refine xIx Tryz.underlying32 Za0 (h:=yL [_,_,_,_] Zdq hc8 0 (h:=xAl [_,_,_,_] Zdo (h:=fun b9=>xS [_,_,_,_] 4 [_,_,_,_] Za0 (h:=ZB [_,_,_,_,_] rfl (Za (xBs [] [] Tryz.underlying43 sz9 zo9 (h:=fun b10=>xW ZaE (h:=x1 ZgW 4 (h:=Zp (ZbY (R:=Zbv) 5 rfl (ZW.lit0 (R:=Zbv)) rfl rfl rfl ZrT Zsk rfl rfl rfl hi8.rows Zbv.one rfl om (fun l11 p11 c11 hv11=>?_)))))))))))
 refine xW ZaE (h:=xS [_] 4 [_,_,_,_] Zto (h:=ZB [_,_,_,_,_,_] rfl (Ze (ZnO 5 rfl hv11 Zbv.any om3 hle5 (fun B12 hle12 hr12f=>?_)))))
 have hr12:=hr12f.mono Zbv.mono Kn.less_le
 replace hq:=hq.mono Zs.mono hle12
 replace hv:=hv.mono Zs.mono (Kn.less_mono hle12)
 have hr12n:=hr12.len
 refine Za (xW Zc4 (h:=x1 lk3 4 (h:=xM (h:=Zh3 (h:=xM (h:=Zz (d:=39) rfl (fun g2=>?_) (fun g2=>?_)))))))
 try simp only [sQ,ne_eq] at g2
 refine xW ZaE (h:=x1 ZgW 4 (h:=xM (h:=xR ZuJ rfl (Zmk _ _ _ _ _ hr12) (h:=xT (h:=ZB [_,_,_,_,_,_] rfl (Zc rfl (fun g3=>?_) (fun g3=>?_)))))))
 try simp only [sQ,ne_eq] at g3
 have hwl:=ZkK x.left u
 refine Za (xA (h:=Za (xW Zd5 (h:=x1 lk9 4 (h:=xA (h:=Zg (xW ZaE (h:=x1 ZgW 4 (h:=xM (h:=Zp (Zgb rfl rfl ZwS rfl (Zke _ _ _ _ _ hr12) ?_)))))))))))
 intro v14 B14 hle14
 rintro ⟨a14,c14,rfl,hw14f⟩
 replace hq:=hq.mono Zs.mono hle14
 replace hr12:=hr12.mono Zbv.mono hle14
 replace hr12f:=hr12f.mono Zbv.mono (Kn.less_mono hle14)
 replace hv:=hv.mono Zs.mono (Kn.less_mono hle14)
 replace hw14f:=hw14f.mono Zbv.mono (Kn.less_up (hle5.trans hle12) (Kn.le.refl _))
 have hw14:=hw14f.mono Zbv.mono Kn.less_le
 refine xW ZaE (h:=xS [_] 4 [_,_,_,_] Zto (h:=Zd (Za (xW ZaE (h:=x1 ZgW 4 (h:=xV Tryz.underlying43 (h:=Zdb (h:=ZB [_,_,_,_,_,_] rfl (Zc rfl (fun g4=>?_) (fun g4=>?_))))))))))
 try simp only [sQ,ne_eq] at g4
 refine Zg (xW ZaV (h:=x1 ZgP 3 (h:=xL [_,_,_,_] Zdq 4 (h:=xBs [(0,_)] [_,_,_,_] Tryz.underlying32 Za0 Zdo (h:=fun b15=>Zp (ZfK (z:=⟨x.id,x.fr,x.text,(without x.left u)⟩) (R:=Zs) 2 rfl hv rfl rfl rfl Zts Zt4 rfl rfl (ZbG.box 6 rfl) rfl rfl (⟨_,_,rfl,hw14f,by first | assumption | omega | (simp;done) | (simp;omega),by first | assumption | omega | (simp;done) | (simp;omega)⟩) om (fun l16 p16 c16 hv16=>?_)))))))
 refine xW ZaV (h:=xS [_] 3 [_,_] Ztp (h:=ZT (Zd (Zg (xM (h:=xD (h:=xA (h:=?_))))))))
 exact ZF ⟨g.k+1,0,l16,p16,c16,(g.xs ++ [⟨x.id,x.fr,x.text,(without x.left u)⟩]),(x.text,true)⟩ [0,1,2,3] so2 ⟨so,by simp only [];rw [ZjN hx g2 g3],by simp only [];first | assumption | omega,by simp only [];rw [hxs,Zhd hx (Zeo g2 g3) (by simpa using g4)],hv16⟩ t11 rfl
 try simp only [sQ,ne_eq] at g4
 refine Zf (ZT (Zd (Zg (xM (h:=xD (h:=xA (h:=?_)))))))
 exact ZF ⟨g.k+1,0,g.l,g.a,g.c,g.xs,(x.text,true)⟩ [0,1,2,3] so2 ⟨so,by simp only [];rw [ZjN hx g2 g3],by simp only [];first | assumption | omega,by simp only [];rw [hxs,Zgc hx (Zeo g2 g3) (by simpa using g4)],hv⟩ t11 rfl
 try simp only [sQ,ne_eq] at g3
 refine Zf (Zd (Za (xW ZaE (h:=x1 ZgW 4 (h:=xV Tryz.underlying43 (h:=Zdb (h:=Zc rfl (fun g4=>?_) (fun g4=>?_))))))))
 try simp only [sQ,ne_eq] at g4
 refine Zg (xW ZaV (h:=x1 ZgP 3 (h:=xL [_,_,_,_] Zdq 4 (h:=xBs [(0,_)] [_,_,_,_] Tryz.underlying32 Za0 Zdo (h:=fun b17=>Zp (ZfK (z:=⟨x.id,x.fr,x.text,x.left⟩) (R:=Zs) 2 rfl hv rfl rfl rfl Zts Zt4 rfl rfl (ZbG.box 6 rfl) rfl rfl (⟨_,_,rfl,hr12f,by first | assumption | omega | (simp;done) | (simp;omega),by first | assumption | omega | (simp;done) | (simp;omega)⟩) om (fun l18 p18 c18 hv18=>?_)))))))
 refine xW ZaV (h:=xS [_] 3 [_,_] Ztp (h:=ZT (Zd (Zg (xM (h:=xD (h:=xA (h:=?_))))))))
 exact ZF ⟨g.k+1,0,l18,p18,c18,(g.xs ++ [⟨x.id,x.fr,x.text,x.left⟩]),g.e⟩ [0,1,2,3] so2 ⟨so,by simp only [];rw [ZjL hx g3];exact he,by simp only [];first | assumption | omega,by simp only [];rw [hxs,Zhd hx (ZgD g3) (by simpa using g4)],hv18⟩ t11 rfl
 try simp only [sQ,ne_eq] at g4
 refine Zf (ZT (Zd (Zg (xM (h:=xD (h:=xA (h:=?_)))))))
 exact ZF ⟨g.k+1,0,g.l,g.a,g.c,g.xs,g.e⟩ [0,1,2,3] so2 ⟨so,by simp only [];rw [ZjL hx g3];exact he,by simp only [];first | assumption | omega,by simp only [];rw [hxs,Zgc hx (ZgD g3) (by simpa using g4)],hv⟩ t11 rfl
 try simp only [sQ,ne_eq] at g2
 refine xP (h:=xP (h:=xP (h:=xP (h:=xF (h:=ZB [_,_,_,_,_,_] rfl (Zc (t:=false) rfl (fun h=>Bool.noConfusion h) (fun _=>Zf (Zd (Za (xW ZaE (h:=x1 ZgW 4 (h:=xV Tryz.underlying43 (h:=?_)))))))))))))
 refine Zdb (h:=Zc rfl (fun g3=>?_) (fun g3=>?_))
 try simp only [sQ,ne_eq] at g3
 refine Zg (xW ZaV (h:=x1 ZgP 3 (h:=xL [_,_,_,_] Zdq 4 (h:=xBs [(0,_)] [_,_,_,_] Tryz.underlying32 Za0 Zdo (h:=fun b19=>Zp (ZfK (z:=⟨x.id,x.fr,x.text,x.left⟩) (R:=Zs) 2 rfl hv rfl rfl rfl Zts Zt4 rfl rfl (ZbG.box 6 rfl) rfl rfl (⟨_,_,rfl,hr12f,by first | assumption | omega | (simp;done) | (simp;omega),by first | assumption | omega | (simp;done) | (simp;omega)⟩) om (fun l20 p20 c20 hv20=>?_)))))))
 refine xW ZaV (h:=xS [_] 3 [_,_] Ztp (h:=ZT (Zd (Zg (xM (h:=xD (h:=xA (h:=?_))))))))
 exact ZF ⟨g.k+1,0,l20,p20,c20,(g.xs ++ [⟨x.id,x.fr,x.text,x.left⟩]),g.e⟩ [0,1,2,3] so2 ⟨so,by simp only [];rw [ZjM hx g2];exact he,by simp only [];first | assumption | omega,by simp only [];rw [hxs,Zhd hx (ZgE g2) (by simpa using g3)],hv20⟩ t11 rfl
 try simp only [sQ,ne_eq] at g3
 refine Zf (ZT (Zd (Zg (xM (h:=xD (h:=xA (h:=?_)))))))
 exact ZF ⟨g.k+1,0,g.l,g.a,g.c,g.xs,g.e⟩ [0,1,2,3] so2 ⟨so,by simp only [];rw [ZjM hx g2];exact he,by simp only [];first | assumption | omega,by simp only [];rw [hxs,Zgc hx (ZgE g2) (by simpa using g3)],hv⟩ t11 rfl
 try simp only [sQ,ne_eq] at g1
 have hkl:q.items.take g.k=q.items:=List.take_of_length_le oz
 rw [hkl] at he hxs
 refine ZH (Z0 (ZJ (Zw (Zd (Za (xL [_,_] Zed 3 (h:=xM (h:=xM (h:=xS [_,_] 1 [_,_] ZgF (h:=xA (h:=xA (h:=ZB [_,_,_,_] rfl (Zh ?_)))))))))))))
 exact ZaW .ret (.inl rfl) [_,_,_] [2] rfl ⟨⟨_,rfl,.inr ⟨[_,_],Zed,ZbH 1 rfl rfl rfl,rfl⟩⟩,rfl,rfl,trivial⟩ ⟨_,_,_,rfl,by simp only [ZaZ,← he,← hxs];rfl,by simp only [ZaZ,← hxs];exact hv,by simp only [ZaZ,← he];exact htl⟩

set_option maxHeartbeats 400000 in
theorem Zln (q:Option Addr) (cp:Nat) (x:DItem) (B:Kn) (hx:SlK B q cp 1 Zbv x.left):Zx (pj J) 119 [.agg #[.int .i64 x.id,str x.fr,str x.text,.slice q x.left.length cp]] B [] (fun v B' Ls=>B'=B∧∃ins a c,Ls=[ins]∧v = .agg #[.int .i64 x.id,str x.fr,str x.text,.slice a x.left.length c]∧ZpU 9 ins a c x.left):=by
 refine Zb 9 Tryz.func119 rfl rfl rfl (Nat.le_of_ble_eq_true rfl) ?_
 have hxn:=hx.len
 refine Za (xBx [_,_,_,_] (h:=fun b1=>xAl [_,_,_,_] Zdo (h:=fun b2=>ZB [_,_] rfl (Za (xBs [] [] Tryz.underlying43 sz9 zo9 (h:=fun b3=>xW ZaE (h:=x1 ZgW 0 (h:=Zp (ZbY (R:=Zbv) 2 rfl (ZW.lit0 (R:=Zbv)) rfl rfl rfl ZrT Zsk rfl rfl rfl hx.rows Zbv.one rfl om (fun l4 p4 c4 hv4=>?_))))))))))
 refine xW ZaE (h:=xS [_] 0 [_,_,_,_] Zto (h:=ZB [_,_,_] rfl (Za (xL [_,_,_,_] Zdq 0 (h:=xS [_,_,_,_] 1 [_,_,_,_] Za0 (h:=ZB [_,_,_] rfl (Zh ?_)))))))
 exact ZaW .ret (.inl rfl) [_] [2] rfl ⟨⟨_,rfl,.inr ⟨[_,_,_,_],Zdq,ZbH 1 rfl rfl rfl,rfl⟩⟩,trivial⟩ ⟨rfl,_,_,_,rfl,rfl,(hv4).anyK Zbv.any⟩

set_option maxHeartbeats 400000 in
theorem Znw (q:Option Addr) (m cp:Nat) (B:Kn):Zx (pj J) 175 [.slice q m cp] B [] (fun v B' Ls=>B'=B∧∃b,Ls=[Z7 b [.slice q m cp] 32]∧v = .func (.func 202) #[] #[ptr ⟨b,0,none⟩]):=by
 refine Zb 4 Tryz.func175 rfl rfl rfl (Nat.le_of_ble_eq_true rfl) ?_
 refine Za (xBx [_] (h:=fun b1=>xA (h:=ZB [_] rfl (Za (Zp (Zdv (xs:=[]) (ys:=[_]) rfl rfl rfl rfl (xA (h:=Zh ?_))))))))
 exact ZaW .ret (.inl rfl) [_] [0] rfl t1 ⟨rfl,_,rfl,rfl⟩

set_option maxHeartbeats 400000 in
theorem Ztk (l bc:Nat) (q:Option Addr) (cp:Nat) (xs:List DItem) (Inv:Nat→Kn→Cells→Prop) (s0:Cells) (B:Kn) (hq:SlK B q cp 4 Zs xs) (hcc:ZaK B bc 0 [.slice q xs.length cp]) (h0:Inv xs.length B s0) (hround :∀(j:Nat) (i:Int) (x:DItem) (row:List Value) (B':Kn) (s:Cells),B.le B'→Inv (j+1) B' s→xs[j]? = some x→Zs B' row x→∃lp,(l,Obj.loop lp)∈s∧lp.params.size=2∧ZpW (pj J) l lp.fn (ZkF lp.params lp.tmps [.int .i64 i,.agg row.toArray]) lp.assign lp.body B' s (fun B'' s'=>Inv j B'' s')):Zx (pj J) 202 [.func (.yield l) #[] #[],ptr ⟨bc,0,none⟩] B [s0] (fun v B' Ls=>∃s,Ls=[s]∧Inv 0 B' s):=by
 refine Zb 19 Tryz.func202 rfl rfl rfl (Nat.le_of_ble_eq_true rfl) ?_
 have hqn:=hq.len
 refine Za (Zp (Zr rfl rfl ZgP rfl (hcc _ 0 _ rfl) (xV Tryz.underlying32 (h:=xU (h:=xA (h:=Zl (ZA (α:=Int × Cells) [0,1] (fun g=>[(3,.int .i64 g.1)]) [0] (fun g=>[g.2]) (fun g Bx=>-1≤g.1∧g.1<xs.length∧Inv (g.1+1).toNat Bx g.2) (fun g=>(g.1+1).toNat) ((xs.length:Int) - 1,s0) t1 rfl (⟨so,so,by rw [show ((xs.length:Int) - 1+1).toNat=xs.length from by omega];exact h0⟩) (fun g B1 hle1 hI=>?_))))))))
 obtain ⟨hk1,hk,hI⟩:=hI
 replace hq:=hq.mono Zs.mono hle1
 replace hcc:=hcc.mono hle1
 refine ZG [(0,_),(1,_),(3,_)] [_] t3 rfl (Ze (Za (xM (h:=Zel (h:=Zc rfl (fun g1=>?_) (fun g1=>?_))))))
 try simp only [sQ,ne_eq] at g1
 refine Zf (Zd (Ze (Zl (Za (xM (h:=xM (h:=Zp (Zr rfl rfl ZgP rfl (hcc _ 0 _ rfl) (xM (h:=?_))))))))))
 obtain ⟨x,hx⟩:=Zuu (xs:=xs) (i:=g.1) om om
 obtain ⟨bb3,oo3,rfl⟩:=hq.base hx
 obtain ⟨_,⟨qi4,ci4,rfl,hi4,hb4,hb4b⟩,hc4⟩:=hq.elem hx
 have hi4n:=hi4.len
 refine xIx Tryz.underlying32 Za0 (h:=?_)
 obtain ⟨lp,hl,hs,hr⟩:=hround g.1.toNat g.1 x _ _ g.2 (oy) (by rw [show g.1.toNat+1=(g.1+1).toNat from by omega];exact hI) hx ⟨_,_,rfl,oy,oy,oy⟩
 refine yL [_,_,_,_] Zdq hc4 0 (h:=Zp (Zr7 (j:=0) rfl hl rfl rfl rfl rfl hs.symm hr (fun Bc sc hlec hIc=>?_)))
 replace hq:=hq.mono Zs.mono hlec
 replace hcc:=hcc.mono hlec
 replace hi4:=hi4.mono Zbv.mono hlec
 replace hc4:=hc4.mono hlec
 refine xN (h:=ZB [_] rfl (Zc rfl (fun g2=>by cases g2) (fun g2=>?_)))
 try simp only [sQ,ne_eq] at g2
 refine Zf (ZT (Zd (Zg (xM (h:=xU (h:=xA (h:=?_)))))))
 exact ZF (g.1 - 1,sc) [0] so2 ⟨so,so,by simp only [];rw [show (g.1 - 1+1).toNat=g.1.toNat from by omega];exact hIc⟩ t3 rfl
 try simp only [sQ,ne_eq] at g1
 refine ZH (Z0 (ZJ (Zw ?_)))
 exact ZaW .normal (.inr rfl) [] [0] rfl trivial ⟨_,rfl,by rw [show (g.1+1).toNat=0 from by omega] at hI;exact hI⟩

set_option maxHeartbeats 400000 in
theorem Zhj (q:Option Addr) (cp:Nat) (x:DQueue) (B:Kn) (hx:SlK B q cp 4 Zs x.items):Zx (pj J) 132 [.agg #[.int .i64 x.next,.slice q x.items.length cp]] B [] (fun v B' Ls=>∃s,Ls=[s]∧Ze3 9 171 v x.items s):=by
 refine ZkC 17 Tryz.func132 rfl rfl rfl (Nat.le_of_ble_eq_true rfl) ?_
 refine Zep (xBx [_,_] (h:=fun b1=>xA (h:=Zn9 [(0,_),(1,_),(2,_)] [_] t3 rfl (Zep (xAl [_] Ztw (h:=fun b2=>Zn9 [(0,_),(1,_),(2,_),(3,_)] [_,_] t4 rfl (ZtU (Zep (xW ZaV (h:=x1 ZgP 0 (h:=Zp (ZX rfl rfl Zwo rfl (Znw _ _ _ _) ?_))))))))))))
 rintro _ B3 _ hle3 ⟨rfl,b3,rfl,rfl⟩
 refine Zn9 [(0,_),(1,_),(2,_),(3,_),(8,_)] [_,_,_] t5 rfl (Zsh (ZvB 2 rfl (fun B4 hle4 hm4=>?_)))
 replace hx:=hx.mono Zs.mono hle4
 have hcc:=Zb1 hm4
 refine ZvA [1] rfl (Zqc (J:=fun B' L'=>∃v s,L'=[Z7 b2 [v] 167,s]∧Ze3 9 171 v x.items s) (cap:=[_]) rfl Zv5 (fun lp l hTn hTS hps hasg hbd hst hlp=>?_) (fun r B9 L9 hle9 hJ=>?_))
 refine Zx.mono (Ztk l _ _ _ x.items (fun j B9 s9=>∃v cells,s9.Perm ((l,Obj.loop lp) :: (Z7 b2 [v] 167 ++ cells))∧Ze3 9 171 v (x.items.drop j) cells) _ _ hx hcc ⟨.pointer none,[],by simp,by rw [List.drop_length];exact ⟨rfl,rfl⟩⟩ ?_) ?_
 rintro j i y row B9 s9 hle9 ⟨v,cells,hp,hl⟩ hy hrow
 obtain ⟨qy,cy,rfl,hy5,hy6,hy7⟩:=hrow
 have hy5n:=hy5.len
 obtain ⟨p9,rfl⟩:=hl.ptr
 obtain ⟨hA,hN⟩:=Zrm (a:=9) (b:=10) (x:=.int .i64 i) (y:=.agg #[.int .i64 y.id,str y.fr,str y.text,.slice qy y.left.length cy]) hTS hTn rfl rfl
 refine ⟨lp,hp.mem_iff.2 (List.mem_cons_self ..),by rw [hps];rfl,?_⟩
 rw [hps,hasg,hbd]
 refine Zoq (L:=[Z7 b2 [.pointer p9] 167,cells]) (lp:=lp) hN [(3,_),(9,_),(10,_)] (hA.sub t3) (by simpa using hp) hst ?_
 refine Zg (xAl [_,_,_,_] Zdo (h:=fun b4=>xS [_,_,_,_] 3 [_,_,_,_] Za0 (h:=⟨rfl,rfl,rfl,(ZB [_,_,_,_] rfl (Zl (Zaa (keeps _ [1,3] _) mo kr ⟨Kn.le.refl _,ZbD.refl _ _⟩ (fun _ _=>?_))))⟩)))
 refine aT 0 rfl (Z6 fun D B L hI=>Zab [_,_,_,_] rfl rfl Zdq rfl (ZbH 3 (hI.2.2.1.trans rfl) rfl rfl) r4) (h:=aT 2 rfl (Z6 fun D B L hI=>Zr rfl rfl Zgm rfl (atL 1 (hI.2.1.trans rfl) rfl rfl) r4) (h:=ZL 1 kr rfl kr (ZX rfl rfl ZwX rfl (Zln _ _ y _ hy5) ?_)))
 rintro _ B5 _ hle5 ⟨rfl,ins5,a5,c5,rfl,rfl,hs5⟩
 refine ⟨⟨Kn.le.refl _,t2⟩,(aT 3 rfl (Z6 fun D B L hI=>ZaB (parts:=[(0,_),(1,_)]) [_,_,_,_,_] [_,_,_,_,_] rfl rfl ZvH Zvm rfl rfl rfl r4) (h:=ZL 4 kr rfl kr (ZtQ (l:=[_,_,_,_,_]) rfl rfl rfl rfl (fun b6=>?_))))⟩
 refine ⟨⟨Kn.le.refl _,t2⟩,(Zat 5 kr rfl kr kr kr (Z4 [_] 1 [_] rfl rfl Zsj rfl rfl rfl rfl rfl rfl rfl rfl ?_))⟩
 refine ZT (⟨rfl,rfl,(l,Obj.loop lp) :: (Z7 b2 [ptr ⟨b6,0,none⟩] 167 ++ (Z7 b6 ([.int .i64 y.id,str y.fr,str y.text,.slice a5 y.left.length c5] ++ [.pointer p9]) 171 ++ (ins5 ++ cells))),Z7 b4 [.int .i64 y.id,str y.fr,str y.text,.slice qy y.left.length cy] 126,?_,_,_,.refl _,?_⟩)
 refine (Zac [0,1,5,4,2] _ _ _ rfl).trans ?_
 rw [hlp]
 simp [Z7]
 rw [ZpF hy]
 exact ⟨_,_,_,_,_,rfl,.refl _,⟨_,_,rfl,hs5,oy,oy,oy⟩,hl⟩
 rintro _ B9 _ hle9 ⟨s9,rfl,v,cells,hp,hl⟩
 exact ⟨[Z7 b2 [v] 167,cells],_,rfl,by simpa using hp,v,cells,rfl,by simpa using hl⟩
 obtain ⟨v,s9,rfl,hl⟩:=hJ
 refine ZT (Zd (Za (x1 Zgm 0 (h:=xA (h:=ZB [_,_,_] rfl (Zh ?_))))))
 exact ⟨.inl rfl,r,2,rfl,rfl,[_],[_],t1,⟨_,List.perm_append_comm⟩,_,rfl,hl⟩

set_option maxHeartbeats 400000 in
theorem Zhi (nx:Int) (v:Value) (xs:List DItem) (cells:Cells) (B:Kn) (hn:xs.length≤2000000) (hv:Ze3 9 171 v xs cells):Zx (pj J) 135 [.int .i64 nx,v] B [cells] (fun v B' Ls=>B'=B∧∃l q c,Ls=[l]∧v = .agg #[.int .i64 nx,.slice q xs.length c]∧ZaP l q c 126 4 (ZaQ 9) xs):=by
 refine Zb 27 Tryz.func135 rfl rfl rfl (Nat.le_of_ble_eq_true rfl) ?_
 obtain ⟨p,rfl⟩:=hv.ptr
 refine Za (xAl [_,_] Zjr (h:=fun b1=>ZB [_,_] rfl (Za (xM (h:=xBs [] [] Tryz.underlying32 Za0 Zdo (h:=fun b2=>xB [(0,_),(1,_)] [_,_] [_,_] Zu7 Zjr (h:=xAl [_,_] Zjr (h:=fun b3=>xS [_,_] 3 [_,_] ZgF (h:=ZB [_,_,_,_] rfl (Ze (Za (xM (h:=?_)))))))))))))
 refine xA (h:=Zl (ZA (α:=QOf) [0,1,4,5] (fun g=>[(6,.pointer g.p)]) [0,2,3] (fun g=>[g.cells,g.l,Z7 b3 [.int .i64 nx,.slice g.q g.ys.length g.c] 34]) (fun g Bx=>Bx=B∧g.ys ++ g.xs=xs∧ZaP g.l g.q g.c 126 4 (ZaQ 9) g.ys∧Ze3 9 171 (.pointer g.p) g.xs g.cells) (fun g=>g.xs.length) ⟨p,[],xs,_,_,_,_⟩ t1 rfl (⟨rfl,rfl,.lit0,hv⟩) (fun g B4 hle4 hI=>?_)))
 obtain ⟨rfl,hxs,hvd,hl⟩:=hI
 refine ZG [(0,_),(1,_),(4,_),(5,_),(6,_)] [_,_,_,_] t5 rfl (Ze (Za (xM (h:=Zp (ZnR rfl rfl rfl rfl rfl (Zd9 Tryz.underlying167) (Zc rfl (fun g1=>?_) (fun g1=>?_)))))))
 try simp only [sQ,ne_eq] at g1
 obtain ⟨y,ys,b8,q8,c8,np,ins8,rest8,hp8,hrest,hperm,hy5,hy6,hy7,hy8,hl8⟩:=hl.more (by simpa using g1)
 rw [hp8]
 have hlen:=congrArg List.length hxs
 rw [List.length_append,hrest,List.length_cons] at hlen
 replace hlen:g.ys.length+1≤2000000:=by omega
 refine Zfh 0 rfl hperm (ZB [_,_,_,_,_,_] rfl (Zf (Zd (Ze (Zl (Zaa (keeps _ [0,3] _) mo kr ⟨Kn.le.refl _,ZbD.refl _ _⟩ (fun _ _=>?_)))))))
 refine aW 0 rfl ZaV (h:=aT 1 rfl (Z6 fun D B L hI=>Zr rfl rfl ZgP rfl (atL 3 (hI.2.2.1.trans rfl) rfl rfl) r4) (h:=aM 2 rfl (h:=aNc 3 rfl (h:=aW 4 rfl ZlA (h:=aT 5 rfl (Z6 fun D B L hI=>Zab [_,_,_,_] rfl rfl Zdq rfl (ZbH 0 (hI.2.1.trans rfl) rfl rfl) r4) (h:=ZL 6 kr rfl kr (ZK (parts:=[(0,_)]) [_,_,_,_] rfl rfl Tryz.underlying32 Za0 Zdo rfl rfl rfl rfl rfl (fun b5=>?_))))))))
 refine ⟨⟨Kn.le.refl _,t2⟩,(ZL 7 kr rfl kr (ZtR (R:=ZaQ 9) (z:=y) 2 4 rfl rfl rfl hvd rfl rfl rfl Zts Zt4 rfl rfl (ZbG.box 6 rfl) rfl rfl ⟨_,_,rfl,hy5,hy6,hy7,hy8⟩ oz (fun l9 q9 c9 hv9=>?_)))⟩
 refine ⟨⟨Kn.le.refl _,t2⟩,(aW 8 rfl ZaV (h:=Zat 9 kr rfl kr kr kr (Z4 [_] 3 [_,_] rfl rfl Ztp rfl rfl rfl rfl rfl rfl rfl rfl ?_)))⟩
 refine ZT (Zd (Zg (xM (h:=xNc (h:=xW Zlz (h:=x1 Zgm 0 (h:=xA (h:=?_))))))))
 exact ZF ⟨np,g.ys ++ [y],ys,l9,q9,c9,rest8⟩ [5,1,2,3] (by rw [hrest];simp) ⟨rfl,by rw [← hxs,hrest];simp,hv9,hl8⟩ t5 rfl
 try simp only [sQ,ne_eq] at g1
 rw [hl.done (by simpa using g1),List.append_nil] at hxs
 subst hxs
 refine ZH (Z0 (ZJ (Zw (Zd (Za (xL [_,_] Zed 3 (h:=xS [_,_] 1 [_,_] ZgF (h:=ZB [_,_,_,_] rfl (Zh ?_)))))))))
 exact ZaW .ret (.inl rfl) [_] [2] rfl ⟨⟨_,rfl,.inr ⟨[_,_],Zed,ZbH 1 rfl rfl rfl,rfl⟩⟩,trivial⟩ ⟨rfl,_,_,_,rfl,rfl,hvd⟩

set_option maxHeartbeats 400000 in
theorem Zet (q:Option Addr) (cp:Nat) (x:DQueue) (B:Kn) (hx:SlK B q cp 4 Zs x.items):Zx (pj J) 118 [.agg #[.int .i64 x.next,.slice q x.items.length cp]] B [] (fun v B' Ls=>∃l q c,Ls=[l]∧v = .agg #[.int .i64 x.next,.slice q x.items.length c]∧ZaP l q c 126 4 (ZaQ 9) x.items):=by
 refine Zb 8 Tryz.func118 rfl rfl rfl (Nat.le_of_ble_eq_true rfl) ?_
 have hxn:=hx.len
 refine Za (xBx [_,_] (h:=fun b1=>xAl [_,_] Zjr (h:=fun b2=>ZB [_,_] rfl (Ze (Zaa (keeps _ [0] _) mo kr ⟨Kn.le.refl _,ZbD.refl _ _⟩ (fun _ _=>?_))))))
 refine aW 0 rfl Zef (h:=aT 1 rfl (Z6 fun D B L hI=>Zr rfl rfl lk3 rfl (atL 0 (hI.2.1.trans rfl) rfl rfl) r4) (h:=aT 2 rfl (Z6 fun D B L hI=>Zab [_,_] rfl rfl Zed rfl (ZbH 0 (hI.2.1.trans rfl) rfl rfl) r4) (h:=ZL 3 kr rfl kr (ZX rfl rfl ZuI rfl (Zhj _ _ x _ hx) ?_))))
 rintro _ B3 _ hle3 ⟨sl3,rfl,hl3⟩
 replace hx:=hx.mono Zs.mono hle3
 refine ⟨⟨hle3,t1⟩,(ZL 4 kr rfl kr (Zaj [2] rfl rfl rfl rfl Ztc rfl (Zhi _ _ _ _ _ oa hl3) ?_))⟩
 rintro _ B4 _ hle4 ⟨rfl,ld4,ad4,cd4,rfl,rfl,hd4⟩
 refine ⟨⟨hle3,t1⟩,(Zat 5 kr rfl kr kr kr (Z4 [_,_] 1 [_,_] rfl rfl ZgF rfl rfl rfl rfl rfl rfl rfl rfl ?_))⟩
 refine Zd (ZB [_,_,_] rfl (Zh ?_))
 exact ZaW .ret (.inl rfl) [_] [2] rfl ⟨⟨_,rfl,.inr ⟨[_,_],Zed,ZbH 1 rfl rfl rfl,rfl⟩⟩,trivial⟩ ⟨_,_,_,rfl,rfl,hd4⟩

set_option maxHeartbeats 400000 in
theorem Zo4 (q:Option Addr) (m cp:Nat) (B:Kn):Zag (pj J) 283 [.slice q m cp] B (.int .i64 m):=by
 refine Zb 5 Tryz.func283 rfl rfl rfl (Nat.le_of_ble_eq_true rfl) ?_
 refine Za (xA (h:=Za (xM (h:=xV Tryz.underlying253 (h:=xA (h:=Zh ?_))))))
 exact ZE .ret (.inl rfl) [_] t1 ⟨rfl,rfl,rfl⟩

set_option maxHeartbeats 400000 in
theorem Zf1 (q:Option Addr) (cp:Nat) (xs:List Int) (i j:Nat) (a b:Int) (hi:xs[i]? = some a) (hj:xs[j]? = some b) (B:Kn) (hx:SlK B q cp 1 ZdO xs):Zag (pj J) 284 [.slice q xs.length cp,.int .i64 i,.int .i64 j] B (.bool (decide (a<b))):=by
 refine Zb 16 Tryz.func284 rfl rfl rfl (Nat.le_of_ble_eq_true rfl) ?_
 have hil:=Za9 hi
 have hjl:=Za9 hj
 refine Za (xA (h:=Ze (Zaa (same _ _) mo kr ⟨rfl,rfl⟩ (fun _ _=>?_))))
 refine aM 0 rfl (h:=aM 1 rfl (h:=?_))
 obtain ⟨z,hz⟩:=ZZ (xs:=xs) (i:=i) om
 obtain ⟨bb2,oo2,rfl⟩:=hx.base hz
 obtain ⟨_,rfl,hc3⟩:=hx.elem hz
 refine aIx 2 rfl Tryz.underlying252 sz3 (h:=aT 3 rfl (Zam fun D=>Zr rfl rfl lk3 rfl (hc3 _ 0 _ rfl) r4) (h:=aM 4 rfl (h:=aM 5 rfl (h:=?_))))
 obtain ⟨w,hw⟩:=ZZ (xs:=xs) (i:=j) om
 obtain ⟨_,rfl,hc5⟩:=hx.elem hw
 refine aIx 6 rfl Tryz.underlying252 sz3 (h:=?_)
 rw [hi] at hz
 cases hz
 rw [hj] at hw
 cases hw
 refine aT 7 rfl (Zam fun D=>Zr rfl rfl lk3 rfl (hc5 _ 0 _ rfl) r4) (h:=Zrp 8 rfl (h:=aA 9 rfl (h:=ZC kr kr ?_)))
 refine Zd (Zh ?_)
 exact ZE .ret (.inl rfl) [_] t1 ⟨rfl,rfl,rfl⟩

set_option maxHeartbeats 400000 in
theorem ZqS (b:Nat) (q:Option Addr) (cp:Nat) (xs:List Int) (l:Cells) (z:Int) (hn:xs.length≤2000000) (B:Kn) (hv:ZW B l q cp 3 1 ZdO xs):Zx (pj J) 286 [ptr ⟨b,0,none⟩,.iface 3 (.int .i64 z)] B [Z7 b [.slice q xs.length cp] 253,l] (fun v B' Ls=>B'=B∧∃q' c' l',Ls=[Z7 b [.slice q' (xs ++ [z]).length c'] 253,l']∧ZW B l' q' c' 3 1 ZdO (xs ++ [z])):=by
 refine Zb 13 Tryz.func286 rfl rfl rfl (Nat.le_of_ble_eq_true rfl) ?_
 refine Zaa (keeps _ [0] _) mo kr ⟨Kn.le.refl _,ZbD.refl _ _⟩ (fun _ _=>?_)
 refine aM 0 rfl (h:=aM 1 rfl (h:=aNc 2 rfl (h:=aT 3 rfl (Z6 fun D B L hI=>Zr rfl rfl Ze1 rfl (atL 0 (hI.2.1.trans rfl) rfl rfl) r4) (h:=aM 4 rfl (h:=aT 5 rfl (Z6 fun D B L hI=>ZjA rfl rfl Tryz.underlying3 rfl rfl r4) (h:=ZL 6 kr rfl kr (ZK (parts:=[(0,_)]) [_] rfl rfl Tryz.underlying252 sz3 zo3 rfl rfl rfl rfl rfl (fun b1=>?_))))))))
 refine ⟨⟨Kn.le.refl _,t1⟩,(ZL 7 kr rfl kr (ZfK (z:=z) (R:=ZdO) 1 rfl hv rfl rfl rfl ZvR ZvF rfl rfl (ZbG.box 2 rfl) rfl rfl (rfl) om (fun l2 p2 c2 hv2=>?_)))⟩
 refine ⟨⟨Kn.le.refl _,t1⟩,(aNc 8 rfl (h:=Zat 9 kr rfl kr kr kr (Z4 [_] 0 [_] rfl rfl ZtY rfl rfl rfl rfl rfl rfl rfl rfl ?_)))⟩
 exact ZaW .normal (.inr rfl) [] [0,1] rfl trivial ⟨rfl,_,_,_,rfl,hv2⟩

set_option maxHeartbeats 400000 in
theorem ZsL (b:Nat) (q:Option Addr) (cp:Nat) (xs:List Int) (l:Cells) (z:Int) (hz:xs[xs.length - 1]? = some z) (hn:xs.length≤2000000) (B:Kn) (hv:ZW B l q cp 3 1 ZdO xs):Zx (pj J) 285 [ptr ⟨b,0,none⟩] B [Z7 b [.slice q xs.length cp] 253,l] (fun v B' Ls=>B'=B∧v = .iface 3 (.int .i64 z)∧Ls=[Z7 b [.slice q (xs.length - 1) cp] 253,l]∧ZW B l q cp 3 1 ZdO (xs.take (xs.length - 1))):=by
 refine Zb 25 Tryz.func285 rfl rfl rfl (Nat.le_of_ble_eq_true rfl) ?_
 have hl1:=Za9 hz
 have hcp:=hv.cap
 have hv9:=hv.take (k:=xs.length - 1) oz
 have hs0:=hv.slice0 (sz:=1)
 refine Za (xA (h:=Za (xM (h:=xNc (h:=x1 Ze1 0 (h:=xV Tryz.underlying253 (h:=Zp (ZiJ (r:=((xs.length - 1:Nat):Int)) rfl rfl rfl rfl (by rw [show ((xs.length:Int) - 1)=((xs.length - 1:Nat):Int) from by omega];exact Zcq oz oz) ?_))))))))
 refine xA (h:=Za (xM (h:=xNc (h:=x1 Ze1 0 (h:=xM (h:=?_))))))
 obtain ⟨w,hw⟩:=ZZ (xs:=xs) (i:=(xs.length - 1)) om
 obtain ⟨bb2,_,hp2,rfl,hw2,hc2⟩:=hv.row hw
 refine xIp hp2 Tryz.underlying252 sz3 (h:=?_)
 rw [hz] at hw
 cases hw
 refine Zp (Zr rfl rfl lk3 rfl (hc2 _ 1 rfl 0 _ rfl) (xA (h:=Za (xM (h:=xM (h:=xNc (h:=x1 Ze1 0 (h:=xM (h:=Zp (ZiK rfl rfl Tryz.underlying252 sz3 rfl (a:=0) (b:=xs.length - 1) rfl ⟨_,_,rfl,rfl⟩ oz oz ?_))))))))))
 rw [hs0]
 refine xNc (h:=xS [_] 0 [_] ZtY (h:=ZB [_,_] rfl (Za (xM (h:=Zp (ZdQ rfl rfl Tryz.underlying3 rfl rfl (xA (h:=Zh ?_))))))))
 exact ZaW .ret (.inl rfl) [_] [0,1] rfl t1 ⟨rfl,rfl,rfl,hv9⟩

set_option maxHeartbeats 400000 in
theorem Zf0 (q:Option Addr) (cp:Nat) (xs:List Int) (l:Cells) (i j:Nat) (a b:Int) (hi:xs[i]? = some a) (hj:xs[j]? = some b) (hn:xs.length≤2000000) (B:Kn) (hv:ZW B l q cp 3 1 ZdO xs):Zx (pj J) 287 [.slice q xs.length cp,.int .i64 i,.int .i64 j] B [l] (fun v B' Ls=>B'=B∧∃l',Ls=[l']∧ZW B l' q cp 3 1 ZdO ((xs.set i b).set j a)):=by
 refine Zb 20 Tryz.func287 rfl rfl rfl (Nat.le_of_ble_eq_true rfl) ?_
 have hil:=Za9 hi
 have hjl:=Za9 hj
 refine Zaa (keeps _ [0] _) mo kr ⟨Kn.le.refl _,ZbD.refl _ _⟩ (fun _ _=>?_)
 refine aM 0 rfl (h:=aM 1 rfl (h:=aM 2 rfl (h:=aM 3 rfl (h:=aM 4 rfl (h:=aM 5 rfl (h:=?_))))))
 obtain ⟨y,hy⟩:=ZZ (xs:=xs) (i:=j) om
 obtain ⟨bb2,_,hp2,rfl,hw2,hc2⟩:=hv.row hy
 refine aT 6 rfl (Z6 fun D B L hI=>ZmF hp2 rfl rfl Tryz.underlying252 sz3 rfl rfl om om r4) (h:=?_)
 refine aT 7 rfl (Z6 fun D B L hI=>Zr rfl rfl lk3 rfl (hc2 _ 0 (hI.2.1.trans rfl) 0 _ rfl) r4) (h:=aM 8 rfl (h:=aM 9 rfl (h:=?_)))
 obtain ⟨x,hx⟩:=ZZ (xs:=xs) (i:=i) om
 obtain ⟨bb4,_,hp4,rfl,hw4,hc4⟩:=hv.row hx
 refine aT 10 rfl (Z6 fun D B L hI=>ZmF hp4 rfl rfl Tryz.underlying252 sz3 rfl rfl om om r4) (h:=?_)
 refine aT 11 rfl (Z6 fun D B L hI=>Zr rfl rfl lk3 rfl (hc4 _ 0 (hI.2.1.trans rfl) 0 _ rfl) r4) (h:=?_)
 obtain ⟨bb5,_,hp5,rfl,hw5,hc5⟩:=hv.row hx
 refine aT 12 rfl (Z6 fun D B L hI=>ZmF hp5 rfl rfl Tryz.underlying252 sz3 rfl rfl om om r4) (h:=?_)
 refine ZeG 13 kr rfl kr kr (ZgM (k:=i) (off:=0) (y) [_] 0 hv hp5 hx rfl rfl sz3 rfl rfl rfl rfl rfl rfl ((fun row h=>by cases h;rfl)) (fun l6 hv6=>?_))
 obtain ⟨w,hw⟩:=ZZ (xs:=(xs.set i (y))) (i:=j) om
 obtain ⟨bb8,_,hp8,rfl,hw8,hc8⟩:=hv6.row hw
 refine aT 14 rfl (Z6 fun D B L hI=>ZmF hp8 rfl rfl Tryz.underlying252 sz3 rfl rfl om om r4) (h:=?_)
 refine Zat 15 kr rfl kr kr kr (ZgM (k:=j) (off:=0) (x) [_] 0 hv6 hp8 hw rfl rfl sz3 rfl rfl rfl rfl rfl rfl ((fun row h=>by cases h;rfl)) (fun l9 hv9=>?_))
 rw [hi] at hx
 cases hx
 rw [hj] at hy
 cases hy
 exact ZaW .normal (.inr rfl) [] [0] rfl trivial ⟨rfl,_,rfl,hv9⟩

set_option maxHeartbeats 400000 in
theorem ZqV (b:Nat) (q:Option Addr) (cp:Nat) (xs:List Int) (l:Cells) (j:Nat) (hj:j<xs.length) (hn:xs.length≤2000000) (hh:ZfE xs j) (B:Kn) (hv:ZW B l q cp 3 1 ZdO xs):Zx (pj J) 229 [.iface 251 (ptr ⟨b,0,none⟩),.int .i64 j] B [Z7 b [.slice q xs.length cp] 253,l] (fun v B' Ls=>B'=B∧∃ys l',Ls=[Z7 b [.slice q ys.length cp] 253,l']∧ZW B l' q cp 3 1 ZdO ys∧ys.Perm xs∧Zda ys):=by
 refine Zb 23 Tryz.func229 rfl rfl rfl (Nat.le_of_ble_eq_true rfl) ?_
 refine Zl (ZA (α:=Nat × List Int × Cells) [0] (fun g=>[(1,.int .i64 g.1)]) [0,1] (fun g=>[Z7 b [.slice q g.2.1.length cp] 253,g.2.2]) (fun g Bx=>Bx=B∧g.1<g.2.1.length∧g.2.1.Perm xs∧ZfE g.2.1 g.1∧ZW B g.2.2 q cp 3 1 ZdO g.2.1) (fun g=>g.1) (j,xs,l) t1 rfl (⟨rfl,hj,.refl _,hh,hv⟩) (fun g B1 hle1 hI=>?_))
 obtain ⟨rfl,hk,hp,hb,hv⟩:=hI
 have hpl:=hp.length_eq
 refine ZG [(0,_),(1,_)] [_,_] t2 rfl (Zl (Za (xM (h:=Zp (ZiJ rfl rfl rfl rfl (Zcq oz oz) ?_)))))
 refine Zp (ZtB (r:=(((g.1 - 1) / 2:Nat):Int)) rfl rfl rfl rfl oz (by rw [show Int.tdiv ((g.1:Int) - 1) 2=(((g.1 - 1) / 2:Nat):Int) from Zvx g.1];exact Zcq oz oz) ?_)
 refine xA (h:=Ze (Za (xM (h:=xM (h:=Zh3 (h:=xM (h:=Zz (d:=11) rfl (fun g1=>?_) (fun g1=>?_))))))))
 try simp only [sQ,ne_eq] at g1
 refine xP (h:=xP (h:=xP (h:=xP (h:=xP (h:=xT (h:=Zc (t:=true) rfl (fun _=>ZH (Z0 (ZeN rfl (ZJ (Zw ?_))))) (fun h=>Bool.noConfusion h)))))))
 exact ZaW .normal (.inr rfl) [] [0,1] rfl trivial ⟨rfl,_,_,rfl,hv,hp,Zsc (by rw [show g.1=0 from by omega] at hb;exact hb)⟩
 try simp only [sQ,ne_eq] at g1
 refine xM (h:=xM (h:=xM (h:=Zp (Zfi 1 rfl rfl rfl ZpD rfl rfl (Zba ZdB Tryz.underlying251 Ze1 (atL 0 rfl rfl rfl)) (Zag.borrow fun hm2=>Zf1 _ _ _ _ _ _ _ (ZaO oz) (ZaO oz) _ (hv.lend ZdO.mono hm2 om)) ?_))))
 refine xN (h:=xF (h:=Zc rfl (fun g2=>?_) (fun g2=>?_)))
 try simp only [sQ,ne_eq] at g2
 refine ZH (Z0 (ZeN rfl (ZJ (Zw ?_))))
 exact ZaW .normal (.inr rfl) [] [0,1] rfl trivial ⟨rfl,_,_,rfl,hv,hp,Zse hb (by simpa using g2)⟩
 try simp only [sQ,ne_eq] at g2
 refine Zf (Zd (Za (xM (h:=xM (h:=xM (h:=Zp (ZgC [1] rfl rfl rfl rfl ZpC rfl rfl (Zba ZdA Tryz.underlying251 Ze1 (atL 0 rfl rfl rfl)) (Zf0 _ _ _ _ _ _ _ _ (ZaO oz) (ZaO oz) oz _ hv) ?_)))))))
 rintro _ B3 _ hle3 ⟨rfl,l3,rfl,hv3⟩
 refine ZB [_,_] rfl (Zg (xM (h:=xA (h:=ZT ?_))))
 rw [← ZcW g.2.1 ((g.1 - 1) / 2) g.1]
 exact ZF ((g.1 - 1) / 2,(swp g.2.1 ((g.1 - 1) / 2) g.1),l3) [0,1] (so) ⟨rfl,by have:=ZcW g.2.1 ((g.1 - 1) / 2) g.1;simp only [];omega,(ZfO oz oz).trans hp,Zsd oz oz hb (by simpa using g2),hv3⟩ t2 rfl

set_option maxHeartbeats 400000 in
theorem Zng (b:Nat) (q:Option Addr) (cp:Nat) (xs:List Int) (l:Cells) (z:Int) (hn:xs.length<2000000) (hh:Zda xs) (B:Kn) (hv:ZW B l q cp 3 1 ZdO xs):Zx (pj J) 196 [.iface 251 (ptr ⟨b,0,none⟩),.iface 3 (.int .i64 z)] B [Z7 b [.slice q xs.length cp] 253,l] (fun v B' Ls=>B'=B∧∃q' c' ys l',Ls=[Z7 b [.slice q' ys.length c'] 253,l']∧ZW B l' q' c' 3 1 ZdO ys∧ys.Perm (xs ++ [z])∧Zda ys):=by
 refine Zb 12 Tryz.func196 rfl rfl rfl (Nat.le_of_ble_eq_true rfl) ?_
 refine Za (xM (h:=xM (h:=Zp (ZgC [0,1] rfl rfl rfl rfl ZvW rfl rfl (Zkr Zm2 Tryz.underlying251) (ZqS _ _ _ _ _ _ oz _ hv) ?_))))
 rintro _ B1 _ hle1 ⟨rfl,q1,c1,l1,rfl,hv1⟩
 refine ZB [_,_] rfl (Zg (xM (h:=xM (h:=Zp (Zfi 1 rfl rfl rfl ZuD rfl rfl (Zba Zj1 Tryz.underlying251 Ze1 (atL 0 rfl rfl rfl)) (Zag.borrow fun hm2=>Zo4 _ _ _ _) (Zp (ZiJ (r:=((xs.length:Nat):Int)) rfl rfl rfl rfl ((congrArg _ (show _=((xs.length:Nat):Int) from by rw [List.length_append,List.length_singleton];omega)).trans (Zcq oz oz)) ?_)))))))
 refine Zp (Zaj [0,1] rfl rfl rfl rfl ZvZ rfl (ZqV _ _ _ _ _ _ (by simp) (by simp;omega) (Zqs hh) _ hv1) ?_)
 rintro _ Bu _ hleu ⟨rfl,ysu,lu,rfl,hvu,hpu,hhu⟩
 exact ZaW .normal (.inr rfl) [] [0,1] rfl trivial ⟨rfl,_,_,_,_,rfl,hvu,hpu,hhu⟩

set_option maxHeartbeats 400000 in
theorem Zni (b:Nat) (q:Option Addr) (cp:Nat) (xs:List Int) (l:Cells) (m:Nat) (hm:m≤xs.length) (hm0:0<xs.length) (hn:xs.length≤2000000) (hh:ZeI xs m 0) (B:Kn) (hv:ZW B l q cp 3 1 ZdO xs):Zx (pj J) 230 [.iface 251 (ptr ⟨b,0,none⟩),.int .i64 0,.int .i64 m] B [Z7 b [.slice q xs.length cp] 253,l] (fun v B' Ls=>B'=B∧∃ys l',Ls=[Z7 b [.slice q ys.length cp] 253,l']∧ZW B l' q cp 3 1 ZdO ys∧ys.Perm xs∧Zrs ys m∧(∀k,m≤k→hat ys k=hat xs k)):=by
 refine Zb 48 Tryz.func230 rfl rfl rfl (Nat.le_of_ble_eq_true rfl) ?_
 refine Za (xA (h:=Za (xM (h:=xA (h:=Ze (Zl (ZA (α:=Nat × List Int × Cells) [0,1,2,6] (fun g=>[(7,.int .i64 g.1)]) [0,1] (fun g=>[Z7 b [.slice q g.2.1.length cp] 253,g.2.2]) (fun g Bx=>Bx=B∧g.1<g.2.1.length∧g.2.1.Perm xs∧ZeI g.2.1 m g.1∧(∀k,m≤k→hat g.2.1 k=hat xs k)∧ZW B g.2.2 q cp 3 1 ZdO g.2.1) (fun g=>xs.length - g.1) (0,xs,l) t1 rfl (⟨rfl,hm0,.refl _,hh,fun _ _=>rfl,hv⟩) (fun g B1 hle1 hI=>?_))))))))
 obtain ⟨rfl,hk,hp,hb,hs,hv⟩:=hI
 have hpl:=hp.length_eq
 refine ZG [(0,_),(1,_),(2,_),(6,_),(7,_)] [_,_] t5 rfl (Zl (Za (xM (h:=Zp (Zvs (r:=((2*g.1:Nat):Int)) rfl rfl rfl rfl ((congrArg _ (show _=((2*g.1:Nat):Int) from by omega)).trans (Zcq oz oz)) ?_)))))
 refine Zp (ZgN (r:=((2*g.1+1:Nat):Int)) rfl rfl rfl rfl ((congrArg _ (show _=((2*g.1+1:Nat):Int) from by omega)).trans (Zcq oz oz)) ?_)
 refine xA (h:=Ze (Za (xM (h:=xM (h:=Zel (h:=xM (h:=Zz (d:=18) rfl (fun g1=>?_) (fun g1=>?_))))))))
 try simp only [sQ,ne_eq] at g1
 refine xP (h:=xP (h:=xT (h:=Zc (t:=true) rfl (fun _=>ZH (Z0 (ZeN rfl (ZJ (Zw (Zd (Za (xM (h:=xM (h:=Zdb (h:=xA (h:=Zh ?_)))))))))))) (fun h=>Bool.noConfusion h))))
 exact ZaW .ret (.inl rfl) [_] [0,1] rfl t1 ⟨rfl,_,_,rfl,hv,hp,ZpH hb oz,hs⟩
 try simp only [sQ,ne_eq] at g1
 refine xM (h:=ZI (h:=xF (h:=Zc rfl (fun g2=>by have:=of_decide_eq_true g2;omega) (fun g2=>?_))))
 try simp only [sQ,ne_eq] at g2
 refine Zf (Zd (Za (xM (h:=xA (h:=Ze (Za (xM (h:=Zp (ZgN (r:=((2*g.1+1+1:Nat):Int)) rfl rfl rfl rfl ((congrArg _ (show _=((2*g.1+1+1:Nat):Int) from by omega)).trans (Zcq oz oz)) ?_)))))))))
 refine xA (h:=Za (xM (h:=xM (h:=ZI (h:=xM (h:=Zz (d:=28) rfl (fun g3=>?_) (fun g3=>?_)))))))
 try simp only [sQ,ne_eq] at g3
 refine xM (h:=xM (h:=xM (h:=Zp (Zfi 1 rfl rfl rfl ZpD rfl rfl (Zba ZdB Tryz.underlying251 Ze1 (atL 0 rfl rfl rfl)) (Zag.borrow fun hm2=>Zf1 _ _ _ _ _ _ _ (ZaO oz) (ZaO oz) _ (hv.lend ZdO.mono hm2 om)) ?_))))
 refine xT (h:=Zc rfl (fun g4=>?_) (fun g4=>?_))
 try simp only [sQ,ne_eq] at g4
 refine Zg (xM (h:=xA (h:=Zd (Ze (Za (xM (h:=xM (h:=xM (h:=Zp (Zfi 1 rfl rfl rfl ZpD rfl rfl (Zba ZdB Tryz.underlying251 Ze1 (atL 0 rfl rfl rfl)) (Zag.borrow fun hm3=>Zf1 _ _ _ _ _ _ _ (ZaO oz) (ZaO oz) _ (hv.lend ZdO.mono hm3 om)) ?_))))))))))
 refine xN (h:=Zc rfl (fun g5=>?_) (fun g5=>?_))
 try simp only [sQ,ne_eq] at g5
 refine ZH (Z0 (ZeN rfl (ZJ (Zw (Zd (Za (xM (h:=xM (h:=Zdb (h:=xA (h:=Zh ?_)))))))))))
 exact ZaW .ret (.inl rfl) [_] [0,1] rfl t1 ⟨rfl,_,_,rfl,hv,hp,ZhO hb (by intro k h0 hk he;(try simp only [decide_eq_true_eq,decide_eq_false_iff_not,Bool.not_eq_true',Bool.not_eq_false',Int.not_lt] at *);rcases (show k=2*g.1+1∨k=2*g.1+1+1 from by omega) with rfl | rfl <;> omega),hs⟩
 try simp only [sQ,ne_eq] at g5
 refine Zf (Zd (Za (xM (h:=xM (h:=xM (h:=Zp (ZgC [1] rfl rfl rfl rfl ZpC rfl rfl (Zba ZdA Tryz.underlying251 Ze1 (atL 0 rfl rfl rfl)) (Zf0 _ _ _ _ _ _ _ _ (ZaO oz) (ZaO oz) oz _ hv) ?_)))))))
 rintro _ B4 _ hle4 ⟨rfl,l4,rfl,hv4⟩
 refine ZB [_,_] rfl (Zg (xM (h:=xA (h:=ZT ?_))))
 rw [← ZcW g.2.1 g.1 (2*g.1+1+1)]
 have h5:hat g.2.1 (2*g.1+1+1)<hat g.2.1 g.1:=by simpa using g5
 exact ZF (2*g.1+1+1,(swp g.2.1 g.1 (2*g.1+1+1)),l4) [0,1] (so) ⟨rfl,by have:=ZcW g.2.1 g.1 (2*g.1+1+1);simp only [];omega,(ZfO oz oz).trans hp,ZhN oz oz oz oz hb (by intro k h0 hk he;(try simp only [decide_eq_true_eq,decide_eq_false_iff_not,Bool.not_eq_true',Bool.not_eq_false',Int.not_lt] at *);rcases (show k=2*g.1+1∨k=2*g.1+1+1 from by omega) with rfl | rfl <;> omega) h5,(fun k hk=>by rw [ZeA oz oz,if_neg oz,if_neg oz];exact hs k hk),hv4⟩ t5 rfl
 try simp only [sQ,ne_eq] at g4
 refine Zf (Zd (Ze (Za (xM (h:=xM (h:=xM (h:=Zp (Zfi 1 rfl rfl rfl ZpD rfl rfl (Zba ZdB Tryz.underlying251 Ze1 (atL 0 rfl rfl rfl)) (Zag.borrow fun hm5=>Zf1 _ _ _ _ _ _ _ (ZaO oz) (ZaO oz) _ (hv.lend ZdO.mono hm5 om)) ?_))))))))
 refine xN (h:=Zc rfl (fun g5=>?_) (fun g5=>?_))
 try simp only [sQ,ne_eq] at g5
 refine ZH (Z0 (ZeN rfl (ZJ (Zw (Zd (Za (xM (h:=xM (h:=Zdb (h:=xA (h:=Zh ?_)))))))))))
 exact ZaW .ret (.inl rfl) [_] [0,1] rfl t1 ⟨rfl,_,_,rfl,hv,hp,ZhO hb (by intro k h0 hk he;(try simp only [decide_eq_true_eq,decide_eq_false_iff_not,Bool.not_eq_true',Bool.not_eq_false',Int.not_lt] at *);rcases (show k=2*g.1+1∨k=2*g.1+1+1 from by omega) with rfl | rfl <;> omega),hs⟩
 try simp only [sQ,ne_eq] at g5
 refine Zf (Zd (Za (xM (h:=xM (h:=xM (h:=Zp (ZgC [1] rfl rfl rfl rfl ZpC rfl rfl (Zba ZdA Tryz.underlying251 Ze1 (atL 0 rfl rfl rfl)) (Zf0 _ _ _ _ _ _ _ _ (ZaO oz) (ZaO oz) oz _ hv) ?_)))))))
 rintro _ B6 _ hle6 ⟨rfl,l6,rfl,hv6⟩
 refine ZB [_,_] rfl (Zg (xM (h:=xA (h:=ZT ?_))))
 rw [← ZcW g.2.1 g.1 (2*g.1+1)]
 have h5:hat g.2.1 (2*g.1+1)<hat g.2.1 g.1:=by simpa using g5
 exact ZF (2*g.1+1,(swp g.2.1 g.1 (2*g.1+1)),l6) [0,1] (so) ⟨rfl,by have:=ZcW g.2.1 g.1 (2*g.1+1);simp only [];omega,(ZfO oz oz).trans hp,ZhN oz oz oz oz hb (by intro k h0 hk he;(try simp only [decide_eq_true_eq,decide_eq_false_iff_not,Bool.not_eq_true',Bool.not_eq_false',Int.not_lt] at *);rcases (show k=2*g.1+1∨k=2*g.1+1+1 from by omega) with rfl | rfl <;> omega) h5,(fun k hk=>by rw [ZeA oz oz,if_neg oz,if_neg oz];exact hs k hk),hv6⟩ t5 rfl
 try simp only [sQ,ne_eq] at g3
 refine xP (h:=xP (h:=xP (h:=xP (h:=xF (h:=Zc (t:=false) rfl (fun h=>Bool.noConfusion h) (fun _=>Zf (Zd (Ze (Za (xM (h:=xM (h:=xM (h:=?_)))))))))))))
 refine Zp (Zfi 1 rfl rfl rfl ZpD rfl rfl (Zba ZdB Tryz.underlying251 Ze1 (atL 0 rfl rfl rfl)) (Zag.borrow fun hm7=>Zf1 _ _ _ _ _ _ _ (ZaO oz) (ZaO oz) _ (hv.lend ZdO.mono hm7 om)) ?_)
 refine xN (h:=Zc rfl (fun g5=>?_) (fun g5=>?_))
 try simp only [sQ,ne_eq] at g5
 refine ZH (Z0 (ZeN rfl (ZJ (Zw (Zd (Za (xM (h:=xM (h:=Zdb (h:=xA (h:=Zh ?_)))))))))))
 exact ZaW .ret (.inl rfl) [_] [0,1] rfl t1 ⟨rfl,_,_,rfl,hv,hp,ZhO hb (by intro k h0 hk he;(try simp only [decide_eq_true_eq,decide_eq_false_iff_not,Bool.not_eq_true',Bool.not_eq_false',Int.not_lt] at *);rcases (show k=2*g.1+1∨k=2*g.1+1+1 from by omega) with rfl | rfl <;> omega),hs⟩
 try simp only [sQ,ne_eq] at g5
 refine Zf (Zd (Za (xM (h:=xM (h:=xM (h:=Zp (ZgC [1] rfl rfl rfl rfl ZpC rfl rfl (Zba ZdA Tryz.underlying251 Ze1 (atL 0 rfl rfl rfl)) (Zf0 _ _ _ _ _ _ _ _ (ZaO oz) (ZaO oz) oz _ hv) ?_)))))))
 rintro _ B8 _ hle8 ⟨rfl,l8,rfl,hv8⟩
 refine ZB [_,_] rfl (Zg (xM (h:=xA (h:=ZT ?_))))
 rw [← ZcW g.2.1 g.1 (2*g.1+1)]
 have h5:hat g.2.1 (2*g.1+1)<hat g.2.1 g.1:=by simpa using g5
 exact ZF (2*g.1+1,(swp g.2.1 g.1 (2*g.1+1)),l8) [0,1] (so) ⟨rfl,by have:=ZcW g.2.1 g.1 (2*g.1+1);simp only [];omega,(ZfO oz oz).trans hp,ZhN oz oz oz oz hb (by intro k h0 hk he;(try simp only [decide_eq_true_eq,decide_eq_false_iff_not,Bool.not_eq_true',Bool.not_eq_false',Int.not_lt] at *);rcases (show k=2*g.1+1∨k=2*g.1+1+1 from by omega) with rfl | rfl <;> omega) h5,(fun k hk=>by rw [ZeA oz oz,if_neg oz,if_neg oz];exact hs k hk),hv8⟩ t5 rfl

set_option maxHeartbeats 400000 in
theorem Zo6 (b:Nat) (q:Option Addr) (cp:Nat) (xs:List Int) (l:Cells) (hm0:0<xs.length) (hn:xs.length≤2000000) (hh:Zda xs) (B:Kn) (hv:ZW B l q cp 3 1 ZdO xs):Zx (pj J) 197 [.iface 251 (ptr ⟨b,0,none⟩)] B [Z7 b [.slice q xs.length cp] 253,l] (fun v B' Ls=>B'=B∧v = .iface 3 (.int .i64 (hat xs 0))∧∃ys l',Ls=[Z7 b [.slice q ys.length cp] 253,l']∧ZW B l' q cp 3 1 ZdO ys∧(hat xs 0 :: ys).Perm xs∧Zda ys):=by
 refine Zb 15 Tryz.func197 rfl rfl rfl (Nat.le_of_ble_eq_true rfl) ?_
 refine Za (xA (h:=Za (xM (h:=Zp (Zfi 1 rfl rfl rfl ZuD rfl rfl (Zba Zj1 Tryz.underlying251 Ze1 (atL 0 rfl rfl rfl)) (Zag.borrow fun hm1=>Zo4 _ _ _ _) (Zp (ZiJ (r:=((xs.length - 1:Nat):Int)) rfl rfl rfl rfl ((congrArg _ (show _=((xs.length - 1:Nat):Int) from by omega)).trans (Zcq oz oz)) ?_)))))))
 refine xA (h:=Za (xM (h:=xM (h:=Zp (ZgC [1] rfl rfl rfl rfl ZpC rfl rfl (Zba ZdA Tryz.underlying251 Ze1 (atL 0 rfl rfl rfl)) (Zf0 _ _ _ _ _ _ _ _ (ZaO oz) (ZaO oz) oz _ hv) ?_)))))
 rintro _ Bs _ hles ⟨rfl,ls,rfl,hvs⟩
 refine ZB [_,_] rfl ?_
 obtain ⟨zs,hzs,hzl⟩ :∃zs,zs=swp xs 0 (xs.length - 1)∧zs.length=xs.length:=⟨_,rfl,ZcW _ _ _⟩
 have hzz:=hvs
 change ZW _ _ _ _ _ _ _ (swp xs 0 (xs.length - 1)) at hzz
 rw [← hzs] at hzz
 have hdb:ZeI zs (zs.length - 1) 0:=by rw [hzl,hzs];exact Zss hh hm0
 have hlz:hat zs (zs.length - 1)=hat xs 0:=by rw [hzl,hzs];exact Zqj hm0
 have hpz:zs.Perm xs:=hzs ▸ ZfO hm0 oz
 rw [← hzl]
 refine Za (xM (h:=xM (h:=Zp (Zaj [0,1] rfl rfl rfl rfl ZvY rfl (Zni _ _ _ _ _ _ oz oz oz hdb _ hzz) ?_))))
 rintro _ Bd _ hled ⟨rfl,ysd,ld,rfl,hvd,hpd,hhd,hsd⟩
 refine ZB [_,_] rfl ?_
 have hdl:=hpd.length_eq
 refine Za (xM (h:=Zp (ZgC [0,1] rfl rfl rfl rfl ZvX rfl rfl (Zkr ZoI Tryz.underlying251) (ZsL _ _ _ _ _ _ (ZaO oz) oz _ hvd) ?_)))
 rintro _ Bo _ hleo ⟨rfl,rfl,rfl,hvo⟩
 refine xA (h:=ZB [_,_] rfl (Zh ?_))
 have hz9:hat ysd (ysd.length - 1)=hat xs 0:=by rw [hsd _ oz,hdl];exact hlz
 exact ZaW .ret (.inl rfl) [_] [0,1] rfl t1 ⟨rfl,by rw [hz9];rfl,_,_,by rw [show (ysd.take (ysd.length - 1)).length=ysd.length - 1 from by simp],hvo,Zqu oz (hpd.trans hpz) hz9,Znh (by rw [hdl];exact hhd) oz⟩

set_option maxHeartbeats 400000 in
theorem Zlo (q:Option Addr) (cp:Nat) (xs:List DItem) (last:Int) (B:Kn) (ha:SlK B q cp 4 Zs xs):Zag (pj J) 165 [.slice q xs.length cp,.int .i64 last] B (.bool (asc 0 last (xs.map (·.id)))):=by
 refine Zb 53 Tryz.func165 rfl rfl rfl (Nat.le_of_ble_eq_true rfl) ?_
 have hxn:=ha.len
 refine Za (xA (h:=Za (xBs [] [] Tryz.underlying252 sz3 zo3 (h:=fun b1=>xBx [_] (h:=fun b2=>xA (h:=ZB [_,_] rfl (Ze (Za (xM (h:=xV Tryz.underlying32 (h:=xM (h:=Zl ?_))))))))))))
 refine ZA (α:=Gh Int) [0,1,4,5,14,15] (fun g=>[(16,.int .i64 g.k)]) [0,1] (fun g=>[g.l,Z7 b2 [.slice g.a g.xs.length g.c] 253]) (fun g Bx=>Bx=B∧g.k≤xs.length∧g.xs.Perm ((xs.take g.k).map (·.id))∧Zda g.xs∧ZW Bx g.l g.a g.c 3 1 ZdO g.xs) (fun g=>xs.length - g.k) ⟨0,0,_,_,_,[]⟩ t1 rfl (⟨rfl,Nat.zero_le _,.refl _,ZqT,.lit0⟩) (fun g B3 hle3 hI=>?_)
 obtain ⟨rfl,hk,hp,hh,hv⟩:=hI
 have hpl:=hp.length_eq
 rw [List.length_map,List.length_take] at hpl
 refine ZG [(0,_),(1,_),(4,_),(5,_),(14,_),(15,_),(16,_)] [_,_] t7 rfl (Za (ZI (h:=Ze (Zc rfl (fun g1=>?_) (fun g1=>?_)))))
 try simp only [sQ,ne_eq] at g1
 refine Zf (Zd (Ze (Zl (Za ?_))))
 obtain ⟨x,hx⟩:=ZZ (xs:=xs) (i:=g.k) om
 obtain ⟨bb5,oo5,rfl⟩:=ha.base hx
 obtain ⟨_,⟨qi6,ci6,rfl,hi6,hb6,hb6b⟩,hc6⟩:=ha.elem hx
 have hi6n:=hi6.len
 refine xIx Tryz.underlying32 Za0 (h:=yL [_,_,_,_] Zdq hc6 0 (h:=xAl [_,_,_,_] Zdo (h:=fun b7=>xS [_,_,_,_] 2 [_,_,_,_] Za0 (h:=ZB [_,_,_] rfl (Zg (xM (h:=Zp (ZdQ rfl rfl Tryz.underlying251 rfl rfl (xW Zc4 (h:=x1 lk3 2 (h:=Zp (ZdQ rfl rfl Tryz.underlying3 rfl rfl (Zp (Zaj [1,0] rfl rfl rfl rfl Zv9 rfl (Zng _ _ _ _ _ _ oz hh _ hv) ?_))))))))))))))
 rintro _ Bp _ hlep ⟨rfl,qp,cp,ysp,lp,rfl,hvp,hpp,hhp⟩
 refine ZT (Zd (Zg (xD (h:=xM (h:=?_)))))
 exact ZF ⟨g.k+1,0,lp,_,_,ysp⟩ [0,1] so2 ⟨rfl,so,by simp only [];rw [ZaF hx,List.map_append];exact hpp.trans (hp.append_right _),hhp,hvp⟩ t7 rfl
 try simp only [sQ,ne_eq] at g1
 have hxe:xs.take g.k=xs:=List.take_of_length_le oz
 rw [hxe] at hp
 refine ZH (Z0 (ZJ (Zw (Zd (Za (xA (h:=Ze (Za (xM (h:=xV Tryz.underlying32 (h:=xM (h:=Zl (ZA (α:=Gh2 Int Int) [0,1,5,14,15,16,17,27,28] (fun h=>[(8,.int .i64 h.e),(29,.int .i64 h.k)]) [0,1] (fun h=>[h.l,Z7 b2 [.slice h.a h.xs.length h.c] 253]) (fun h Bx=>Bx=B3∧h.k≤xs.length∧h.xs.Perm ((xs.drop h.k).map (·.id))∧Zda h.xs∧asc 0 last (xs.map (·.id))=asc h.e last ((xs.drop h.k).map (·.id))∧ZW Bx h.l h.a h.c 3 1 ZdO h.xs) (fun h=>xs.length - h.k) ⟨0,0,g.l,g.a,g.c,g.xs,0⟩ t2 rfl (⟨rfl,Nat.zero_le _,hp,hh,rfl,hv⟩) (fun h B9 hle9 hI=>?_))))))))))))))
 clear hv hp hpl hh
 obtain ⟨rfl,hk,hp,hh,hs,hv⟩:=hI
 have hpl:=hp.length_eq
 rw [List.length_map,List.length_drop] at hpl
 refine ZG [(0,_),(1,_),(5,_),(8,_),(14,_),(15,_),(16,_),(17,_),(27,_),(28,_),(29,_)] [_,_] t11 rfl (Za (ZI (h:=Ze (Zc rfl (fun g2=>?_) (fun g2=>?_)))))
 try simp only [sQ,ne_eq] at g2
 refine Zf (Zd (Ze (Zl (Za ?_))))
 obtain ⟨x,hx⟩:=ZZ (xs:=xs) (i:=h.k) om
 obtain ⟨bb11,oo11,rfl⟩:=ha.base hx
 obtain ⟨_,⟨qi12,ci12,rfl,hi12,hb12,hb12b⟩,hc12⟩:=ha.elem hx
 have hi12n:=hi12.len
 refine xIx Tryz.underlying32 Za0 (h:=?_)
 rw [Zjj hx,List.map_cons] at hp hs
 refine yL [_,_,_,_] Zdq hc12 0 (h:=xAl [_,_,_,_] Zdo (h:=fun b13=>xS [_,_,_,_] 2 [_,_,_,_] Za0 (h:=ZB [_,_,_] rfl (Za (xM (h:=Zp (ZdQ rfl rfl Tryz.underlying251 rfl rfl (Zp (Zaj [1,0] rfl rfl rfl rfl Zv8 rfl (Zo6 _ _ _ _ _ oz oz hh _ hv) ?_)))))))))
 rintro _ Bo _ hleo ⟨rfl,rfl,yso,lo,rfl,hvo,hpo,hho⟩
 refine Zp (ZjA rfl rfl Tryz.underlying3 rfl rfl (xA (h:=ZB [_,_,_] rfl (Ze (Za (xM (h:=xW Zc4 (h:=x1 lk3 2 (h:=ZaT (h:=xM (h:=Zz (d:=41) rfl (fun g3=>?_) (fun g3=>?_))))))))))))
 try simp only [sQ,ne_eq] at g3
 refine xP (h:=xP (h:=xP (h:=xT (h:=xM (h:=xP (h:=xP (h:=xP (h:=xT (h:=Zc (t:=true) rfl (fun _=>Za (xA (h:=Zh (Zq (ZD (Zq (ZS (ZD (Zq ?_))))))))) (fun h=>Bool.noConfusion h))))))))))
 exact ZE .ret (.inl rfl) [_] t1 ⟨Zi (by rw [hs];exact Zrj hp hh (by simpa using g3)),rfl,rfl⟩
 try simp only [sQ,ne_eq] at g3
 refine xM (h:=xM (h:=Zce (h:=xF (h:=xM (h:=Zz (d:=46) rfl (fun g4=>?_) (fun g4=>?_))))))
 try simp only [sQ,ne_eq] at g4
 refine xP (h:=xP (h:=xP (h:=xT (h:=Zc (t:=true) rfl (fun _=>Za (xA (h:=Zh (Zq (ZD (Zq (ZS (ZD (Zq ?_))))))))) (fun h=>Bool.noConfusion h)))))
 exact ZE .ret (.inl rfl) [_] t1 ⟨Zi (by rw [hs];exact Zri (by rw [← g3];simpa using g4)),rfl,rfl⟩
 try simp only [sQ,ne_eq] at g4
 refine xM (h:=xM (h:=Zdb (h:=xF (h:=Zc rfl (fun g5=>?_) (fun g5=>?_)))))
 try simp only [sQ,ne_eq] at g5
 refine Za (xA (h:=Zh (Zq (ZD (Zq (ZS (ZD (Zq ?_))))))))
 exact ZE .ret (.inl rfl) [_] t1 ⟨Zi (by rw [hs];exact Zrh (by rw [← g3];simpa using g5)),rfl,rfl⟩
 try simp only [sQ,ne_eq] at g5
 refine Zf (Zd (Zg (xM (h:=xA (h:=ZT (Zd (Zg (xD (h:=xM (h:=?_))))))))))
 exact ZF ⟨h.k+1,0,lo,_,_,yso,hat h.xs 0⟩ [0,1] so2 ⟨rfl,so,List.Perm.cons_inv ((show (x.id :: yso).Perm (hat h.xs 0 :: yso) from by rw [g3]).trans (hpo.trans hp)),hho,by simp only [];rw [hs,g3];exact ZuW (by rw [← g3];simpa using g4) (by rw [← g3];simpa using g5),hvo⟩ t11 rfl
 try simp only [sQ,ne_eq] at g2
 rw [ZpG oz,List.map_nil,asc] at hs
 refine ZH (Z0 (ZJ (Zw (Zd (Za (xA (h:=Zh ?_)))))))
 exact ZE .ret (.inl rfl) [_] t1 ⟨Zi hs.symm,rfl,rfl⟩

set_option maxHeartbeats 400000 in
theorem Zhw (aq:Option Addr) (cq:Nat) (q:DQueue) (B:Kn) (hq:SlK B aq cq 4 Zs q.items):Zag (pj J) 117 [.agg #[.int .i64 q.next,.slice aq q.items.length cq]] B (.bool (Zar q)):=by
 refine Zb 42 Tryz.func117 rfl rfl rfl (Nat.le_of_ble_eq_true rfl) ?_
 have hqn:=hq.len
 refine Za (xBx [_,_] (h:=fun b1=>xA (h:=ZB [_] rfl (Ze (Za (xW ZaV (h:=x1 ZgP 0 (h:=xV Tryz.underlying32 (h:=Zdb (h:=xM (h:=Zz (d:=9) rfl (fun g1=>?_) (fun g1=>?_))))))))))))
 try simp only [sQ,ne_eq] at g1
 refine xP (h:=xP (h:=xP (h:=xT (h:=xM (h:=xP (h:=xP (h:=xP (h:=xT (h:=Zc (t:=true) rfl (fun _=>Za (xA (h:=Zh (Zq ?_)))) (fun h=>Bool.noConfusion h))))))))))
 exact ZE .ret (.inl rfl) [_] t1 ⟨Zi (Zgj oz),rfl,rfl⟩
 try simp only [sQ,ne_eq] at g1
 refine xW Zef (h:=x1 lk3 0 (h:=ZI (h:=xF (h:=xM (h:=Zz (d:=14) rfl (fun g2=>?_) (fun g2=>?_))))))
 try simp only [sQ,ne_eq] at g2
 refine xP (h:=xP (h:=xP (h:=xT (h:=Zc (t:=true) rfl (fun _=>Za (xA (h:=Zh (Zq ?_)))) (fun h=>Bool.noConfusion h)))))
 exact ZE .ret (.inl rfl) [_] t1 ⟨Zi (Zgj oz),rfl,rfl⟩
 try simp only [sQ,ne_eq] at g2
 refine xW Zef (h:=x1 lk3 0 (h:=Zdb (h:=xF (h:=Zc rfl (fun g3=>?_) (fun g3=>?_)))))
 try simp only [sQ,ne_eq] at g3
 refine Za (xA (h:=Zh (Zq ?_)))
 exact ZE .ret (.inl rfl) [_] t1 ⟨Zi (Zgj oz),rfl,rfl⟩
 try simp only [sQ,ne_eq] at g3
 refine Zf (Zd (Ze (Za (xW ZaV (h:=x1 ZgP 0 (h:=xV Tryz.underlying32 (h:=xM (h:=Zl (ZA (α:=Nat) [0,1,18,20,21] (fun k=>[(22,.int .i64 k)]) [] (fun k=>[]) (fun k Bx=>Bx=B∧k≤q.items.length∧(q.items.take k).all Zdj=true) (fun k=>q.items.length - k) 0 t1 rfl (⟨rfl,Nat.zero_le _,by simp⟩) (fun k B2 hle2 hI=>?_))))))))))
 obtain ⟨rfl,hk,ha⟩:=hI
 refine ZG [(0,_),(1,_),(18,_),(20,_),(21,_),(22,_)] [_] t6 rfl (Za (ZI (h:=Ze (Zc rfl (fun g4=>?_) (fun g4=>?_)))))
 try simp only [sQ,ne_eq] at g4
 refine Zf (Zd (Ze (Zl (Za ?_))))
 obtain ⟨x,hx⟩:=ZZ (xs:=q.items) (i:=k) om
 obtain ⟨bb4,oo4,rfl⟩:=hq.base hx
 obtain ⟨_,⟨qi5,ci5,rfl,hi5,hb5,hb5b⟩,hc5⟩:=hq.elem hx
 have hi5n:=hi5.len
 refine xIx Tryz.underlying32 Za0 (h:=yL [_,_,_,_] Zdq hc5 0 (h:=xAl [_,_,_,_] Zdo (h:=fun b6=>xS [_,_,_,_] 1 [_,_,_,_] Za0 (h:=ZB [_,_] rfl (Za (xW Zd6 (h:=x1 lk9 1 (h:=xW ZaE (h:=x1 ZgW 1 (h:=xW Zd5 (h:=x1 lk9 1 (h:=xB [(0,_),(1,_),(2,_)] [_,_,_] [_,_,_] Zxl Zxe (h:=?_)))))))))))))
 refine xR Zx5 rfl (Zkg _ _ ⟨x.fr,x.left,x.text⟩ _ hi5 oa oa) (h:=?_)
 refine xN (h:=Zc rfl (fun g5=>?_) (fun g5=>?_))
 try simp only [sQ,ne_eq] at g5
 refine Za (xA (h:=Zh (ZD (Zq (ZS (ZD (Zq ?_)))))))
 exact ZE .ret (.inl rfl) [_] t1 ⟨Zi (Zk3 hx g5),rfl,rfl⟩
 try simp only [sQ,ne_eq] at g5
 refine Zf (ZT (Zd (Zg (xD (h:=xM (h:=?_))))))
 exact ZF (k+1) [0] so2 ⟨rfl,oz,ZuX hx g5 ha⟩ t6 rfl
 try simp only [sQ,ne_eq] at g4
 refine ZH (Z0 (ZJ (Zw (Zd (Za (xW ZaV (h:=x1 ZgP 0 (h:=xW Zef (h:=x1 lk3 0 (h:=xU (h:=xR Zwu rfl (Zlo _ _ _ _ _ hq) (h:=xA (h:=Zh ?_)))))))))))))
 exact ZE .ret (.inl rfl) [_] t1 ⟨Zi (Zk2 oz ha oz oz oz),rfl,rfl⟩

set_option maxHeartbeats 400000 in
theorem ZpK (p:Option Addr) (c:Nat) (xs:List Str) (l:Cells) (i:Nat) (hi:i<xs.length) (hn:xs.length≤2000000) (BV B:Kn) (hv:ZW BV l p c 9 1 Zbv xs):Zx (pj J) 134 [.slice p xs.length c,.int .i64 i,.int .i64 ((i:Int)+1)] B [l] (fun v B' Ls=>B'=B∧∃l',Ls=[l']∧v = .slice p (xs.take i ++ xs.drop (i+1)).length c∧ZW BV l' p c 9 1 Zbv (xs.take i ++ xs.drop (i+1))):=by
 refine Zb 33 Tryz.func134 rfl rfl rfl (Nat.le_of_ble_eq_true rfl) ?_
 obtain ⟨rows,hr1,hr2,hr3,⟨rfl,hn0,_⟩ | ⟨b,arr,rfl,ha,ht,rfl,hmc⟩⟩:=hv
 omega
 have hv1:Value.slice (if c=0 then some ⟨b,0,none⟩ else (some ⟨b,0,none⟩:Option Addr).map (·.add (0*1))) (i - 0) (c - 0) = .slice (some ⟨b,0,none⟩) i c:=by split <;> simp [Addr.add_off ⟨b,0,none⟩ _ rfl]
 have hrl:=hr1.len
 have hrf:=ZbX hr2
 have hws:((arr.take xs.length).drop (i+1)).length=(xs.length - (i+1))*1:=by rw [List.length_drop,List.length_take];omega
 have hel:(xs.take i ++ xs.drop (i+1)).length=i+(xs.length - (i+1)):=by rw [List.length_append,List.length_take,List.length_drop];omega
 refine Za (xA (h:=Za (xM (h:=xM (h:=xM (h:=xM (h:=xV Tryz.underlying43 (h:=Zp (Zp2 (a:=i) (b:=i+1) (m:=xs.length) rfl rfl Tryz.underlying43 sz9 rfl ⟨_,_,rfl,rfl⟩ ⟨_,_,rfl,oz⟩ ⟨_,_,rfl,rfl⟩ oz oz hmc (fun v9=>?_))))))))))
 refine Ze (Za (xM (h:=xM (h:=Zh3 (h:=Zc rfl (fun g1=>by have:=of_decide_eq_true g1;omega) (fun g1=>?_))))))
 try simp only [sQ,ne_eq] at g1
 refine Zf (Zd (Za (xM (h:=xV Tryz.underlying43 (h:=xA (h:=Ze (Zaa (keeps _ [] _) mo kr ⟨Kn.le.refl _,ZbD.refl _ _⟩ (fun _ _=>?_))))))))
 refine aM 0 rfl (h:=aM 1 rfl (h:=aT 2 rfl (Z6 fun D B L hI=>Zjz (a:=0) (b:=i) hv1 oz oz rfl rfl Tryz.underlying43 sz9 rfl rfl ⟨_,_,rfl,rfl⟩ r4) (h:=?_)))
 refine aM 3 rfl (h:=aM 4 rfl (h:=aT 5 rfl (Z6 fun D B L hI=>ZiK rfl rfl Tryz.underlying43 sz9 rfl (a:=i+1) (b:=xs.length) ⟨_,_,rfl,oz⟩ rfl oz oz r4) (h:=?_)))
 refine ZL 6 kr rfl kr (Zsb (ws:=(arr.take xs.length).drop (i+1)) (d:=xs.length - (i+1)) 0 rfl ha rfl rfl ZrT Zsk rfl rfl (Zsm oz hmc oz) hws (ZsA hr1 ht) oz ?_)
 refine ⟨⟨Kn.le.refl _,trivial⟩,(aA 7 rfl (h:=ZC kr kr ?_))⟩
 refine Zd (ZB [_] rfl (Za (xM (h:=xM (h:=xV Tryz.underlying43 (h:=xM (h:=Zp (Zjz (a:=i+(xs.length - (i+1))) (b:=xs.length) (v:=.slice (some ⟨b,i+(xs.length - (i+1)),none⟩) 1 (c - (i+(xs.length - (i+1))))) (by rw [if_neg oz];simp [Addr.add_off ⟨b,0,none⟩ _ rfl];omega) oz oz rfl rfl Tryz.underlying43 sz9 rfl ⟨_,_,rfl,rfl⟩ ⟨_,_,rfl,rfl⟩ ?_))))))))
 refine Zp (Zr6 (d:=1) (sz:=1) 0 rfl rfl rfl Tryz.underlying43 sz9 ⟨_,zo9,rfl,rfl⟩ rfl (fun _=>rfl) (by rw [ZV,ha];omega) (fun zs hzs=>?_))
 refine ZB [_] rfl (Za (xM (h:=xA (h:=Zh ?_))))
 exact ZaW .ret (.inl rfl) [_] [0] rfl t1 ⟨rfl,_,rfl,by rw [hel];rfl,ZW.del hr1 hr2 ha (by rw [ht]) hi hmc rfl⟩

set_option maxHeartbeats 400000 in
theorem Zgo (aq:Option Addr) (cq:Nat) (q:DQueue) (id:Int) (u:Str) (B:Kn) (hq:SlK B aq cq 4 Zs q.items):Zx (pj J) 80 [.agg #[.int .i64 q.next,.slice aq q.items.length cq],.int .i64 id,str u] B [] (fun v B' Ls=>(∃l a cp,Ls=[l]∧v = .tuple #[.agg #[.int .i64 (Zas q id u).1.next,.slice a (Zas q id u).1.items.length cp],str (Zas q id u).2.1,.bool (Zas q id u).2.2]∧ZaP l a cp 126 4 (ZaQ 9) (Zas q id u).1.items∧(Zas q id u).2.1.length≤2000000)):=by
 refine Zb 95 Tryz.func80 rfl rfl rfl (Nat.le_of_ble_eq_true rfl) ?_
 have hqn:=hq.len
 refine Za (xBx [_,_] (h:=fun b1=>xAl [_,_] Zjr (h:=fun b2=>xA (h:=xA (h:=ZB [_,_] rfl (Ze (Za (xL [_,_] Zed 0 (h:=xR ZuM rfl (Zhw _ _ q _ hq) (h:=xN (h:=Zc rfl (fun g1=>?_) (fun g1=>?_))))))))))))
 try simp only [sQ,ne_eq] at g1
 refine Za (xB [] [_,_] [_,_] Zu7 Zjr (h:=xS [_,_] 1 [_,_] ZgF (h:=xA (h:=xA (h:=ZB [_,_] rfl (Zh (Zq ?_)))))))
 have he:Zas q id u=(⟨0,[]⟩,[],false):=by simp [Zas,g1]
 exact Zxs .ret (.inl rfl) [_,_,_] ⟨⟨_,rfl,.inr ⟨[_,_],Zed,ZbH 1 rfl rfl rfl,rfl⟩⟩,rfl,rfl,trivial⟩ ⟨_,none,0,rfl,by rw [he];rfl,by rw [he];exact ZaP.nil,by rw [he];exact Nat.zero_le _⟩
 try simp only [sQ,ne_eq] at g1
 have hqb:=Zdg g1
 refine Zf (Zd (Za (xL [_,_] Zed 0 (h:=Zp (ZX rfl rfl ZuI rfl (Zhj _ _ q _ hq) ?_)))))
 rintro _ Bz _ hlez ⟨slz,rfl,hlz⟩
 replace hq:=hq.mono Zs.mono hlez
 obtain ⟨p0,rfl⟩:=hlz.ptr
 refine xAl [_] Ztw (h:=fun b5=>xS [_] 3 [_] Zsj (h:=ZB [_,_,_,_] rfl (Zvr (ZB [_,_,_,_,_] rfl (Za (xA (h:=Ze (Zl (ZA (α:=QTk) [0,1,2,3,6,7,8,9,16] (fun g=>[(10,ptr ⟨g.bl,g.o,none⟩)]) [2,3,4] (fun g=>[g.cells,Z7 g.bl g.cs g.Tc,g.rest]) (fun g Bx=>Bx=Bz∧g.pre ++ g.xs=q.items∧ZlQ 9 171 167 b5 g.bl g.o g.cs g.Tc g.rest g.pre∧g.cs[g.o]? = some (.pointer g.p)∧Ze3 9 171 (.pointer g.p) g.xs g.cells∧(∀y,y∈g.pre→y.id≠id)) (fun g=>g.xs.length) ⟨[],q.items,p0,b5,0,[.pointer p0],167,[],_⟩ t1 rfl (⟨rfl,rfl,.init,rfl,hlz,(fun _ h=>by cases h)⟩) (fun g B6 hle6 hI=>?_))))))))))
 obtain ⟨rfl,hxs,hlk,hcs,hl,hpre⟩:=hI
 refine ZG [(0,_),(1,_),(2,_),(3,_),(6,_),(7,_),(8,_),(9,_),(10,_),(16,_)] [_,_,_,_,_] t10 rfl (Ze (Za (xM (h:=xNc (h:=Zp (Zr rfl rfl Zgm rfl (atL 3 rfl rfl hcs) (Zp (ZnR rfl rfl rfl rfl rfl (Zd9 Tryz.underlying167) (xM (h:=Zz (d:=24) rfl (fun g2=>?_) (fun g2=>?_)))))))))))
 try simp only [sQ,ne_eq] at g2
 obtain ⟨y,ys,b8,q8,c8,np,ins8,rest8,hp8,hrest,hperm,hy5,hy6,hy7,hy8,hl8⟩:=hl.more (by simpa using g2)
 rw [hp8] at hcs ⊢
 have hys:g.pre ++ y :: ys=q.items:=by rw [← hrest];exact hxs
 have hlen:=congrArg List.length hys
 rw [List.length_append,List.length_cons] at hlen
 have hset:=Zqm hcs
 have hcl:=Za9 hcs
 have hy5k:=hy5.anyK (B':=B6) Zbv.any
 refine ZoB 2 rfl hperm (xM (h:=xNc (h:=Zp (Zr rfl rfl Zgm rfl (atL 3 rfl rfl hcs) (xNc (h:=xW ZlA (h:=xW Zc4 (h:=x1 lk3 2 (h:=xM (h:=ZaT (h:=xT (h:=ZB [_,_,_,_,_,_,_] rfl (Zc rfl (fun g3=>?_) (fun g3=>?_))))))))))))))
 try simp only [sQ,ne_eq] at g3
 refine Zf (Zd (Zl (Zg (xM (h:=xNc (h:=Zp (Zr rfl rfl Zgm rfl (atL 3 rfl rfl hcs) (xNc (h:=xW Zlz (h:=xA (h:=ZT ?_)))))))))))
 have hset2:g.cs.set g.o (ptr ⟨b8,0,none⟩)=g.cs:=hset
 refine ⟨⟨g.pre ++ [y],ys,np,b8,4,_,171,g.rest ++ (Z7 g.bl (g.cs.set g.o (ptr ⟨b8,0,none⟩)) g.Tc ++ ins8),rest8⟩,by simp only [];rw [hrest];simp,⟨rfl,by simpa using hys,ZlQ.step (row:=[.int .i64 y.id,str y.fr,str y.text,.slice q8 y.left.length c8]) (np:=.pointer np) hlk rfl ⟨_,_,rfl,hy5,hy6,hy7,hy8⟩,rfl,hl8,fun z hz=>?_⟩,t10,⟨[],?_⟩,rfl⟩
 rcases List.mem_append.1 hz with hz | hz
 · exact hpre z hz
 · rw [List.mem_singleton.1 hz];exact g3
 rw [hset2]
 exact ZhX fun f g9 h0 ha hc=>by simp only [Zes,List.set_cons_succ,List.set_cons_zero,List.flatten_cons,List.flatten_nil,List.append_nil,List.cons_append,List.nil_append,Z7,Addr.add_blk,ha,hc,h0];try omega
 try simp only [sQ,ne_eq] at g3
 refine ZH (Z0 (ZJ (Zw (Zd (Ze (Za (xM (h:=xNc (h:=Zp (Zr rfl rfl Zgm rfl (atL 3 rfl rfl hcs) (Zp (Zjy rfl rfl rfl rfl rfl (Zd9 Tryz.underlying167) (Zc rfl (fun g4=>by cases g4) (fun g4=>?_))))))))))))))
 try simp only [sQ,ne_eq] at g4
 refine Zf (Zd (Za (xM (h:=xNc (h:=Zp (Zr rfl rfl Zgm rfl (atL 3 rfl rfl hcs) (xNc (h:=xW ZlA (h:=xA (h:=Ze (Zaa (keeps _ [2] _) mo kr ⟨Kn.le.refl _,ZbD.refl _ _⟩ (fun _ _=>?_))))))))))))
 refine aM 0 rfl (h:=aNc 1 rfl (h:=aW 2 rfl Zd5 (h:=aT 3 rfl (Z6 fun D B L hI=>Zr rfl rfl lk9 rfl (atL 2 (hI.2.1.trans rfl) rfl rfl) r4) (h:=aM 4 rfl (h:=aNc 5 rfl (h:=aW 6 rfl ZaE (h:=aT 7 rfl (Z6 fun D B L hI=>Zr rfl rfl ZgW rfl (atL 2 (hI.2.1.trans rfl) rfl rfl) r4) (h:=aM 8 rfl (h:=ZL 9 kr rfl kr (Zh7 5 rfl rfl rfl ZuH rfl (Zag.borrow fun hm7=>ZoZ _ _ _ _ _ (hy5k.lend Zbv.mono hm7 om)) ?_))))))))))
 refine ⟨⟨Kn.le.refl _,t1⟩,(aA 10 rfl (h:=aA 11 rfl (h:=ZC kr kr ?_)))⟩
 refine Zd (Ze (Za (xM (h:=ZI (h:=Zc rfl (fun g5=>?_) (fun g5=>?_))))))
 try simp only [sQ,ne_eq] at g5
 refine Za (xL [_,_] Zed 0 (h:=Zp (ZX rfl rfl Zte rfl (Zet _ _ q _ hq) ?_)))
 rintro _ Bw _ hlew ⟨lw,qw,cw,rfl,rfl,hdw⟩
 replace hq:=hq.mono Zs.mono hlew
 replace hy5k:=hy5k.mono Zbv.mono hlew
 refine xS [_,_] 1 [_,_] ZgF (h:=xA (h:=xA (h:=ZB [_,_,_,_,_,_,_,_] rfl (Zh (Zq ?_)))))
 have hnu : ¬ u∈y.left:=fun h=>absurd (Zmn.2 h) oz
 have he:Zas q id u=(q,[],false):=by rw [← g3];exact ZmK g1 hys hnu
 exact ZaW .ret (.inl rfl) [_,_,_] [7] rfl ⟨⟨_,rfl,.inr ⟨[_,_],Zed,ZbH 1 rfl rfl rfl,rfl⟩⟩,rfl,rfl,trivial⟩ ⟨_,_,_,rfl,by rw [he];rfl,by rw [he];exact hdw,by rw [he];exact Nat.zero_le _⟩
 try simp only [sQ,ne_eq] at g5
 obtain ⟨k,hke,hkg⟩:=ZqQ oz
 rw [hke]
 have hkl:=Za9 hkg
 have hy9:y∈q.items:=by rw [← hys];simp
 have hw:=Zg2 (Zft (Zdh g1 hy9)).2 hkg
 have hwn:(without y.left u).length=y.left.length - 1:=by rw [hw,List.length_append,List.length_take,List.length_drop];omega
 have hdn:(y.left.take k ++ y.left.drop (k+1)).length=y.left.length - 1:=by rw [← hw];exact hwn
 refine Zf (Zd (Za (xM (h:=xM (h:=xNc (h:=xW ZaE (h:=x1 ZgW 2 (h:=xM (h:=xM (h:=xD (h:=Zp (Zaj [5] rfl rfl rfl rfl ZwR rfl (ZpK _ _ _ _ _ oz oz _ _ hy5k) ?_))))))))))))
 rintro _ Be _ hlee ⟨rfl,le,rfl,rfl,hve⟩
 refine xNc (h:=xW ZaE (h:=xS [_] 2 [_,_,_,_,_] Zto (h:=ZB [_,_,_,_,_,_,_] rfl (Ze (Za (xM (h:=xNc (h:=xW ZaE (h:=x1 ZgW 2 (h:=xV Tryz.underlying43 (h:=Zh3 (h:=Zc rfl (fun g6=>?_) (fun g6=>?_)))))))))))))
 try simp only [sQ,ne_eq] at g6
 refine Zg (xM (h:=xM (h:=xNc (h:=Zp (Zr rfl rfl Zgm rfl (atL 3 rfl rfl hcs) (xNc (h:=xW Zlz (h:=x1 Zgm 2 (h:=xNc (h:=Zp (Z4 [_] 3 (g.cs.set g.o (.pointer np)) rfl rfl Zsj rfl rfl rfl rfl rfl rfl (by rw [Nat.ble_eq];exact hcl) (Zom hcl) ?_)))))))))))
 refine Zd ?_
 obtain ⟨v0,s0,hl0,hp0⟩:=hlk (.pointer np) ys rest8 hl8
 refine Zxf [3,4,6] (ss':=[Z7 b5 [v0] 167,s0,[]]) rfl rfl ((show List.Perm _ _ from ZhX fun f g9 h0 ha hc=>by simp only [Zes,List.set_cons_succ,List.set_cons_zero,List.flatten_cons,List.flatten_nil,List.append_nil,List.cons_append,List.nil_append,Z7,Addr.add_blk,ha,hc,h0];try omega).trans (hp0.trans (ZhX fun f g9 h0 ha hc=>by simp only [Zes,List.set_cons_succ,List.set_cons_zero,List.flatten_cons,List.flatten_nil,List.append_nil,List.cons_append,List.nil_append,Z7,Addr.add_blk,ha,hc,h0];try omega))) ?_
 refine ZB [_,_,_,_,_,_,_] rfl ?_
 have hl9:(g.pre ++ ys).length≤2000000:=by simp only [List.length_append,List.length_cons];omega
 refine Za (xW Zef (h:=x1 lk3 0 (h:=x1 Zgm 3 (h:=Zp (Zaj [4] rfl rfl rfl rfl Ztc rfl (Zhi _ _ _ _ _ oa hl0) ?_)))))
 rintro _ Bf _ hlef ⟨rfl,ldf,adf,cdf,rfl,rfl,hdf⟩
 refine xM (h:=xS [_,_] 1 [_,_] ZgF (h:=xA (h:=xA (h:=ZB [_,_,_,_,_,_,_] rfl (Zh ?_)))))
 have he:Zas q id u=(⟨q.next,g.pre ++ ys⟩,y.text,true):=by rw [← g3,Zha g1 hys (List.mem_of_getElem? hkg),if_neg oz]
 exact ZaW .ret (.inl rfl) [_,_,_] [4] rfl ⟨⟨_,rfl,.inr ⟨[_,_],Zed,ZbH 1 rfl rfl rfl,rfl⟩⟩,rfl,rfl,trivial⟩ ⟨_,_,_,rfl,by rw [he];rfl,by rw [he];exact hdf,by rw [he];exact hy7⟩
 try simp only [sQ,ne_eq] at g6
 obtain ⟨v0,s0,hl0,hp0⟩:=hlk (ptr ⟨b8,0,none⟩) (⟨y.id,y.fr,y.text,y.left.take k ++ y.left.drop (k+1)⟩ :: ys) _ ⟨_,_,_,_,_,rfl,.refl _,⟨_,_,rfl,hve.anyK Zbv.any,hy6,hy7,so⟩,hl8⟩
 rw [hset] at hp0
 refine Zxf [2,3,4,5,6] (ss':=[[],Z7 b5 [v0] 167,s0,[],[]]) rfl rfl ((show List.Perm _ _ from ZhX fun f g9 h0 ha hc=>by simp only [Zes,List.set_cons_succ,List.set_cons_zero,List.flatten_cons,List.flatten_nil,List.append_nil,List.cons_append,List.nil_append,Z7,Addr.add_blk,ha,hc,h0];try omega).trans (hp0.trans (ZhX fun f g9 h0 ha hc=>by simp only [Zes,List.set_cons_succ,List.set_cons_zero,List.flatten_cons,List.flatten_nil,List.append_nil,List.cons_append,List.nil_append,Z7,Addr.add_blk,ha,hc,h0];try omega))) ?_
 refine ZB [_,_,_,_,_,_,_] rfl ?_
 have hl9:(g.pre ++ (⟨y.id,y.fr,y.text,y.left.take k ++ y.left.drop (k+1)⟩ :: ys)).length≤2000000:=by simp only [List.length_append,List.length_cons];omega
 refine Zf (Zd (Za (xW Zef (h:=x1 lk3 0 (h:=x1 Zgm 3 (h:=Zp (Zaj [4] rfl rfl rfl rfl Ztc rfl (Zhi _ _ _ _ _ oa hl0) ?_)))))))
 rintro _ Bf _ hlef ⟨rfl,ldf,adf,cdf,rfl,rfl,hdf⟩
 refine xM (h:=xS [_,_] 1 [_,_] ZgF (h:=xA (h:=xA (h:=ZB [_,_,_,_,_,_,_] rfl (Zh ?_)))))
 have he:Zas q id u=(⟨q.next,g.pre ++ (⟨y.id,y.fr,y.text,y.left.take k ++ y.left.drop (k+1)⟩ :: ys)⟩,y.text,true):=by rw [← g3,Zha g1 hys (List.mem_of_getElem? hkg),if_pos oz,hw]
 exact ZaW .ret (.inl rfl) [_,_,_] [4] rfl ⟨⟨_,rfl,.inr ⟨[_,_],Zed,ZbH 1 rfl rfl rfl,rfl⟩⟩,rfl,rfl,trivial⟩ ⟨_,_,_,rfl,by rw [he];rfl,by rw [he];exact hdf,by rw [he];exact hy7⟩
 try simp only [sQ,ne_eq] at g2
 refine xP (h:=xP (h:=xP (h:=xP (h:=xP (h:=xP (h:=xP (h:=xP (h:=xP (h:=xF (h:=Zc (t:=false) rfl (fun h=>Bool.noConfusion h) (fun _=>ZH (Z0 (ZJ (Zw (Zd (Ze ?_))))))))))))))))
 refine Za (xM (h:=xNc (h:=Zp (Zr rfl rfl Zgm rfl (atL 3 rfl rfl hcs) (Zp (Zjy rfl rfl rfl rfl rfl (Zd9 Tryz.underlying167) (Zc rfl (fun g4=>?_) (fun g4=>by simp_all))))))))
 try simp only [sQ,ne_eq] at g4
 refine Za (xL [_,_] Zed 0 (h:=Zp (ZX rfl rfl Zte rfl (Zet _ _ q _ hq) ?_)))
 rintro _ Bw _ hlew ⟨lw,qw,cw,rfl,rfl,hdw⟩
 replace hq:=hq.mono Zs.mono hlew
 refine xS [_,_] 1 [_,_] ZgF (h:=xA (h:=xA (h:=ZB [_,_,_,_,_,_] rfl (Zh (Zq ?_)))))
 have hx0:=hl.done (by simpa using g2)
 rw [hx0,List.append_nil] at hxs
 have he:Zas q id u=(q,[],false):=ZlY g1 (fun x hx e=>hpre x (hxs ▸ hx) e.1)
 exact ZaW .ret (.inl rfl) [_,_,_] [5] rfl ⟨⟨_,rfl,.inr ⟨[_,_],Zed,ZbH 1 rfl rfl rfl,rfl⟩⟩,rfl,rfl,trivial⟩ ⟨_,_,_,rfl,by rw [he];rfl,by rw [he];exact hdw,by rw [he];exact Nat.zero_le _⟩

set_option maxHeartbeats 400000 in
theorem ZoR (n:Int) (B:Kn):Zag (pj J) 65 [.int .i64 n] B (.bool (decide (0≤n) && decide (n≤31))):=by
 refine Zb 5 Tryz.func65 rfl rfl rfl (Nat.le_of_ble_eq_true rfl) ?_
 refine Za (xA (h:=Za (xM (h:=xR Zra rfl (ZfY _ _ _ _) (h:=xA (h:=Zh ?_))))))
 exact ZE .ret (.inl rfl) [_] t1 ⟨rfl,rfl,rfl⟩

set_option maxHeartbeats 400000 in
theorem Zhx (n:Int) (B:Kn):Zag (pj J) 67 [.int .i64 n] B (.bool (decide (0≤n) && decide (n≤31))):=by
 refine Zb 9 Tryz.func67 rfl rfl rfl (Nat.le_of_ble_eq_true rfl) ?_
 refine Za (xA (h:=Za (xM (h:=Zel (h:=xM (h:=Zz (d:=5) rfl (fun g1=>?_) (fun g1=>?_)))))))
 try simp only [sQ,ne_eq] at g1
 refine xM (h:=Zce (h:=xT (h:=xA (h:=Zh ?_))))
 exact ZE .ret (.inl rfl) [_] t1 ⟨Zi (by rw [Bool.eq_iff_iff];simp [g1];try omega),rfl,rfl⟩
 try simp only [sQ,ne_eq] at g1
 refine xP (h:=xP (h:=xF (h:=xA (h:=Zh ?_))))
 exact ZE .ret (.inl rfl) [_] t1 ⟨Zi (by rw [Bool.eq_iff_iff];simp [g1];try omega),rfl,rfl⟩

set_option maxHeartbeats 400000 in
theorem ZoV (m:DMail) (hm:m.text.length≤2000000) (B:Kn):Zag (pj J) 178 [.agg #[.int .i64 m.uid,.int .i64 m.flags,str m.text]] B (.bool (ZcE m)):=by
 refine Zb 17 Tryz.func178 rfl rfl rfl (Nat.le_of_ble_eq_true rfl) ?_
 refine Za (xBx [_,_,_] (h:=fun b1=>xA (h:=ZB [_] rfl (Za (xW ZcB (h:=x1 lk3 0 (h:=xR Zra rfl (ZfY _ _ _ _) (h:=xM (h:=Zz (d:=6) rfl (fun g1=>?_) (fun g1=>?_))))))))))
 try simp only [sQ,ne_eq] at g1
 refine xW Zfw (h:=x1 lk3 0 (h:=xR Zx2 rfl (ZoR _ _) (h:=xT (h:=xM (h:=Zz (d:=11) rfl (fun g2=>?_) (fun g2=>?_))))))
 try simp only [sQ,ne_eq] at g2
 refine xW Zd3 (h:=x1 lk9 0 (h:=xVs Tryz.underlying9 (h:=Zce (h:=xT (h:=xA (h:=Zh ?_))))))
 exact ZE .ret (.inl rfl) [_] t1 ⟨Zi (by rw [Bool.eq_iff_iff];simp [ZcE,g1,g2];try omega),rfl,rfl⟩
 try simp only [sQ,ne_eq] at g2
 refine xP (h:=xP (h:=xP (h:=xP (h:=xF (h:=xA (h:=Zh ?_))))))
 exact ZE .ret (.inl rfl) [_] t1 ⟨Zi (by rw [Bool.eq_iff_iff];simp [ZcE,g1,g2];try omega),rfl,rfl⟩
 try simp only [sQ,ne_eq] at g1
 refine xP (h:=xP (h:=xP (h:=xF (h:=xM (h:=xP (h:=xP (h:=xP (h:=xP (h:=xF (h:=xA (h:=Zh ?_)))))))))))
 exact ZE .ret (.inl rfl) [_] t1 ⟨Zi (by rw [Bool.eq_iff_iff];simp [ZcE,g1];try omega),rfl,rfl⟩

set_option maxHeartbeats 400000 in
theorem Znb (m:DMail) (hm:m.text.length≤2000000) (B:Kn):Zag (pj J) 199 [.agg #[.int .i64 m.uid,.int .i64 m.flags,str m.text]] B (.bool (ZcE m)):=by
 refine Zb 22 Tryz.func199 rfl rfl rfl (Nat.le_of_ble_eq_true rfl) ?_
 refine Za (xBx [_,_,_] (h:=fun b1=>xA (h:=ZB [_] rfl (Za (xW ZcB (h:=x1 lk3 0 (h:=Zel (h:=xM (h:=Zz (d:=6) rfl (fun g1=>?_) (fun g1=>?_))))))))))
 try simp only [sQ,ne_eq] at g1
 refine xW ZcB (h:=x1 lk3 0 (h:=Zce (h:=xT (h:=xM (h:=Zz (d:=11) rfl (fun g2=>?_) (fun g2=>?_))))))
 try simp only [sQ,ne_eq] at g2
 refine xW Zfw (h:=x1 lk3 0 (h:=xR Zxu rfl (Zhx _ _) (h:=xT (h:=xM (h:=Zz (d:=16) rfl (fun g3=>?_) (fun g3=>?_))))))
 try simp only [sQ,ne_eq] at g3
 refine xW Zd3 (h:=x1 lk9 0 (h:=xVs Tryz.underlying9 (h:=Zce (h:=xT (h:=xA (h:=Zh ?_))))))
 exact ZE .ret (.inl rfl) [_] t1 ⟨Zi (by rw [Bool.eq_iff_iff];simp [ZcE,g1,g2,g3];try omega),rfl,rfl⟩
 try simp only [sQ,ne_eq] at g3
 refine xP (h:=xP (h:=xP (h:=xP (h:=xF (h:=xA (h:=Zh ?_))))))
 exact ZE .ret (.inl rfl) [_] t1 ⟨Zi (by rw [Bool.eq_iff_iff];simp [ZcE,g1,g2,g3];try omega),rfl,rfl⟩
 try simp only [sQ,ne_eq] at g2
 refine xP (h:=xP (h:=xP (h:=xF (h:=xM (h:=xP (h:=xP (h:=xP (h:=xP (h:=xF (h:=xA (h:=Zh ?_)))))))))))
 exact ZE .ret (.inl rfl) [_] t1 ⟨Zi (by rw [Bool.eq_iff_iff];simp [ZcE,g1,g2];try omega),rfl,rfl⟩
 try simp only [sQ,ne_eq] at g1
 refine xP (h:=xP (h:=xP (h:=xF (h:=xM (h:=xP (h:=xP (h:=xP (h:=xF (h:=xM (h:=xP (h:=xP (h:=xP (h:=?_)))))))))))))
 refine xP (h:=xF (h:=xA (h:=Zh ?_)))
 exact ZE .ret (.inl rfl) [_] t1 ⟨Zi (by rw [Bool.eq_iff_iff];simp [ZcE,g1];try omega),rfl,rfl⟩

set_option maxHeartbeats 400000 in
theorem Zoj (q:Option Addr) (cp:Nat) (x:DBox) (B:Kn) (hx:SlK B q cp 3 Z3 x.mail):Zag (pj J) 142 [.agg #[.int .i64 x.next,.slice q x.mail.length cp]] B (.bool (ZdL x)):=by
 refine Zb 46 Tryz.func142 rfl rfl rfl (Nat.le_of_ble_eq_true rfl) ?_
 have hxn:=hx.len
 refine Za (xBx [_,_] (h:=fun b1=>xA (h:=ZB [_] rfl (Za (xA (h:=Ze (Za (xA (h:=Zl (ZA (α:=Nat × Int) [0,1] (fun g=>[(3,.int .i64 g.2),(4,.int .i64 g.1)]) [] (fun g=>[]) (fun g Bx=>Bx=B∧g.1≤x.mail.length∧ZcJ (x.mail.take g.1)=(true,g.2)∧0≤g.2∧g.2≤99) (fun g=>x.mail.length - g.1) (0,0) t2 rfl (⟨rfl,Nat.zero_le _,Zfp,oz,oz⟩) (fun g B2 hle2 hI=>?_)))))))))))
 obtain ⟨rfl,hk,hs,hl0,hl1⟩:=hI
 refine ZG [(0,_),(1,_),(3,_),(4,_)] [_] t4 rfl (Ze (Za (xM (h:=xW Zbu (h:=x1 Zir 0 (h:=xV Tryz.underlying71 (h:=ZI (h:=Zc rfl (fun g1=>?_) (fun g1=>?_)))))))))
 try simp only [sQ,ne_eq] at g1
 refine Zf (Zd (Ze (Zl (Ze (Za (xW Zbu (h:=x1 Zir 0 (h:=xM (h:=?_)))))))))
 obtain ⟨m,hm⟩:=ZZ (xs:=x.mail) (i:=g.1) om
 obtain ⟨bb4,oo4,rfl⟩:=hx.base hm
 obtain ⟨_,⟨rfl,hb5⟩,hc5⟩:=hx.elem hm
 refine xIx Tryz.underlying71 Zcx (h:=yL [_,_,_] Zgl hc5 0 (h:=xR Zwl rfl (ZoV m om2 _) (h:=?_)))
 refine xN (h:=xM (h:=Zz (d:=19) rfl (fun g2=>?_) (fun g2=>?_)))
 try simp only [sQ,ne_eq] at g2
 refine xP (h:=xP (h:=xP (h:=xP (h:=xP (h:=xP (h:=xP (h:=xP (h:=xT (h:=Zc (t:=true) rfl (fun _=>Za (xA (h:=Zh (Zq (ZD (Zq (ZS (ZD (Zq ?_))))))))) (fun h=>Bool.noConfusion h))))))))))
 exact ZE .ret (.inl rfl) [_] t1 ⟨Zi (Zf5 (Zfq hm (by rw [show (scn Zd1 (fun _ m=>m.uid) 0 (x.mail.take g.1)).2=g.2 from congrArg Prod.snd hs];simp [Zd1,g2]))).symm,rfl,rfl⟩
 try simp only [sQ,ne_eq] at g2
 refine xW Zbu (h:=x1 Zir 0 (h:=xM (h:=xIx Tryz.underlying71 Zcx (h:=xW ZcB (h:=y1 lk3 hc5 0 (h:=xM (h:=Zce (h:=xF (h:=Zc rfl (fun g3=>?_) (fun g3=>?_))))))))))
 try simp only [sQ,ne_eq] at g3
 refine Za (xA (h:=Zh (Zq (ZD (Zq (ZS (ZD (Zq ?_))))))))
 exact ZE .ret (.inl rfl) [_] t1 ⟨Zi (Zf5 (Zfq hm (by rw [show (scn Zd1 (fun _ m=>m.uid) 0 (x.mail.take g.1)).2=g.2 from congrArg Prod.snd hs];simp [Zd1,g2];omega))).symm,rfl,rfl⟩
 try simp only [sQ,ne_eq] at g3
 refine Zf (Zd (Zg (xW Zbu (h:=x1 Zir 0 (h:=xM (h:=xIx Tryz.underlying71 Zcx (h:=xW ZcB (h:=y1 lk3 hc5 0 (h:=xA (h:=ZT (Zd (Zg (xM (h:=?_))))))))))))))
 refine xD (h:=xA (h:=?_))
 exact ZF (g.1+1,m.uid) [0] so2 ⟨rfl,oz,Zcp hm hs (by simp [Zd1,g2];omega),Zip g2⟩ t4 rfl
 try simp only [sQ,ne_eq] at g1
 refine ZH (Z0 (ZJ (Zw (Zd (Za (xW ZcG (h:=x1 lk3 0 (h:=xM (h:=xD (h:=xR Zra rfl (ZfY _ _ _ _) (h:=xM (h:=Zz (d:=40) rfl (fun g4=>?_) (fun g4=>?_)))))))))))))
 try simp only [sQ,ne_eq] at g4
 refine xW Zbu (h:=x1 Zir 0 (h:=xV Tryz.underlying71 (h:=Zce (h:=xT (h:=xA (h:=Zh ?_))))))
 exact ZE .ret (.inl rfl) [_] t1 ⟨Zi (by rw [Zf4 (ZdY hs oz),g4,Bool.true_and,Bool.eq_iff_iff];simp;omega),rfl,rfl⟩
 try simp only [sQ,ne_eq] at g4
 refine xP (h:=xP (h:=xP (h:=xP (h:=xF (h:=xA (h:=Zh ?_))))))
 exact ZE .ret (.inl rfl) [_] t1 ⟨Zi (by rw [Zf4 (ZdY hs oz),g4,Bool.false_and]),rfl,rfl⟩

set_option maxHeartbeats 400000 in
theorem Zhy (q:Option Addr) (cp:Nat) (x:DBox) (B:Kn) (hx:SlK B q cp 3 Z3 x.mail):Zag (pj J) 167 [.agg #[.int .i64 x.next,.slice q x.mail.length cp]] B (.bool (ZdL x)):=by
 refine Zb 38 Tryz.func167 rfl rfl rfl (Nat.le_of_ble_eq_true rfl) ?_
 have hxn:=hx.len
 refine Za (xBx [_,_] (h:=fun b1=>xA (h:=ZB [_] rfl (Ze (Za (xW Zbu (h:=x1 Zir 0 (h:=xV Tryz.underlying71 (h:=Zdb (h:=Zc rfl (fun g0=>?_) (fun g0=>?_)))))))))))
 try simp only [sQ,ne_eq] at g0
 refine Za (xA (h:=Zh (Zq ?_)))
 exact ZE .ret (.inl rfl) [_] t1 ⟨Zi (by simp [ZdL];omega),rfl,rfl⟩
 try simp only [sQ,ne_eq] at g0
 refine Zf (Zd (Za (xA (h:=Ze (Za (xW Zbu (h:=x1 Zir 0 (h:=xV Tryz.underlying71 (h:=xM (h:=Zl (ZA (α:=Nat × Int) [0,1,9,11,12] (fun g=>[(3,.int .i64 g.2),(13,.int .i64 g.1)]) [] (fun g=>[]) (fun g Bx=>Bx=B∧g.1≤x.mail.length∧ZcJ (x.mail.take g.1)=(true,g.2)∧0≤g.2∧g.2≤99) (fun g=>x.mail.length - g.1) (0,0) t2 rfl (⟨rfl,Nat.zero_le _,Zfp,oz,oz⟩) (fun g B2 hle2 hI=>?_))))))))))))
 obtain ⟨rfl,hk,hs,hl0,hl1⟩:=hI
 refine ZG [(0,_),(1,_),(3,_),(9,_),(11,_),(12,_),(13,_)] [_] t7 rfl (Za (ZI (h:=Ze (Zc rfl (fun g1=>?_) (fun g1=>?_)))))
 try simp only [sQ,ne_eq] at g1
 refine Zf (Zd (Ze (Zl (Za ?_))))
 obtain ⟨m,hm⟩:=ZZ (xs:=x.mail) (i:=g.1) om
 obtain ⟨bb4,oo4,rfl⟩:=hx.base hm
 obtain ⟨_,⟨rfl,hb5⟩,hc5⟩:=hx.elem hm
 refine xIx Tryz.underlying71 Zcx (h:=yL [_,_,_] Zgl hc5 0 (h:=xAl [_,_,_] Zga (h:=fun b6=>xS [_,_,_] 1 [_,_,_] Zcx (h:=ZB [_,_] rfl (Ze (Za (xL [_,_,_] Zgl 1 (h:=xR Zv6 rfl (Znb m om2 _) (h:=?_)))))))))
 refine xN (h:=xM (h:=Zz (d:=20) rfl (fun g2=>?_) (fun g2=>?_)))
 try simp only [sQ,ne_eq] at g2
 refine xP (h:=xP (h:=xP (h:=xP (h:=xT (h:=Zc (t:=true) rfl (fun _=>Za (xA (h:=Zh (Zq (ZD (Zq (ZS (ZD (Zq ?_))))))))) (fun h=>Bool.noConfusion h))))))
 exact ZE .ret (.inl rfl) [_] t1 ⟨Zi (Zf5 (Zfq hm (by rw [show (scn Zd1 (fun _ m=>m.uid) 0 (x.mail.take g.1)).2=g.2 from congrArg Prod.snd hs];simp [Zd1,g2]))).symm,rfl,rfl⟩
 try simp only [sQ,ne_eq] at g2
 refine xW ZcB (h:=x1 lk3 1 (h:=xM (h:=Zce (h:=xF (h:=Zc rfl (fun g3=>?_) (fun g3=>?_))))))
 try simp only [sQ,ne_eq] at g3
 refine Za (xA (h:=Zh (Zq (ZD (Zq (ZS (ZD (Zq ?_))))))))
 exact ZE .ret (.inl rfl) [_] t1 ⟨Zi (Zf5 (Zfq hm (by rw [show (scn Zd1 (fun _ m=>m.uid) 0 (x.mail.take g.1)).2=g.2 from congrArg Prod.snd hs];simp [Zd1,g2];omega))).symm,rfl,rfl⟩
 try simp only [sQ,ne_eq] at g3
 refine Zf (Zd (Zg (xW ZcB (h:=x1 lk3 1 (h:=xA (h:=ZT (Zd (Zg (xD (h:=xM (h:=?_)))))))))))
 exact ZF (g.1+1,m.uid) [0] so2 ⟨rfl,oz,Zcp hm hs (by simp [Zd1,g2];omega),Zip g2⟩ t7 rfl
 try simp only [sQ,ne_eq] at g1
 refine ZH (Z0 (ZJ (Zw (Zd (Za (xW ZcG (h:=x1 lk3 0 (h:=xM (h:=Zdb (h:=xM (h:=Zz (d:=33) rfl (fun g4=>?_) (fun g4=>?_))))))))))))
 try simp only [sQ,ne_eq] at g4
 refine xW ZcG (h:=x1 lk3 0 (h:=Zce (h:=xT (h:=xA (h:=Zh ?_)))))
 exact ZE .ret (.inl rfl) [_] t1 ⟨Zi (by rw [Zf4 (ZdY hs oz),Bool.eq_iff_iff];simp;omega),rfl,rfl⟩
 try simp only [sQ,ne_eq] at g4
 refine xP (h:=xP (h:=xP (h:=xF (h:=xA (h:=Zh ?_)))))
 exact ZE .ret (.inl rfl) [_] t1 ⟨Zi (by rw [Zf4 (ZdY hs oz),Bool.eq_iff_iff];simp;omega),rfl,rfl⟩

set_option maxHeartbeats 400000 in
theorem ZoU (q:Option Addr) (cp:Nat) (x:DBox) (B:Kn) (hx:SlK B q cp 3 Z3 x.mail):Zag (pj J) 143 [.agg #[.int .i64 x.next,.slice q x.mail.length cp]] B (.int .i64 (ZbC x.mail)):=by
 refine Zb 22 Tryz.func143 rfl rfl rfl (Nat.le_of_ble_eq_true rfl) ?_
 have hxn:=hx.len
 refine Za (xBx [_,_] (h:=fun b1=>xA (h:=ZB [_] rfl (Za (xA (h:=Ze (Za (xA (h:=Zl (ZA (α:=Nat × Nat) [0,1,2] (fun g=>[(3,.int .i64 g.2),(4,.int .i64 g.1)]) [] (fun g=>[]) (fun g Bx=>Bx=B∧g.1≤x.mail.length∧g.2=ZbC (x.mail.take g.1)∧g.2≤g.1*2000000) (fun g=>x.mail.length - g.1) (0,0) t2 rfl (⟨rfl,Nat.zero_le _,by simp [ZbC],oz⟩) (fun g B2 hle2 hI=>?_)))))))))))
 obtain ⟨rfl,hk,hs,hl⟩:=hI
 refine ZG [(0,_),(1,_),(2,_),(3,_),(4,_)] [_] t5 rfl (Ze (Za (xM (h:=xW Zbu (h:=x1 Zir 0 (h:=xV Tryz.underlying71 (h:=ZI (h:=Zc rfl (fun g1=>?_) (fun g1=>?_)))))))))
 try simp only [sQ,ne_eq] at g1
 refine Zf (Zd (Ze (Zl (Zg (xM (h:=xW Zbu (h:=x1 Zir 0 (h:=xM (h:=?_)))))))))
 obtain ⟨m,hm⟩:=ZZ (xs:=x.mail) (i:=g.1) om
 obtain ⟨bb4,oo4,rfl⟩:=hx.base hm
 obtain ⟨_,⟨rfl,hb5⟩,hc5⟩:=hx.elem hm
 refine xIx Tryz.underlying71 Zcx (h:=xW Zd3 (h:=y1 lk9 hc5 2 (h:=xVs Tryz.underlying9 (h:=xD (h:=xA (h:=ZT (Zd (Zg (xM (h:=xD (h:=xA (h:=?_))))))))))))
 exact ZF (g.1+1,g.2+m.text.length) [0] so2 ⟨rfl,oz,by rw [Zhf hm,← hs],oz⟩ t5 rfl
 try simp only [sQ,ne_eq] at g1
 refine ZH (Z0 (ZJ (Zw (Zd (Za (xM (h:=xA (h:=Zh ?_))))))))
 exact ZE .ret (.inl rfl) [_] t1 ⟨ZN (by rw [← Zid hs oz]),rfl,rfl⟩

set_option maxHeartbeats 400000 in
theorem ZpO (q:Option Addr) (cp:Nat) (x:DBox) (B:Kn) (hx:SlK B q cp 3 Z3 x.mail):Zag (pj J) 198 [.agg #[.int .i64 x.next,.slice q x.mail.length cp]] B (.int .i64 (Zds x)):=by
 refine Zb 23 Tryz.func198 rfl rfl rfl (Nat.le_of_ble_eq_true rfl) ?_
 have hxn:=hx.len
 refine Za (xBx [_,_] (h:=fun b1=>xA (h:=ZB [_] rfl (Ze (Za (xL [_,_] Zfs 0 (h:=xR Ztb rfl (Zhy _ _ (⟨x.next,x.mail⟩:DBox) _ hx) (h:=xN (h:=Zc rfl (fun g0=>?_) (fun g0=>?_))))))))))
 try simp only [sQ,ne_eq] at g0
 refine Za (xA (h:=Zh (Zq ?_)))
 exact ZE .ret (.inl rfl) [_] t1 ⟨ZN (by simp [Zds,g0]),rfl,rfl⟩
 try simp only [sQ,ne_eq] at g0
 refine Zf (Zd (Za (xA (h:=Ze (Za (xW Zbu (h:=x1 Zir 0 (h:=xV Tryz.underlying71 (h:=xM (h:=Zl (ZA (α:=Nat × Nat) [0,1,2,8,10,11] (fun g=>[(3,.int .i64 g.2),(12,.int .i64 g.1)]) [] (fun g=>[]) (fun g Bx=>Bx=B∧g.1≤x.mail.length∧g.2=ZbC (x.mail.take g.1)∧g.2≤g.1*2000000) (fun g=>x.mail.length - g.1) (0,0) t2 rfl (⟨rfl,Nat.zero_le _,by simp [ZbC],oz⟩) (fun g B3 hle3 hI=>?_))))))))))))
 obtain ⟨rfl,hk,hs,hl⟩:=hI
 refine ZG [(0,_),(1,_),(2,_),(3,_),(8,_),(10,_),(11,_),(12,_)] [_] t8 rfl (Za (ZI (h:=Ze (Zc rfl (fun g1=>?_) (fun g1=>?_)))))
 try simp only [sQ,ne_eq] at g1
 refine Zf (Zd (Ze (Zl (Za ?_))))
 obtain ⟨m,hm⟩:=ZZ (xs:=x.mail) (i:=g.1) om
 obtain ⟨bb5,oo5,rfl⟩:=hx.base hm
 obtain ⟨_,⟨rfl,hb6⟩,hc6⟩:=hx.elem hm
 refine xIx Tryz.underlying71 Zcx (h:=yL [_,_,_] Zgl hc6 0 (h:=xAl [_,_,_] Zga (h:=fun b7=>xS [_,_,_] 1 [_,_,_] Zcx (h:=ZB [_,_] rfl (Zg (xM (h:=xW Zd3 (h:=x1 lk9 1 (h:=xVs Tryz.underlying9 (h:=xD (h:=xA (h:=ZT (Zd ?_)))))))))))))
 refine Zg (xD (h:=xM (h:=?_)))
 exact ZF (g.1+1,g.2+m.text.length) [0] so2 ⟨rfl,oz,by rw [Zhf hm,← hs],oz⟩ t8 rfl
 try simp only [sQ,ne_eq] at g1
 refine ZH (Z0 (ZJ (Zw (Zd (Za (xM (h:=xA (h:=Zh ?_))))))))
 exact ZE .ret (.inl rfl) [_] t1 ⟨ZN (by rw [Zds,if_pos g0,← Zid hs oz]),rfl,rfl⟩

set_option maxHeartbeats 400000 in
theorem Zqo (n:Int) (B:Kn):Zag (pj J) 41 [.int .i64 n] B (.bool (decide (0≤n) && decide (n≤63))):=by
 refine Zb 9 Tryz.func41 rfl rfl rfl (Nat.le_of_ble_eq_true rfl) ?_
 refine Za (xA (h:=Za (xM (h:=Zel (h:=xM (h:=Zz (d:=5) rfl (fun g1=>?_) (fun g1=>?_)))))))
 try simp only [sQ,ne_eq] at g1
 refine xM (h:=Zce (h:=xT (h:=xA (h:=Zh ?_))))
 exact ZE .ret (.inl rfl) [_] t1 ⟨Zi (by rw [Bool.eq_iff_iff];simp [g1];try omega),rfl,rfl⟩
 try simp only [sQ,ne_eq] at g1
 refine xP (h:=xP (h:=xF (h:=xA (h:=Zh ?_))))
 exact ZE .ret (.inl rfl) [_] t1 ⟨Zi (by rw [Bool.eq_iff_iff];simp [g1];try omega),rfl,rfl⟩

set_option maxHeartbeats 400000 in
theorem ZkQ (u:DUser) (h1:u.name.length≤2000000) (h2:u.pass.length≤2000000) (B:Kn):Zag (pj J) 183 [.agg #[str u.name,str u.pass,.int .i64 u.quota]] B (.bool (ZcD u)):=by
 refine Zb 26 Tryz.func183 rfl rfl rfl (Nat.le_of_ble_eq_true rfl) ?_
 refine Za (xBx [_,_,_] (h:=fun b1=>xA (h:=ZB [_] rfl (Za (xW Za5 (h:=x1 lk9 0 (h:=xR Ztt rfl (ZcP _ om2 _) (h:=?_))))))))
 refine xM (h:=Zz (d:=6) rfl (fun g1=>?_) (fun g1=>?_))
 try simp only [sQ,ne_eq] at g1
 refine xW Za5 (h:=x1 lk9 0 (h:=Zek (h:=xT (h:=xM (h:=Zz (d:=11) rfl (fun g2=>?_) (fun g2=>?_))))))
 try simp only [sQ,ne_eq] at g2
 refine xW Zfx (h:=x1 lk9 0 (h:=xR Ztt rfl (ZcP _ om2 _) (h:=?_)))
 refine xT (h:=xM (h:=Zz (d:=16) rfl (fun g3=>?_) (fun g3=>?_)))
 try simp only [sQ,ne_eq] at g3
 refine xW Zc5 (h:=x1 lk3 0 (h:=Zel (h:=xT (h:=xM (h:=Zz (d:=21) rfl (fun g4=>?_) (fun g4=>?_))))))
 try simp only [sQ,ne_eq] at g4
 refine xW Zc5 (h:=x1 lk3 0 (h:=Zce (h:=xT (h:=xA (h:=Zh ?_)))))
 exact ZE .ret (.inl rfl) [_] t1 ⟨Zi (by rw [Bool.eq_iff_iff];simp [ZcD,anyone,g1,g2,g3,g4];try omega),rfl,rfl⟩
 try simp only [sQ,ne_eq] at g4
 refine xP (h:=xP (h:=xP (h:=xF (h:=xA (h:=Zh ?_)))))
 exact ZE .ret (.inl rfl) [_] t1 ⟨Zi (by rw [Bool.eq_iff_iff];simp [ZcD,anyone,g1,g2,g3,g4];try omega),rfl,rfl⟩
 try simp only [sQ,ne_eq] at g3
 refine xP (h:=xP (h:=xP (h:=xF (h:=xM (h:=xP (h:=xP (h:=xP (h:=xF (h:=xA (h:=Zh ?_))))))))))
 exact ZE .ret (.inl rfl) [_] t1 ⟨Zi (by rw [Bool.eq_iff_iff];simp [ZcD,anyone,g1,g2,g3];try omega),rfl,rfl⟩
 try simp only [sQ,ne_eq] at g2
 refine xP (h:=xP (h:=xP (h:=xF (h:=xM (h:=xP (h:=xP (h:=xP (h:=xF (h:=xM (h:=xP (h:=xP (h:=xP (h:=?_)))))))))))))
 refine xF (h:=xA (h:=Zh ?_))
 exact ZE .ret (.inl rfl) [_] t1 ⟨Zi (by rw [Bool.eq_iff_iff];simp [ZcD,anyone,g1,g2];try omega),rfl,rfl⟩
 try simp only [sQ,ne_eq] at g1
 refine xP (h:=xP (h:=xP (h:=xF (h:=xM (h:=xP (h:=xP (h:=xP (h:=xF (h:=xM (h:=xP (h:=xP (h:=xP (h:=?_)))))))))))))
 refine xF (h:=xM (h:=xP (h:=xP (h:=xP (h:=xF (h:=xA (h:=Zh ?_)))))))
 exact ZE .ret (.inl rfl) [_] t1 ⟨Zi (by rw [Bool.eq_iff_iff];simp [ZcD,anyone,g1];try omega),rfl,rfl⟩

set_option maxHeartbeats 400000 in
theorem Zhv (q:Option Addr) (cp:Nat) (us:List DUser) (B:Kn) (hu:SlK B q cp 3 Zm us):Zag (pj J) 150 [.slice q us.length cp] B (.bool (Zax us)):=by
 refine Zb 32 Tryz.func150 rfl rfl rfl (Nat.le_of_ble_eq_true rfl) ?_
 have hun:=hu.len
 refine Za (xA (h:=Ze (Za (xM (h:=xV Tryz.underlying30 (h:=ZI (h:=xM (h:=Zz (d:=9) rfl (fun g0=>?_) (fun g0=>?_)))))))))
 try simp only [sQ,ne_eq] at g0
 refine xP (h:=xP (h:=xP (h:=xT (h:=Zc (t:=true) rfl (fun _=>Za (xA (h:=Zh (Zq ?_)))) (fun h=>Bool.noConfusion h)))))
 exact ZE .ret (.inl rfl) [_] t1 ⟨Zi (by rw [Bool.eq_iff_iff];simp [Zax];omega),rfl,rfl⟩
 try simp only [sQ,ne_eq] at g0
 refine xM (h:=xV Tryz.underlying30 (h:=Zdb (h:=xF (h:=Zc rfl (fun g0b=>?_) (fun g0b=>?_)))))
 try simp only [sQ,ne_eq] at g0b
 refine Za (xA (h:=Zh (Zq ?_)))
 exact ZE .ret (.inl rfl) [_] t1 ⟨Zi (by rw [Bool.eq_iff_iff];simp [Zax];omega),rfl,rfl⟩
 try simp only [sQ,ne_eq] at g0b
 refine Zf (Zd (Za (xA (h:=Ze (Za (xM (h:=xV Tryz.underlying30 (h:=xM (h:=Zl (ZA (α:=Nat × Str) [0,13,14,15] (fun g=>[(3,str g.2),(16,.int .i64 g.1)]) [] (fun g=>[]) (fun g Bx=>Bx=B∧g.1≤us.length∧ZdS (us.take g.1)=(true,g.2)∧g.2.length≤2000000) (fun g=>us.length - g.1) (0,[]) t2 rfl (⟨rfl,Nat.zero_le _,Zfp,by simp⟩) (fun g B1 hle1 hI=>?_)))))))))))
 obtain ⟨rfl,hk,hs,hl⟩:=hI
 refine ZG [(0,_),(3,_),(13,_),(14,_),(15,_),(16,_)] [] t6 rfl (Za (ZI (h:=Ze (Zc rfl (fun g1=>?_) (fun g1=>?_)))))
 try simp only [sQ,ne_eq] at g1
 refine Zf (Zd (Ze (Zl (Za ?_))))
 obtain ⟨m,hm⟩:=ZZ (xs:=us) (i:=g.1) om
 obtain ⟨bb3,oo3,rfl⟩:=hu.base hm
 obtain ⟨_,⟨rfl,hb4,hb4b⟩,hc4⟩:=hu.elem hm
 refine xIx Tryz.underlying30 Zbe (h:=yL [_,_,_] Ze2 hc4 0 (h:=xAl [_,_,_] ZdP (h:=fun b5=>xS [_,_,_] 0 [_,_,_] Zbe (h:=ZB [_] rfl (Ze (Za (xL [_,_,_] Ze2 0 (h:=xR Zwh rfl (ZkQ m om2 om2 _) (h:=?_)))))))))
 refine xN (h:=xM (h:=Zz (d:=23) rfl (fun g2=>?_) (fun g2=>?_)))
 try simp only [sQ,ne_eq] at g2
 refine xP (h:=xP (h:=xP (h:=xP (h:=xT (h:=Zc (t:=true) rfl (fun _=>Za (xA (h:=Zh (Zq (ZD (Zq (ZS (ZD (Zq ?_))))))))) (fun h=>Bool.noConfusion h))))))
 exact ZE .ret (.inl rfl) [_] t1 ⟨Zi (Zfk (Zfq hm (by rw [show (scn Zeg (fun _ u=>u.name) [] (us.take g.1)).2=g.2 from congrArg Prod.snd hs];simp [Zeg,g2]))).symm,rfl,rfl⟩
 try simp only [sQ,ne_eq] at g2
 refine xW Za5 (h:=x1 lk9 0 (h:=xM (h:=Zp (ZrB rfl rfl rfl rfl (xF (h:=Zc rfl (fun g3=>?_) (fun g3=>?_)))))))
 try simp only [sQ,ne_eq] at g3
 refine Za (xA (h:=Zh (Zq (ZD (Zq (ZS (ZD (Zq ?_))))))))
 exact ZE .ret (.inl rfl) [_] t1 ⟨Zi (Zfk (Zfq hm (by rw [show (scn Zeg (fun _ u=>u.name) [] (us.take g.1)).2=g.2 from congrArg Prod.snd hs,Zeg,Zbz g.2 m.name,g3];simp))).symm,rfl,rfl⟩
 try simp only [sQ,ne_eq] at g3
 refine Zf (Zd (Zg (xW Za5 (h:=x1 lk9 0 (h:=xA (h:=ZT (Zd (Zg (xD (h:=xM (h:=?_)))))))))))
 exact ZF (g.1+1,m.name) [] so2 ⟨rfl,oz,Zcp hm hs (by rw [Zeg,Zbz g.2 m.name,g2,g3];rfl),oy⟩ t6 rfl
 try simp only [sQ,ne_eq] at g1
 refine ZH (Z0 (ZJ (Zw (Zd (Za (xA (h:=Zh ?_)))))))
 exact ZE .ret (.inl rfl) [_] t1 ⟨Zi (by rw [Zg7 (ZdY hs oz),Bool.eq_iff_iff];simp;omega),rfl,rfl⟩

set_option maxHeartbeats 400000 in
theorem ZjD (x:DUser) (u:Str) (b:Nat) (h1:x.name.length≤2000000) (h2:u.length≤2000000) (B:Kn) (hb:ZaK B b 0 [str u]):Zag (pj J) 157 [.agg #[str x.name,str x.pass,.int .i64 x.quota],ptr ⟨b,0,none⟩] B (.bool (decide (x.name=u))):=by
 refine Zb 8 Tryz.func157 rfl rfl rfl (Nat.le_of_ble_eq_true rfl) ?_
 refine Za (xBx [_,_,_] (h:=fun b1=>xA (h:=ZB [_] rfl (Za (xW Za5 (h:=x1 lk9 0 (h:=Zp (Zr rfl rfl lk9 rfl (hb _ 0 _ rfl) (Zem (h:=xA (h:=Zh ?_)))))))))))
 exact ZE .ret (.inl rfl) [_] t1 ⟨rfl,rfl,rfl⟩

set_option maxHeartbeats 400000 in
theorem Zpt (q:Option Addr) (cp:Nat) (us:List DUser) (F:FuncId) (cap:Array Value) (t:DUser→Bool) (B:Kn) (hu:SlK B q cp 3 Zm us) (he:enters (pj J) F=true) (hF :∀x:DUser,x.name.length≤2000000→x.pass.length≤2000000→Zag (pj J) F ([.agg #[str x.name,str x.pass,.int .i64 x.quota]] ++ cap.toList) B (.bool (t x))):Zag (pj J) 156 [.slice q us.length cp,.func (.func F) #[] cap] B (.tuple #[.agg #[str (Zfz t us).1.name,str (Zfz t us).1.pass,.int .i64 (Zfz t us).1.quota],.bool (Zfz t us).2]):=by
 refine Zb 21 Tryz.func156 rfl rfl rfl (Nat.le_of_ble_eq_true rfl) ?_
 have hun:=hu.len
 refine Za (xAl [_,_,_] ZdP (h:=fun b1=>xA (h:=ZB [_] rfl (Ze (Za (xM (h:=xV Tryz.underlying30 (h:=xM (h:=Zl (ZA (α:=Nat) [0,1,4,9,10] (fun k=>[(11,.int .i64 k)]) [] (fun k=>[]) (fun k Bx=>Bx=B∧k≤us.length∧∀y,y∈us.take k→t y=false) (fun k=>us.length - k) 0 t1 rfl (⟨rfl,Nat.zero_le _,by simp⟩) (fun k B2 hle2 hI=>?_)))))))))))
 obtain ⟨rfl,hk,ha⟩:=hI
 refine ZG [(0,_),(1,_),(4,_),(9,_),(10,_),(11,_)] [_] t6 rfl (Za (ZI (h:=Ze (Zc rfl (fun g1=>?_) (fun g1=>?_)))))
 try simp only [sQ,ne_eq] at g1
 refine Zf (Zd (Ze (Zl (Za ?_))))
 obtain ⟨m,hm⟩:=ZZ (xs:=us) (i:=k) om
 obtain ⟨bb4,oo4,rfl⟩:=hu.base hm
 obtain ⟨_,⟨rfl,hb5,hb5b⟩,hc5⟩:=hu.elem hm
 refine xIx Tryz.underlying30 Zbe (h:=yL [_,_,_] Ze2 hc5 0 (h:=xAl [_,_,_] ZdP (h:=fun b6=>xS [_,_,_] 1 [_,_,_] Zbe (h:=ZB [_,_] rfl (Za (xM (h:=xL [_,_,_] Ze2 1 (h:=Zp (Zrv rfl rfl he rfl rfl (hF m om2 om2) ?_)))))))))
 refine Zc rfl (fun g2=>?_) (fun g2=>?_)
 try simp only [sQ,ne_eq] at g2
 refine Za (xL [_,_,_] Ze2 1 (h:=xS [_,_,_] 0 [_,_,_] Zbe (h:=xA (h:=ZB [_,_] rfl (Zh (ZD (Zq (ZS (ZD (Zq ?_))))))))))
 exact ZE .ret (.inl rfl) [_,_] ⟨⟨_,rfl,.inr ⟨[_,_,_],Ze2,ZbH 0 rfl rfl rfl,rfl⟩⟩,rfl,trivial⟩ ⟨by rw [Zps hm g2 ha];rfl,rfl,rfl⟩
 try simp only [sQ,ne_eq] at g2
 refine Zf (ZT (Zd (Zg (xD (h:=xM (h:=?_))))))
 exact ZF (k+1) [0] so2 ⟨rfl,oz,Zbj hm ha g2⟩ t6 rfl
 try simp only [sQ,ne_eq] at g1
 refine ZH (Z0 (ZJ (Zw (Zd (Za (xAl [_,_,_] ZdP (h:=fun b8=>ZB [_,_] rfl (Za (xL [_,_,_] Ze2 1 (h:=xS [_,_,_] 0 [_,_,_] Zbe (h:=xA (h:=ZB [_,_] rfl (Zh ?_)))))))))))))
 exact ZE .ret (.inl rfl) [_,_] ⟨⟨_,rfl,.inr ⟨[_,_,_],Ze2,ZbH 0 rfl rfl rfl,rfl⟩⟩,rfl,trivial⟩ ⟨by rw [Zno (Zbw oz ha)];rfl,rfl,rfl⟩

end Go.Proofs.YthgggppcgbglkaaGreatDoor
