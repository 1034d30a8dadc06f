/-
  WHAT THE FUNCTIONS THAT THE LAWS REACH COMPUTE: each function's contract, proved off its printed body (the text is written by program). No condition beyond those that each theorem states.
-/
import Derived.Test.YtgbaglnnkikkgaaGreatDoorRows
import Derived.Test.YtgbaglnnkikkgaaGreatDoorL0
import Derived.KernelRfl
namespace Go.Proofs.YtgbaglnnkikkgaaGreatDoor
open Go Go.BL
set_option linter.unusedVariables false
set_option linter.unusedSimpArgs false
noncomputable abbrev pj (J : JoinT) : PJ := ⟨Tryz.prog, J⟩
noncomputable abbrev wgL : Go.Conc.Lib.WgLink := { add := 138, done := 140, wait := 143, relMerge := 167, disable := 168, enable := 169, inBubble := 170, associate := 171, fatal := 172, uOr := 173, uAdd := 174, raceRead := 175, uLoad := 176, uStore := 177, disassociate := 178, semrelease := 179, acquire := 181, isAssociated := 182, uCas := 183, raceWrite := 184, semacquire := 185, orU64 := 198, addU64 := 199, loadU64 := 200, storeU64 := 201, casU64 := 203, tWg := 188, tUP := 215, tAssoc := 216, tAU := 185, tU64 := 183, tUint := 220, tU32 := 186, tNoCopy := 180, tANoCopy := 181, tAlign64 := 182, tWgP := 213, tPU32 := 221, tPAU := 260, tPU64 := 262 }
theorem ZkN : Go.Conc.Lib.WgLib Tryz.prog wgL :=
  ⟨Tryz.func138, Tryz.func140, Tryz.func143, Tryz.func167, Tryz.func168, Tryz.func169, Tryz.func170, Tryz.func171, Tryz.func172, Tryz.func173, Tryz.func174, Tryz.func175, Tryz.func176, Tryz.func177, Tryz.func178, Tryz.func179, Tryz.func181, Tryz.func182, Tryz.func183, Tryz.func184, Tryz.func185, Tryz.func198, Tryz.func199, Tryz.func200, Tryz.func201, Tryz.func203, Tryz.underlying213, Tryz.runUnderlying213, Tryz.sizeOf213, Tryz.isAgg213, Tryz.zeroValue213, Tryz.underlying215, Tryz.runUnderlying215, Tryz.sizeOf215, Tryz.isAgg215, Tryz.zeroValue215, Tryz.underlying216, Tryz.runUnderlying216, Tryz.sizeOf216, Tryz.isAgg216, Tryz.zeroValue216, Tryz.underlying188, Tryz.runUnderlying188, Tryz.sizeOf188, Tryz.isAgg188, Tryz.zeroValue188, Tryz.underlying185, Tryz.runUnderlying185, Tryz.sizeOf185, Tryz.isAgg185, Tryz.zeroValue185, Tryz.underlying183, Tryz.runUnderlying183, Tryz.sizeOf183, Tryz.isAgg183, Tryz.zeroValue183, Tryz.underlying220, Tryz.runUnderlying220, Tryz.sizeOf220, Tryz.isAgg220, Tryz.zeroValue220, Tryz.underlying186, Tryz.runUnderlying186, Tryz.sizeOf186, Tryz.isAgg186, Tryz.zeroValue186, Tryz.underlying221, Tryz.runUnderlying221, Tryz.sizeOf221, Tryz.isAgg221, Tryz.zeroValue221, Tryz.underlying260, Tryz.runUnderlying260, Tryz.sizeOf260, Tryz.isAgg260, Tryz.zeroValue260, Tryz.underlying262, Tryz.runUnderlying262, Tryz.sizeOf262, Tryz.isAgg262, Tryz.zeroValue262, Tryz.underlying0, Tryz.runUnderlying0, Tryz.sizeOf0, Tryz.isAgg0, Tryz.zeroValue0, Tryz.underlying3, Tryz.runUnderlying3, Tryz.sizeOf3, Tryz.isAgg3, Tryz.zeroValue3, Tryz.underlying4, Tryz.runUnderlying4, Tryz.sizeOf4, Tryz.isAgg4, Tryz.zeroValue4, Tryz.underlying9, Tryz.runUnderlying9, Tryz.sizeOf9, Tryz.isAgg9, Tryz.zeroValue9, Tryz.underlying20, Tryz.runUnderlying20, Tryz.sizeOf20, Tryz.isAgg20, Tryz.zeroValue20, Tryz.underlying21, Tryz.runUnderlying21, Tryz.sizeOf21, Tryz.isAgg21, Tryz.zeroValue21, (by kernel_rfl), (by kernel_rfl)⟩
theorem Zqm : enters Tryz.prog 59 = true := by kernel_rfl
theorem mo : Tryz.prog.follows .mixedOrders = true := by kernel_rfl
theorem ZbN : Zz Tryz.prog 128 1 = some 1 := by kernel_rfl
theorem lk3 : lk Tryz.prog 3 = some none := by kernel_rfl
theorem Zgm : Zz Tryz.prog 128 0 = some 0 := by kernel_rfl
theorem lk9 : lk Tryz.prog 9 = some none := by kernel_rfl
theorem ZvA : enters Tryz.prog 85 = true := by kernel_rfl
theorem sz3 : ZS Tryz.prog 3 = some 1 := by kernel_rfl
theorem Zxj : enters Tryz.prog 122 = true := by kernel_rfl
theorem Zwj : enters Tryz.prog 84 = true := by kernel_rfl
theorem ZwM : enters Tryz.prog 163 = true := by kernel_rfl
theorem ZuI : ZbY Tryz.prog 128 = some [(0, 1), (1, 1)] := by kernel_rfl
theorem Zqo : Zaq Tryz.prog 128 = some (.agg #[.string ⟨#[]⟩, .int .i64 0]) := by kernel_rfl
theorem ZuE : ZS Tryz.prog 128 = some 2 := by kernel_rfl
theorem sz9 : ZS Tryz.prog 9 = some 1 := by kernel_rfl
theorem zo9 : Zaq Tryz.prog 9 = some (.string ⟨#[]⟩) := by kernel_rfl
theorem Zt4 : ZcH Tryz.prog 99 9 1 16 = true := by kernel_rfl
theorem ZuF : (match Program.underlying Tryz.prog 99 with | some (.slice _) => true | _ => false) = true := by kernel_rfl
theorem ZyA : enters Tryz.prog 94 = true := by kernel_rfl
theorem Zsy : enters Tryz.prog 42 = true := by kernel_rfl
theorem Zek : ZS Tryz.prog 97 = some 3 := by kernel_rfl
theorem Zb4 : Zz Tryz.prog 97 0 = some 0 := by kernel_rfl
theorem ZwP : enters Tryz.prog 160 = true := by kernel_rfl
theorem Zpy : Zz Tryz.prog 142 0 = some 0 := by kernel_rfl
theorem ZlB : Zz Tryz.prog 142 1 = some 1 := by kernel_rfl
theorem Zj7 : lk Tryz.prog 99 = some none := by kernel_rfl
theorem Zxe : enters Tryz.prog 128 = true := by kernel_rfl
theorem Zpx : Zz Tryz.prog 142 2 = some 2 := by kernel_rfl
theorem Zwp : enters Tryz.prog 217 = true := by kernel_rfl
theorem ZrE : enters Tryz.prog 44 = true := by kernel_rfl
theorem Zwy : enters Tryz.prog 195 = true := by kernel_rfl
theorem ZwL : enters Tryz.prog 164 = true := by kernel_rfl
theorem ZbD : Zz Tryz.prog 34 1 = some 1 := by kernel_rfl
theorem Zia : lk Tryz.prog 32 = some none := by kernel_rfl
theorem Zbl : ZS Tryz.prog 101 = some 4 := by kernel_rfl
theorem Zeo : lk Tryz.prog 101 = some (some 4) := by kernel_rfl
theorem ZeV : Zaq Tryz.prog 101 = some (.agg #[.int .i64 0, .string ⟨#[]⟩, .string ⟨#[]⟩, .slice none 0 0]) := by kernel_rfl
theorem Zd6 : Zz Tryz.prog 101 0 = some 0 := by kernel_rfl
theorem Zd5 : Zz Tryz.prog 101 1 = some 1 := by kernel_rfl
theorem Zci : Zz Tryz.prog 101 3 = some 3 := by kernel_rfl
theorem Zft : Zz Tryz.prog 101 2 = some 2 := by kernel_rfl
theorem ZuH : ZbY Tryz.prog 142 = some [(0, 1), (1, 1), (2, 1)] := by kernel_rfl
theorem Zt6 : Zaq Tryz.prog 142 = some (.agg #[.string ⟨#[]⟩, .slice none 0 0, .string ⟨#[]⟩]) := by kernel_rfl
theorem Zyz : enters Tryz.prog 95 = true := by kernel_rfl
theorem ZfW : Zz Tryz.prog 34 0 = some 0 := by kernel_rfl
theorem Zqn : Zaq Tryz.prog 34 = some (.agg #[.int .i64 0, .slice none 0 0]) := by kernel_rfl
theorem ZxR : ZbY Tryz.prog 34 = some [(0, 1), (1, 1)] := by kernel_rfl
theorem ZsV : ZS Tryz.prog 34 = some 2 := by kernel_rfl
theorem Zvw : ZS Tryz.prog 99 = some 1 := by kernel_rfl
theorem Zwg : ZcH Tryz.prog 32 101 4 64 = true := by kernel_rfl
theorem ZxP : (match Program.underlying Tryz.prog 32 with | some (.slice _) => true | _ => false) = true := by kernel_rfl
theorem ZvY : ZS Tryz.prog 32 = some 1 := by kernel_rfl
theorem ZkL : lk Tryz.prog 34 = some (some 2) := by kernel_rfl
theorem ZvH : Zaq Tryz.prog 193 = some (.pointer none) := by kernel_rfl
theorem ZwE : enters Tryz.prog 189 = true := by kernel_rfl
theorem Zwt : enters Tryz.prog 205 = true := by kernel_rfl
theorem Zth : lk Tryz.prog 193 = some none := by kernel_rfl
theorem ZwD : enters Tryz.prog 190 = true := by kernel_rfl
theorem Zv2 : ZbY Tryz.prog 232 = some [(0, 4), (4, 1)] := by kernel_rfl
theorem ZvG : Zaq Tryz.prog 232 = some (.agg #[.int .i64 0, .string ⟨#[]⟩, .string ⟨#[]⟩, .slice none 0 0, .pointer none]) := by kernel_rfl
theorem ZvZ : ZS Tryz.prog 193 = some 1 := by kernel_rfl
theorem ZtA : Zz Tryz.prog 232 0 = some 0 := by kernel_rfl
theorem Ztz : Zz Tryz.prog 232 1 = some 4 := by kernel_rfl
theorem ZwY : enters Tryz.prog 148 = true := by kernel_rfl
theorem ZwZ : enters Tryz.prog 147 = true := by kernel_rfl
theorem ZeW : lk Tryz.prog 210 = some none := by kernel_rfl
theorem zo3 : Zaq Tryz.prog 3 = some (.int .i64 0) := by kernel_rfl
theorem Zwh : ZcH Tryz.prog 210 3 1 8 = true := by kernel_rfl
theorem Zv1 : (match Program.underlying Tryz.prog 210 with | some (.slice _) => true | _ => false) = true := by kernel_rfl
theorem ZuA : ZS Tryz.prog 210 = some 1 := by kernel_rfl
theorem ZdF : ZiO Tryz.prog 209 "Less" 242 false = true := by kernel_rfl
theorem ZpP : enters Tryz.prog 242 = true := by kernel_rfl
theorem ZdE : ZiO Tryz.prog 209 "Swap" 245 false = true := by kernel_rfl
theorem ZpO : enters Tryz.prog 245 = true := by kernel_rfl
theorem Znf : ZiO Tryz.prog 209 "Push" 244 true = true := by kernel_rfl
theorem Zwm : enters Tryz.prog 244 = true := by kernel_rfl
theorem ZjZ : ZiO Tryz.prog 209 "Len" 241 false = true := by kernel_rfl
theorem Zvd : enters Tryz.prog 241 = true := by kernel_rfl
theorem Zwx : enters Tryz.prog 196 = true := by kernel_rfl
theorem Zww : enters Tryz.prog 197 = true := by kernel_rfl
theorem ZoW : ZiO Tryz.prog 209 "Pop" 243 true = true := by kernel_rfl
theorem Zwn : enters Tryz.prog 243 = true := by kernel_rfl
theorem ZwK : enters Tryz.prog 165 = true := by kernel_rfl
theorem ZwJ : enters Tryz.prog 166 = true := by kernel_rfl
theorem Zw7 : enters Tryz.prog 136 = true := by kernel_rfl
theorem Zw6 : enters Tryz.prog 137 = true := by kernel_rfl
theorem ZcC : Zz Tryz.prog 164 0 = some 0 := by kernel_rfl
theorem Zfs : Zz Tryz.prog 164 1 = some 1 := by kernel_rfl
theorem ZwO : enters Tryz.prog 161 = true := by kernel_rfl
theorem Zd4 : Zz Tryz.prog 164 2 = some 2 := by kernel_rfl
theorem Zwv : enters Tryz.prog 202 = true := by kernel_rfl
theorem Zcc : Zz Tryz.prog 59 1 = some 1 := by kernel_rfl
theorem ZkK : lk Tryz.prog 57 = some none := by kernel_rfl
theorem Zdu : ZS Tryz.prog 164 = some 3 := by kernel_rfl
theorem Zj8 : lk Tryz.prog 164 = some (some 3) := by kernel_rfl
theorem Zxd : enters Tryz.prog 129 = true := by kernel_rfl
theorem ZfV : Zz Tryz.prog 59 0 = some 0 := by kernel_rfl
theorem ZkM : Zaq Tryz.prog 164 = some (.agg #[.int .i64 0, .int .i64 0, .string ⟨#[]⟩]) := by kernel_rfl
theorem ZwI : enters Tryz.prog 180 = true := by kernel_rfl
theorem Zmr : lk Tryz.prog 59 = some (some 2) := by kernel_rfl
theorem Zvf : enters Tryz.prog 142 = true := by kernel_rfl
theorem Zhv : Zz Tryz.prog 97 1 = some 1 := by kernel_rfl
theorem Ze5 : Zz Tryz.prog 97 2 = some 2 := by kernel_rfl
theorem ZkJ : lk Tryz.prog 97 = some (some 3) := by kernel_rfl
theorem Ziv : Zaq Tryz.prog 97 = some (.agg #[.string ⟨#[]⟩, .string ⟨#[]⟩, .int .i64 0]) := by kernel_rfl
theorem Zw8 : enters Tryz.prog 135 = true := by kernel_rfl
theorem Zvg : enters Tryz.prog 104 = true := by kernel_rfl
theorem Zyn : ZbY Tryz.prog 97 = some [(0, 1), (1, 1), (2, 1)] := by kernel_rfl
theorem Zxs : enters Tryz.prog 113 = true := by kernel_rfl
theorem Zxr : enters Tryz.prog 114 = true := by kernel_rfl
theorem ZbC : Zz Tryz.prog 36 1 = some 1 := by kernel_rfl
theorem Zib : lk Tryz.prog 30 = some none := by kernel_rfl
theorem Zx4 : enters Tryz.prog 71 = true := by kernel_rfl
theorem Zal : Zz Tryz.prog 36 2 = some 2 := by kernel_rfl
theorem Zec : lk Tryz.prog 31 = some none := by kernel_rfl
theorem Zbw : ZS Tryz.prog 61 = some 5 := by kernel_rfl
theorem Zb5 : Zz Tryz.prog 61 0 = some 0 := by kernel_rfl
theorem ZdI : Zz Tryz.prog 61 1 = some 1 := by kernel_rfl
theorem ZhQ : lk Tryz.prog 61 = some (some 5) := by kernel_rfl
theorem ZyF : enters Tryz.prog 86 = true := by kernel_rfl
theorem ZyE : enters Tryz.prog 87 = true := by kernel_rfl
theorem Zee : Zz Tryz.prog 36 3 = some 3 := by kernel_rfl
theorem Zvc : enters Tryz.prog 31 = true := by kernel_rfl
theorem ZaQ : ZS Tryz.prog 109 = some 2 := by kernel_rfl
theorem Za7 : Zz Tryz.prog 109 0 = some 0 := by kernel_rfl
theorem Zdb : Zz Tryz.prog 109 1 = some 1 := by kernel_rfl
theorem Zve : enters Tryz.prog 22 = true := by kernel_rfl
theorem Zda : Zz Tryz.prog 61 3 = some 3 := by kernel_rfl
theorem Zyx : enters Tryz.prog 97 = true := by kernel_rfl
theorem Zf5 : Zaq Tryz.prog 61 = some (.agg #[.string ⟨#[]⟩, .string ⟨#[]⟩, .slice none 0 0, .int .i64 0, .slice none 0 0]) := by kernel_rfl
theorem ZbB : Zz Tryz.prog 61 2 = some 2 := by kernel_rfl
theorem Zms : lk Tryz.prog 54 = some none := by kernel_rfl
theorem ZvB : enters Tryz.prog 63 = true := by kernel_rfl
theorem Zyy : enters Tryz.prog 96 = true := by kernel_rfl
theorem Zy6 : enters Tryz.prog 43 = true := by kernel_rfl
theorem Zhw : Zz Tryz.prog 36 0 = some 0 := by kernel_rfl
theorem Zy1 : enters Tryz.prog 53 = true := by kernel_rfl
theorem Zy0 : enters Tryz.prog 54 = true := by kernel_rfl
theorem ZyZ : enters Tryz.prog 55 = true := by kernel_rfl
theorem ZcN : lk Tryz.prog 36 = some (some 5) := by kernel_rfl
theorem ZyY : enters Tryz.prog 56 = true := by kernel_rfl
theorem Zya : enters Tryz.prog 20 = true := by kernel_rfl
theorem ZyX : enters Tryz.prog 57 = true := by kernel_rfl
theorem ZyW : enters Tryz.prog 58 = true := by kernel_rfl
theorem Zj9 : lk Tryz.prog 109 = some (some 2) := by kernel_rfl
theorem ZcI : Zaq Tryz.prog 109 = some (.agg #[.string ⟨#[]⟩, .int .i64 0]) := by kernel_rfl
theorem Zwl : enters Tryz.prog 28 = true := by kernel_rfl
theorem Zwk : enters Tryz.prog 72 = true := by kernel_rfl
theorem Zu5 : Extern.findNext Tryz.f157 = none := by kernel_rfl
theorem Zu6 : Extern.find Tryz.f157 = some Extern.BytealgCompare.compare := by kernel_rfl
theorem Zxi : enters Tryz.prog 123 = true := by kernel_rfl
theorem Zx2 : enters Tryz.prog 88 = true := by kernel_rfl
theorem Zwu : enters Tryz.prog 204 = true := by kernel_rfl
theorem ZwG : enters Tryz.prog 187 = true := by kernel_rfl
theorem Zx7 : enters Tryz.prog 46 = true := by kernel_rfl
theorem Zw1 : enters Tryz.prog 145 = true := by kernel_rfl
theorem sz4 : ZS Tryz.prog 4 = some 1 := by kernel_rfl
theorem lk4 : lk Tryz.prog 4 = some none := by kernel_rfl
theorem ZwH : enters Tryz.prog 186 = true := by kernel_rfl
theorem Zw9 : enters Tryz.prog 134 = true := by kernel_rfl
theorem ZuR : lk Tryz.prog 178 = some none := by kernel_rfl
theorem Zv5 : lk Tryz.prog 66 = some none := by kernel_rfl
theorem Zw4 : enters Tryz.prog 141 = true := by kernel_rfl
theorem ZvI : Zaq Tryz.prog 188 = some (.agg #[.int .u64 0, .int .u32 0]) := by kernel_rfl
theorem Zwi : ZcH Tryz.prog 178 4 1 1 = true := by kernel_rfl
theorem zo4 : Zaq Tryz.prog 4 = some (.bool false) := by kernel_rfl
theorem ZvJ : Zaq Tryz.prog 178 = some (.slice none 0 0) := by kernel_rfl
theorem Zv0 : ZS Tryz.prog 178 = some 1 := by kernel_rfl
theorem Zw5 : enters Tryz.prog 138 = true := by kernel_rfl
theorem Zw3 : enters Tryz.prog 143 = true := by kernel_rfl
theorem Zw2 : enters Tryz.prog 144 = true := by kernel_rfl
theorem ZxA : enters Tryz.prog 103 = true := by kernel_rfl
theorem Zxz : enters Tryz.prog 105 = true := by kernel_rfl
theorem Zy5 : enters Tryz.prog 47 = true := by kernel_rfl
theorem Zxy : enters Tryz.prog 106 = true := by kernel_rfl
theorem Zxx : enters Tryz.prog 107 = true := by kernel_rfl
theorem Zxw : enters Tryz.prog 108 = true := by kernel_rfl
theorem Zsr : Zz Tryz.prog 86 0 = some 0 := by kernel_rfl
theorem Zsq : Zz Tryz.prog 86 1 = some 1 := by kernel_rfl
theorem Zpw : Zz Tryz.prog 169 0 = some 0 := by kernel_rfl
theorem Zpv : Zz Tryz.prog 205 2 = some 2 := by kernel_rfl
theorem ZxL : ZS Tryz.prog 86 = some 3 := by kernel_rfl
theorem ZxX : lk Tryz.prog 86 = some (some 3) := by kernel_rfl
theorem Zy4 : enters Tryz.prog 50 = true := by kernel_rfl
theorem ZuC : ZS Tryz.prog 169 = some 2 := by kernel_rfl
theorem ZuS : lk Tryz.prog 169 = some (some 2) := by kernel_rfl
theorem Zxh : enters Tryz.prog 125 = true := by kernel_rfl
theorem ZuB : ZS Tryz.prog 205 = some 3 := by kernel_rfl
theorem ZuQ : lk Tryz.prog 205 = some (some 3) := by kernel_rfl
theorem ZwQ : enters Tryz.prog 159 = true := by kernel_rfl
theorem ZpB : Zz Tryz.prog 138 1 = some 1 := by kernel_rfl
theorem ZpA : Zz Tryz.prog 138 2 = some 2 := by kernel_rfl
theorem Zpz : Zz Tryz.prog 138 3 = some 3 := by kernel_rfl
theorem Zxf : enters Tryz.prog 127 = true := by kernel_rfl
theorem ZuD : ZS Tryz.prog 138 = some 4 := by kernel_rfl
theorem ZuT : lk Tryz.prog 138 = some (some 4) := by kernel_rfl
theorem ZyB : enters Tryz.prog 93 = true := by kernel_rfl
theorem Zsp : Zz Tryz.prog 91 1 = some 1 := by kernel_rfl
theorem ZxV : lk Tryz.prog 89 = some none := by kernel_rfl
theorem Zxg : enters Tryz.prog 126 = true := by kernel_rfl
theorem Zsw : Zz Tryz.prog 26 1 = some 1 := by kernel_rfl
theorem ZxZ : lk Tryz.prog 24 = some none := by kernel_rfl
theorem Zy2 : enters Tryz.prog 52 = true := by kernel_rfl
theorem Zso : Zz Tryz.prog 93 0 = some 0 := by kernel_rfl
theorem Zsn : Zz Tryz.prog 93 1 = some 1 := by kernel_rfl
theorem Zsm : Zz Tryz.prog 93 2 = some 2 := by kernel_rfl
theorem ZxW : lk Tryz.prog 88 = some none := by kernel_rfl
theorem ZyD : enters Tryz.prog 91 = true := by kernel_rfl
theorem Zsl : Zz Tryz.prog 93 3 = some 3 := by kernel_rfl
theorem ZxU : lk Tryz.prog 91 = some (some 2) := by kernel_rfl
theorem ZyC : enters Tryz.prog 92 = true := by kernel_rfl
theorem ZxK : ZS Tryz.prog 93 = some 5 := by kernel_rfl
theorem ZxT : lk Tryz.prog 93 = some (some 5) := by kernel_rfl
theorem Zy3 : enters Tryz.prog 51 = true := by kernel_rfl
theorem Zsv : Zz Tryz.prog 28 0 = some 0 := by kernel_rfl
theorem Zsu : Zz Tryz.prog 28 1 = some 1 := by kernel_rfl
theorem Zx1 : lk Tryz.prog 22 = some none := by kernel_rfl
theorem Zzr : enters Tryz.prog 14 = true := by kernel_rfl
theorem Zst : Zz Tryz.prog 28 2 = some 2 := by kernel_rfl
theorem Zx0 : lk Tryz.prog 23 = some none := by kernel_rfl
theorem Zzq : enters Tryz.prog 15 = true := by kernel_rfl
theorem Zss : Zz Tryz.prog 28 3 = some 3 := by kernel_rfl
theorem ZxY : lk Tryz.prog 26 = some (some 2) := by kernel_rfl
theorem Zzp : enters Tryz.prog 16 = true := by kernel_rfl
theorem Zu3 : Zz Tryz.prog 86 2 = some 2 := by kernel_rfl
theorem ZtD : Zz Tryz.prog 169 1 = some 1 := by kernel_rfl
theorem ZtC : Zz Tryz.prog 205 0 = some 0 := by kernel_rfl
theorem ZtB : Zz Tryz.prog 205 1 = some 1 := by kernel_rfl
theorem ZnD : ZcH Tryz.prog 30 97 3 40 = true := by kernel_rfl
theorem ZyU : enters Tryz.prog 64 = true := by kernel_rfl
theorem ZnC : ZcH Tryz.prog 54 109 2 24 = true := by kernel_rfl
theorem Zxc : enters Tryz.prog 131 = true := by kernel_rfl
theorem Zwf : ZcH Tryz.prog 57 164 3 32 = true := by kernel_rfl
theorem ZwN : enters Tryz.prog 162 = true := by kernel_rfl
theorem ZtE : Zz Tryz.prog 138 0 = some 0 := by kernel_rfl
theorem Zxa : enters Tryz.prog 133 = true := by kernel_rfl
theorem ZxB : enters Tryz.prog 102 = true := by kernel_rfl
theorem Zu4 : Zz Tryz.prog 26 0 = some 0 := by kernel_rfl
theorem ZyS : enters Tryz.prog 66 = true := by kernel_rfl
theorem Zt5 : Zaq Tryz.prog 59 = some (.agg #[.int .i64 0, .slice none 0 0]) := by kernel_rfl
theorem Zu2 : Zz Tryz.prog 91 0 = some 0 := by kernel_rfl
theorem Zxb : enters Tryz.prog 132 = true := by kernel_rfl
theorem ZxM : ZS Tryz.prog 57 = some 1 := by kernel_rfl
theorem Zt3 : ZS Tryz.prog 59 = some 2 := by kernel_rfl
theorem ZxD : enters Tryz.prog 100 = true := by kernel_rfl
theorem ZsU : ZS Tryz.prog 54 = some 1 := by kernel_rfl
theorem ZxC : enters Tryz.prog 101 = true := by kernel_rfl
theorem Zvz : ZcH Tryz.prog 31 61 5 88 = true := by kernel_rfl
theorem ZyT : enters Tryz.prog 65 = true := by kernel_rfl
theorem Zcx : Zaq Tryz.prog 36 = some (.agg #[.string ⟨#[]⟩, .slice none 0 0, .slice none 0 0, .int .i64 0, .slice none 0 0]) := by kernel_rfl
theorem Zzl : enters Tryz.prog 24 = true := by kernel_rfl
theorem Zyl : ZS Tryz.prog 30 = some 1 := by kernel_rfl
theorem Zzk : enters Tryz.prog 25 = true := by kernel_rfl
theorem ZxN : ZS Tryz.prog 31 = some 1 := by kernel_rfl
theorem Zzj : enters Tryz.prog 26 = true := by kernel_rfl
theorem ZdA : ZS Tryz.prog 36 = some 5 := by kernel_rfl
theorem ZyO : enters Tryz.prog 74 = true := by kernel_rfl
theorem ZwT : enters Tryz.prog 154 = true := by kernel_rfl
theorem Zwz : enters Tryz.prog 194 = true := by kernel_rfl
theorem ZwR : enters Tryz.prog 156 = true := by kernel_rfl
theorem Zxm : enters Tryz.prog 119 = true := by kernel_rfl
theorem ZyM : enters Tryz.prog 76 = true := by kernel_rfl
theorem ZwS : enters Tryz.prog 155 = true := by kernel_rfl
theorem Zxo : enters Tryz.prog 117 = true := by kernel_rfl
theorem Zxn : enters Tryz.prog 118 = true := by kernel_rfl
theorem ZyN : enters Tryz.prog 75 = true := by kernel_rfl
theorem Zzf : enters Tryz.prog 33 = true := by kernel_rfl
theorem Zze : enters Tryz.prog 34 = true := by kernel_rfl
theorem Zzd : enters Tryz.prog 35 = true := by kernel_rfl
theorem ZxO : (match Program.underlying Tryz.prog 57 with | some (.slice _) => true | _ => false) = true := by kernel_rfl
theorem Zyo : ZbY Tryz.prog 59 = some [(0, 1), (1, 1)] := by kernel_rfl
theorem Zow : (match Program.underlying Tryz.prog 54 with | some (.slice _) => true | _ => false) = true := by kernel_rfl
theorem ZwF : enters Tryz.prog 188 = true := by kernel_rfl
theorem sz5 : ZS Tryz.prog 5 = some 1 := by kernel_rfl
theorem zo5 : Zaq Tryz.prog 5 = some (.int .u8 0) := by kernel_rfl
theorem Zjr : enters Tryz.prog 77 = true := by kernel_rfl
theorem ZtP : enters Tryz.prog 130 = true := by kernel_rfl
theorem Zyv : enters Tryz.prog 99 = true := by kernel_rfl
theorem Zx6 : enters Tryz.prog 62 = true := by kernel_rfl
theorem Zyw : enters Tryz.prog 98 = true := by kernel_rfl
theorem ZnV : (match Program.underlying Tryz.prog 30 with | some (.slice _) => true | _ => false) = true := by kernel_rfl
theorem Zjd : enters Tryz.prog 60 = true := by kernel_rfl
theorem ZgK : ZbY Tryz.prog 36 = some [(0, 1), (1, 1), (2, 1), (3, 2)] := by kernel_rfl
theorem ZyV : enters Tryz.prog 61 = true := by kernel_rfl
theorem ZxQ : (match Program.underlying Tryz.prog 31 with | some (.slice _) => true | _ => false) = true := by kernel_rfl
theorem Zzo : enters Tryz.prog 17 = true := by kernel_rfl
theorem Zzn : enters Tryz.prog 19 = true := by kernel_rfl
theorem Zyb : enters Tryz.prog 18 = true := by kernel_rfl
theorem Zs3 : ZbY Tryz.prog 109 = some [(0, 1), (1, 1)] := by kernel_rfl
theorem Zzm : enters Tryz.prog 21 = true := by kernel_rfl
theorem Zx9 : enters Tryz.prog 23 = true := by kernel_rfl
theorem Zxt : enters Tryz.prog 112 = true := by kernel_rfl
theorem ZyL : enters Tryz.prog 78 = true := by kernel_rfl
theorem ZyK : enters Tryz.prog 79 = true := by kernel_rfl
theorem Zxl : enters Tryz.prog 120 = true := by kernel_rfl
theorem ZyJ : enters Tryz.prog 80 = true := by kernel_rfl
theorem Zzc : enters Tryz.prog 36 = true := by kernel_rfl
theorem Zzb : enters Tryz.prog 37 = true := by kernel_rfl
theorem Zza : enters Tryz.prog 38 = true := by kernel_rfl
theorem ZyI : enters Tryz.prog 81 = true := by kernel_rfl
theorem ZyH : enters Tryz.prog 82 = true := by kernel_rfl
theorem Zxk : enters Tryz.prog 121 = true := by kernel_rfl
theorem ZyG : enters Tryz.prog 83 = true := by kernel_rfl
theorem Zy9 : enters Tryz.prog 39 = true := by kernel_rfl
theorem Zy8 : enters Tryz.prog 40 = true := by kernel_rfl
theorem Zy7 : enters Tryz.prog 41 = true := by kernel_rfl
theorem Zye : (Tryz.prog.info? 288).map (·.comparable) = some true := by kernel_rfl
theorem Zuz : ZS Tryz.prog 312 = some 1 := by kernel_rfl
theorem ZvF : Zaq Tryz.prog 240 = some (.nilIface) := by kernel_rfl
theorem ZvE : Zaq Tryz.prog 243 = some (.nilIface) := by kernel_rfl
theorem ZvD : Zaq Tryz.prog 245 = some (.nilIface) := by kernel_rfl
theorem ZwX : enters Tryz.prog 150 = true := by kernel_rfl
theorem Zql : lk Tryz.prog 68 = some none := by kernel_rfl
theorem ZrF : enters Tryz.prog 111 = true := by kernel_rfl
theorem Zx5 : enters Tryz.prog 70 = true := by kernel_rfl
theorem Zw0 : enters Tryz.prog 146 = true := by kernel_rfl
theorem Zxv : enters Tryz.prog 109 = true := by kernel_rfl
theorem Zxu : enters Tryz.prog 110 = true := by kernel_rfl
theorem ZyR : enters Tryz.prog 67 = true := by kernel_rfl
theorem ZyQ : enters Tryz.prog 68 = true := by kernel_rfl
theorem ZyP : enters Tryz.prog 69 = true := by kernel_rfl
theorem Zzi : enters Tryz.prog 27 = true := by kernel_rfl
theorem ZuP : lk Tryz.prog 28 = some (some 5) := by kernel_rfl
theorem en5 : enters Tryz.prog 5 = true := by kernel_rfl
theorem en7 : enters Tryz.prog 7 = true := by kernel_rfl
theorem en9 : enters Tryz.prog 9 = true := by kernel_rfl
theorem Zyd : enters Tryz.prog 10 = true := by kernel_rfl
theorem Zyc : enters Tryz.prog 11 = true := by kernel_rfl
theorem Zwo : enters Tryz.prog 223 = true := by kernel_rfl
theorem Zwq : enters Tryz.prog 216 = true := by kernel_rfl
theorem Zwr : enters Tryz.prog 212 = true := by kernel_rfl
theorem Zws : enters Tryz.prog 206 = true := by kernel_rfl
theorem ZwA : enters Tryz.prog 193 = true := by kernel_rfl
theorem ZwB : enters Tryz.prog 192 = true := by kernel_rfl
theorem Zv6 : lk Tryz.prog 117 = some none := by kernel_rfl
theorem ZwU : enters Tryz.prog 153 = true := by kernel_rfl
theorem ZwC : enters Tryz.prog 191 = true := by kernel_rfl
theorem ZwW : enters Tryz.prog 151 = true := by kernel_rfl
theorem ZwV : enters Tryz.prog 152 = true := by kernel_rfl
theorem Zxp : enters Tryz.prog 116 = true := by kernel_rfl
theorem Zxq : enters Tryz.prog 115 = true := by kernel_rfl
theorem Zx3 : enters Tryz.prog 73 = true := by kernel_rfl
theorem Zzg : enters Tryz.prog 30 = true := by kernel_rfl
theorem Zx8 : enters Tryz.prog 32 = true := by kernel_rfl
theorem Zzh : enters Tryz.prog 29 = true := by kernel_rfl
theorem en6 : enters Tryz.prog 6 = true := by kernel_rfl
theorem en8 : enters Tryz.prog 8 = true := by kernel_rfl
set_option maxRecDepth 4000
set_option maxHeartbeats 6400000
variable {J : JoinT}
abbrev cur (b : Nat) (l : List UInt8) (i : Nat) : Cells := Zar b [str l, .int .i64 i] 128
theorem Ze4 (n lo hi:Int) (B:Kn):Z6 (pj J) 59 [.int .i64 n,.int .i64 lo,.int .i64 hi] B (.bool (decide (lo≤n) && decide (n≤hi))):=by
 refine cB 15 Tryz.func59 (h:=?_)
 refine Za (xA (h:=ZW [(0,_),(1,_),(2,_),(6,_)] t4 (Za (xM (h:=xM (h:=Zdy (h:=xM (h:=Zt (d:=10) rfl (fun g1=>?_) (fun g1=>?_)))))))))
 try simp only [sQ,ne_eq] at g1
 refine xM (h:=xM (h:=Zb7 (h:=xT (h:=xA (h:=ZW [(0,_),(1,_),(2,_),(6,_)] t4 (Zd ?_))))))
 exact eR t1 ⟨by exact Ze (by rw [Bool.eq_iff_iff];simp [];omega),rfl,rfl⟩
 try simp only [sQ,ne_eq] at g1
 refine xP (h:=xP (h:=xP (h:=xF (h:=xA (h:=ZW [(0,_),(1,_),(2,_),(6,_)] t4 (Zd ?_))))))
 exact eR t1 ⟨by exact Ze (by rw [Bool.eq_iff_iff];simp [];omega),rfl,rfl⟩

theorem Zne (c:UInt8) (B:Kn):Z6 (pj J) 122 [.int .u8 c.toNat] B (.bool (Za6 c)):=by
 refine cB 17 Tryz.func122 (h:=?_)
 refine Za (xA (h:=ZW [(0,_),(2,_)] t2 (Za (xM (h:=Zdy (h:=xM (h:=Zt (d:=5) rfl (fun g1=>?_) (fun g1=>?_))))))))
 try simp only [sQ,ne_eq] at g1
 refine xM (h:=Zb7 (h:=xT (h:=xM (h:=Zt (d:=9) rfl (fun g2=>?_) (fun g2=>?_)))))
 try simp only [sQ,ne_eq] at g2
 refine xP (h:=xP (h:=xP (h:=xP (h:=xP (h:=xP (h:=xT (h:=xA (h:=ZW [(0,_),(2,_)] t2 (Zd ?_)))))))))
 exact eR t1 ⟨by exact Ze (by rw [Bool.eq_iff_iff];simp [Za6];omega),rfl,rfl⟩
 try simp only [sQ,ne_eq] at g2
 refine xM (h:=Zdy (h:=xM (h:=Zt (d:=12) rfl (fun g3=>?_) (fun g3=>?_))))
 try simp only [sQ,ne_eq] at g3
 refine xM (h:=Zb7 (h:=xT (h:=xF (h:=xA (h:=ZW [(0,_),(2,_)] t2 (Zd ?_))))))
 exact eR t1 ⟨by exact Ze (by rw [Bool.eq_iff_iff];simp [Za6];omega),rfl,rfl⟩
 try simp only [sQ,ne_eq] at g3
 refine xP (h:=xP (h:=xF (h:=xF (h:=xA (h:=ZW [(0,_),(2,_)] t2 (Zd ?_))))))
 exact eR t1 ⟨by exact Ze (by rw [Bool.eq_iff_iff];simp [Za6];omega),rfl,rfl⟩
 try simp only [sQ,ne_eq] at g1
 refine xP (h:=xP (h:=xF (h:=xM (h:=xM (h:=Zdy (h:=xM (h:=Zt (d:=12) rfl (fun g4=>?_) (fun g4=>?_))))))))
 try simp only [sQ,ne_eq] at g4
 refine xM (h:=Zb7 (h:=xT (h:=xF (h:=xA (h:=ZW [(0,_),(2,_)] t2 (Zd ?_))))))
 exact eR t1 ⟨by exact Ze (by rw [Bool.eq_iff_iff];simp [Za6];omega),rfl,rfl⟩
 try simp only [sQ,ne_eq] at g4
 refine xP (h:=xP (h:=xF (h:=xF (h:=xA (h:=ZW [(0,_),(2,_)] t2 (Zd ?_))))))
 exact eR t1 ⟨by exact Ze (by rw [Bool.eq_iff_iff];simp [Za6];omega),rfl,rfl⟩

theorem ZbP (l:List UInt8) (hl:l.length≤2000000) (B:Kn):Z6 (pj J) 42 [str l] B (.bool (ZZ l)):=by
 refine cB 37 Tryz.func42 (h:=?_)
 refine Za (xA (h:=ZW [(0,_),(2,_)] t2 (Zc (Za (xA (h:=ZW [(0,_),(2,_),(3,_)] t3 (Zi (Zjw (α:=Nat) (fun k=>[(0,str l),(3,.int .i64 k)]) (fun k=>[]) (fun k Bx=>Bx=B∧k≤l.length∧(l.take k).all Za6=true) (fun k=>l.length - k) 0 t2 rfl (⟨rfl,Nat.zero_le _,by simp⟩) (fun k B1 hle1 hI=>?_)))))))))
 obtain ⟨rfl,hk,ha⟩:=hI
 refine Zc (Za (xM (h:=xM (h:=xVs Tryz.underlying9 (h:=ZE (h:=ZW [(0,_),(3,_),(7,_)] t3 (Zb rfl (fun g1=>?_) (fun g1=>?_))))))))
 try simp only [sQ,ne_eq] at g1
 obtain ⟨c,hc⟩ :∃c,l[k]? = some c:=⟨_,List.getElem?_eq_getElem oz⟩
 refine wSk (Zc (Zi (ZmT 33 (!(Za6 c)) [0,3,7] ?_ ?_)))
 refine xM (h:=xM (h:=Zk (Zds rfl rfl Tryz.underlying9 rfl rfl oz (by simpa using hc) ?_)))
 refine Zdy (h:=xM (h:=Zt (d:=14) rfl (fun g1=>?_) (fun g1=>?_)))
 try simp only [sQ,ne_eq] at g1
 refine xM (h:=xM (h:=Zk (Zds rfl rfl Tryz.underlying9 rfl rfl oz (by simpa using hc) ?_)))
 refine Zb7 (h:=xT (h:=xN (h:=xM (h:=Zt (d:=21) rfl (fun g2=>?_) (fun g2=>?_)))))
 try simp only [sQ,ne_eq] at g2
 refine xM (h:=xM (h:=Zk (Zds rfl rfl Tryz.underlying9 rfl rfl oz (by simpa using hc) ?_)))
 refine Zdy (h:=xM (h:=Zt (d:=26) rfl (fun g3=>?_) (fun g3=>?_)))
 try simp only [sQ,ne_eq] at g3
 refine xM (h:=xM (h:=Zk (Zds rfl rfl Tryz.underlying9 rfl rfl oz (by simpa using hc) ?_)))
 refine Zb7 (h:=xT (h:=xN (h:=xT (h:=?_))))
 exact ⟨rfl,rfl,rfl,ZiV rfl (by rw [Bool.eq_iff_iff];simp [Za6,];omega),t3⟩
 try simp only [sQ,ne_eq] at g3
 refine xP (h:=xP (h:=xP (h:=xP (h:=xF (h:=xN (h:=xT (h:=?_)))))))
 exact ⟨rfl,rfl,rfl,ZiV rfl (by rw [Bool.eq_iff_iff];simp [Za6,];omega),t3⟩
 try simp only [sQ,ne_eq] at g2
 refine xP (h:=xP (h:=xP (h:=xP (h:=xP (h:=xP (h:=xP (h:=xP (h:=xP (h:=xP (h:=xP (h:=xF (h:=?_))))))))))))
 exact ⟨rfl,rfl,rfl,ZiV rfl (by rw [Bool.eq_iff_iff];simp [Za6,];omega),t3⟩
 try simp only [sQ,ne_eq] at g1
 refine xP (h:=xP (h:=xP (h:=xP (h:=xF (h:=xN (h:=xM (h:=xM (h:=xM (h:=Zk (Zds rfl rfl Tryz.underlying9 rfl rfl oz (by simpa using hc) ?_))))))))))
 refine Zdy (h:=xM (h:=Zt (d:=26) rfl (fun g4=>?_) (fun g4=>?_)))
 try simp only [sQ,ne_eq] at g4
 refine xM (h:=xM (h:=Zk (Zds rfl rfl Tryz.underlying9 rfl rfl oz (by simpa using hc) ?_)))
 refine Zb7 (h:=xT (h:=xN (h:=xT (h:=?_))))
 exact ⟨rfl,rfl,rfl,ZiV rfl (by rw [Bool.eq_iff_iff];simp [Za6,];omega),t3⟩
 try simp only [sQ,ne_eq] at g4
 refine xP (h:=xP (h:=xP (h:=xP (h:=xF (h:=xN (h:=xT (h:=?_)))))))
 exact ⟨rfl,rfl,rfl,ZiV rfl (by rw [Bool.eq_iff_iff];simp [Za6,];omega),t3⟩
 refine ZW [(0,_),(3,_),(7,_),(33,_)] t4 (Zb rfl (fun g9=>?_) (fun g9=>?_))
 try simp only [sQ,ne_eq] at g9
 refine Za (xA (h:=ZW [(0,_),(2,_),(3,_),(7,_),(33,_)] t5 (Zd (Zy (Zl (Zs1 (Zy (Zl ?_))))))))
 exact eR t1 ⟨Ze (by simp [ZZ,ZrR hc g9]),rfl,rfl⟩
 try simp only [sQ,ne_eq] at g9
 refine ZT (ZM (Zo (Zf (xM (h:=Zk (ZfF rfl rfl rfl rfl (by first | exact Zbd oz oz | rfl) ?_))))))
 refine xA (h:=?_)
 exact Zm6 (k+1) oz ⟨rfl,oz,ZmN hc g9 ha⟩ t2 rfl
 try simp only [sQ,ne_eq] at g1
 refine ZC (ZV (Zm5 (Zu (Zo (Za (xM (h:=xVs Tryz.underlying9 (h:=xR Zqm rfl (Ze4 _ _ _ _) (h:=xA (h:=ZW [(0,_),(2,_),(3,_),(7,_)] t4 (Zd ?_)))))))))))
 exact eR t1 ⟨Ze (by (obtain rfl:k=l.length:=oz);rw [List.take_length] at ha;rw [Bool.eq_iff_iff];simp [ZZ,ha];omega),rfl,rfl⟩

theorem ZmH (b:Nat) (l:List UInt8) (i:Nat) (hi:i≤l.length) (hl:l.length≤2000000) (B:Kn):ZsD (pj J) 85 [ptr ⟨b,0,none⟩] B (cur b l i) (.bool (decide (i=l.length))) (cur b l i):=by
 refine cB 13 Tryz.func85 (h:=?_)
 refine Za (xA (h:=ZW [(0,_),(2,_)] t2 (Zc (Z2 (same _ _) mo kr ⟨rfl,rfl⟩ (fun _ _=>?_)))))
 refine aM 0 rfl (h:=aNc 1 rfl (h:=aW 2 rfl ZbN (h:=aT 3 rfl (Zag fun D=>Zn rfl rfl lk3 rfl (atL 0 rfl rfl rfl) r4) (h:=aM 4 rfl (h:=aNc 5 rfl (h:=aW 6 rfl Zgm (h:=aT 7 rfl (Zag fun D=>Zn rfl rfl lk9 rfl (atL 0 rfl rfl rfl) r4) (h:=aT 8 rfl (Zag fun D=>Zsa rfl rfl Tryz.underlying9 rfl r4) (h:=Zqh 9 rfl (h:=aA 10 rfl (h:=Zx kr kr ?_)))))))))))
 refine Zo (ZW [(0,_),(2,_)] t2 (Zd ?_))
 exact e1 0 rfl t1 ⟨Ze (by rw [Bool.eq_iff_iff];simp;omega),rfl,rfl⟩

theorem Zuy (b:Nat) (l:List UInt8) (i:Nat) (hi:i≤l.length) (hl:l.length≤2000000) (x:UInt8) (B:Kn):ZsD (pj J) 163 [ptr ⟨b,0,none⟩,.int .u8 x.toNat] B (cur b l i) (.bool (decide (l[i]? = some x))) (cur b l (if l[i]? = some x then i+1 else i)):=by
 refine cB 27 Tryz.func163 (h:=?_)
 refine Za (xA (h:=ZW [(0,_),(1,_),(4,_)] t3 (Zc (ZgX 19 (decide (l[i]?≠some x)) [0,1,4] (same _ _) mo kr ⟨rfl,rfl⟩ (fun _ _=>?_) ?_))))
 refine aM 0 rfl (h:=aT 1 rfl (Zag fun D=>ZgY 0 rfl rfl rfl ZvA rfl (ZmH _ _ _ oz oz _) r4) (h:=?_))
 refine aM 2 rfl (h:=Zav (d:=7) rfl (fun g1=>?_) (fun g1=>?_))
 try simp only [sQ,ne_eq] at g1
 refine aZ 3 rfl (h:=aZ 4 rfl (h:=aZ 5 rfl (h:=aZ 6 rfl (h:=aZ 7 rfl (h:=aZ 8 rfl (h:=aZ 9 rfl (h:=aZ 10 rfl (h:=aZ 11 rfl (h:=aZ 12 rfl (h:=aZ 13 rfl (h:=aPT 14 rfl (h:=Zx kr kr ?_))))))))))))
 exact ⟨rfl,rfl,rfl,ZiV rfl (by first | (simp [g1];done) | (rw [Bool.eq_iff_iff];simp [hc,← UInt8.toNat_inj];omega)),t3⟩
 try simp only [sQ,ne_eq] at g1
 obtain ⟨c,hc⟩ :∃c,l[i]? = some c:=⟨_,List.getElem?_eq_getElem oz⟩
 refine aM 3 rfl (h:=aNc 4 rfl (h:=aW 5 rfl Zgm (h:=aT 6 rfl (Zag fun D=>Zn rfl rfl lk9 rfl (atL 0 rfl rfl rfl) r4) (h:=aM 7 rfl (h:=aNc 8 rfl (h:=aW 9 rfl ZbN (h:=aT 10 rfl (Zag fun D=>Zn rfl rfl lk3 rfl (atL 0 rfl rfl rfl) r4) (h:=aT 11 rfl (Zag fun D=>Zds rfl rfl Tryz.underlying9 rfl rfl oz (by simpa using hc) r4) (h:=?_)))))))))
 refine aM 12 rfl (h:=Zvu 13 rfl (h:=aPF 14 rfl (h:=Zx kr kr ?_)))
 exact ⟨rfl,rfl,rfl,ZiV rfl (by first | (simp [g1];done) | (rw [Bool.eq_iff_iff];simp [hc,← UInt8.toNat_inj];omega)),t3⟩
 refine ZW [(0,_),(1,_),(4,_),(19,_)] t4 (Zb rfl (fun g2=>?_) (fun g2=>?_))
 try simp only [sQ,ne_eq] at g2
 refine Za (xA (h:=ZW [(0,_),(1,_),(4,_),(19,_)] t4 (Zd (Zl ?_))))
 exact e1 0 rfl t1 ⟨Ze (by simp [g2]),rfl,by rw [if_neg g2]⟩
 try simp only [sQ,ne_eq] at g2
 refine wSk (Za (xM (h:=xNc (h:=xW ZbN (h:=x1 lk3 0 (h:=Zk (ZfF rfl rfl rfl rfl (by first | exact Zbd oz oz | rfl) ?_)))))))
 refine xNc (h:=xW ZbN (h:=xS [_] 0 [_,_] sz3 (h:=ZB [(0,_),(1,_),(4,_),(19,_)] [_] t4 rfl (Za (xA (h:=ZW [(0,_),(1,_),(4,_),(19,_)] t4 (Zd ?_)))))))
 exact e1 0 rfl t1 ⟨Ze (by simp [g2]),rfl,by rw [if_pos g2];rfl⟩

theorem ZoT (b:Nat) (l:List UInt8) (i:Nat) (hi:i≤l.length) (hl:l.length≤2000000) (B:Kn):ZsD (pj J) 84 [ptr ⟨b,0,none⟩] B (cur b l i) (.tuple #[str (word l i),.bool (Zdm (word l i))]) (cur b l (i+(word l i).length)):=by
 refine cB 54 Tryz.func84 (h:=?_)
 refine Za (xA (h:=xA (h:=ZW [(0,_),(2,_),(3,_)] t3 (Za (xM (h:=xNc (h:=xW ZbN (h:=x1 lk3 0 (h:=xA (h:=ZW [(0,_),(2,_),(3,_),(4,_)] t4 (Zc (Zi (Zjw (α:=Nat) (fun k=>[(0,ptr ⟨b,0,none⟩),(4,.int .i64 i)]) (fun k=>[cur b l (i+k)]) (fun k Bx=>Bx=B∧i+k≤l.length∧((l.drop i).take k).all Za6=true) (fun k=>l.length - i - k) 0 t2 rfl (⟨rfl,oz,by simp⟩) (fun k B1 hle1 hI=>?_))))))))))))))
 obtain ⟨rfl,hk,ha⟩:=hI
 refine Zc (ZgX 24 (match l[i+k]? with | some c=>Za6 c | none=>false) [0,4] (same _ _) mo kr ⟨rfl,rfl⟩ (fun _ _=>?_) ?_)
 refine aM 0 rfl (h:=aT 1 rfl (Zag fun D=>ZgY 0 rfl rfl rfl ZvA rfl (ZmH _ _ _ oz oz _) r4) (h:=?_))
 refine aN 2 rfl (h:=aM 3 rfl (h:=Zav (d:=13) rfl (fun g1=>?_) (fun g1=>?_)))
 try simp only [sQ,ne_eq] at g1
 obtain ⟨c,hc⟩ :∃c,l[i+k]? = some c:=⟨_,List.getElem?_eq_getElem oz⟩
 refine aM 4 rfl (h:=aNc 5 rfl (h:=aW 6 rfl Zgm (h:=aT 7 rfl (Zag fun D=>Zn rfl rfl lk9 rfl (atL 0 rfl rfl rfl) r4) (h:=aM 8 rfl (h:=aNc 9 rfl (h:=aW 10 rfl ZbN (h:=aT 11 rfl (Zag fun D=>Zn rfl rfl lk3 rfl (atL 0 rfl rfl rfl) r4) (h:=aT 12 rfl (Zag fun D=>Zds rfl rfl Tryz.underlying9 rfl rfl oz hc r4) (h:=?_)))))))))
 refine aT 13 rfl (Zag fun D=>Zaf rfl rfl Zxj rfl (Zne _ _) r4) (h:=aPT 14 rfl (h:=Zx kr kr ?_))
 exact ⟨rfl,rfl,rfl,ZiV rfl (by first | (rw [hc];done) | (rw [List.getElem?_eq_none oz])),t2⟩
 try simp only [sQ,ne_eq] at g1
 refine aZ 4 rfl (h:=aZ 5 rfl (h:=aZ 6 rfl (h:=aZ 7 rfl (h:=aZ 8 rfl (h:=aZ 9 rfl (h:=aZ 10 rfl (h:=aZ 11 rfl (h:=aZ 12 rfl (h:=aZ 13 rfl (h:=aPF 14 rfl (h:=Zx kr kr ?_)))))))))))
 exact ⟨rfl,rfl,rfl,ZiV rfl (by first | (rw [hc];done) | (rw [List.getElem?_eq_none oz])),t2⟩
 refine ZW [(0,_),(4,_),(24,_)] t3 (Zb rfl (fun g2=>?_) (fun g2=>?_))
 try simp only [sQ,ne_eq] at g2
 refine wSk (Zi (Zf (xM (h:=xNc (h:=xW ZbN (h:=x1 lk3 0 (h:=Zk (ZfF rfl rfl rfl rfl (by first | exact Zbd oz oz | rfl) ?_))))))))
 refine xNc (h:=xW ZbN (h:=xS [_] 0 [_,_] sz3 (h:=ZM ?_)))
 obtain ⟨c,hc,hn⟩:=ZoB g2
 exact Zm6 (k+1) (by have:=Zbz hc;omega) ⟨rfl,by have:=Zbz hc;omega,ZmN (by simpa using hc) hn ha⟩ t2 rfl
 try simp only [sQ,ne_eq] at g2
 have hw:word l i=(l.drop i).take k:=Zqp ha (fun c hc=>by rw [hc] at g2;exact g2)
 have hwl:(word l i).length=k:=by rw [hw,List.length_take,List.length_drop];omega
 refine ZC (ZV (Zm5 (Zu (Zo (Za (xM (h:=xNc (h:=xW ZbN (h:=x1 lk3 0 (h:=xM (h:=Zk (ZfD rfl rfl rfl rfl (by first | exact Zbd oz oz | rfl) ?_))))))))))))
 refine xA (h:=ZW [(0,_),(4,_),(5,_),(24,_)] t4 (Zc (Z2 (same _ _) mo kr ⟨rfl,rfl⟩ (fun _ _=>?_))))
 refine aM 0 rfl (h:=aNc 1 rfl (h:=aW 2 rfl Zgm (h:=aT 3 rfl (Zag fun D=>Zn rfl rfl lk9 rfl (atL 0 rfl rfl rfl) r4) (h:=aM 4 rfl (h:=aM 5 rfl (h:=aNc 6 rfl (h:=aW 7 rfl ZbN (h:=aT 8 rfl (Zag fun D=>Zn rfl rfl lk3 rfl (atL 0 rfl rfl rfl) r4) (h:=aT 9 rfl (Zag fun D=>ZfE rfl rfl Tryz.underlying9 rfl (a:=i) (b:=i+k) ⟨_,_,rfl,rfl⟩ ⟨_,_,rfl,oz⟩ oz oz r4) (h:=?_))))))))))
 refine aM 10 rfl (h:=ZxG 11 rfl (h:=aM 12 rfl (h:=Zav (d:=50) rfl (fun g1=>?_) (fun g1=>?_))))
 try simp only [sQ,ne_eq] at g1
 refine aM 13 rfl (h:=ZtZ 14 rfl (h:=aPT 15 rfl (h:=aA 16 rfl (h:=aA 17 rfl (h:=Zx kr kr ?_)))))
 refine Zo (ZW [(0,_),(2,_),(3,_),(4,_),(5,_),(24,_)] t6 (Zd ?_))
 exact ZtO .ret (.inl rfl) [_,_] 0 rfl t2 ⟨Zh2 (by rw [Ze7,hw]) (Ze (by rw [Bool.eq_iff_iff];simp [Zdm,hwl];omega)),rfl,by rw [hwl]⟩
 try simp only [sQ,ne_eq] at g1
 refine aZ 13 rfl (h:=aZ 14 rfl (h:=aPF 15 rfl (h:=aA 16 rfl (h:=aA 17 rfl (h:=Zx kr kr ?_)))))
 refine Zo (ZW [(0,_),(2,_),(3,_),(4,_),(5,_),(24,_)] t6 (Zd ?_))
 exact ZtO .ret (.inl rfl) [_,_] 0 rfl t2 ⟨Zh2 (by rw [Ze7,hw]) (Ze (by rw [Bool.eq_iff_iff];simp [Zdm,hwl];omega)),rfl,by rw [hwl]⟩

theorem ZrG (b:Nat) (l:List UInt8) (i:Nat) (hi:i≤l.length) (hl:l.length≤2000000) (B:Kn):ZsD (pj J) 134 [ptr ⟨b,0,none⟩] B (cur b l i) (.tuple #[str (ZhC l i),.bool (ZlH l i)]) (cur b l (dom l i).2):=by
 refine cB 53 Tryz.func134 (h:=?_)
 refine Za (xA (h:=xA (h:=ZW [(0,_),(2,_),(3,_)] t3 (Za (xM (h:=xNc (h:=xW ZbN (h:=x1 lk3 0 (h:=xA (h:=ZW [(0,_),(2,_),(3,_),(4,_)] t4 (Zc (Za (xM (h:=Zk (ZhX 0 rfl rfl rfl Zwj rfl (ZoT _ _ _ oz oz _) ?_)))))))))))))))
 refine xM (h:=xE (h:=xE (h:=xA (h:=xA (h:=ZB [(0,_),(2,_),(3,_),(4,_),(6,_)] [_] t5 rfl (Za (xM (h:=xN (h:=ZW [(0,_),(2,_),(3,_),(4,_),(6,_),(20,_)] t6 (Zb rfl (fun g1=>?_) (fun g1=>?_)))))))))))
 try simp only [sQ,ne_eq] at g1
 refine Za (xA (h:=xA (h:=ZW [(0,_),(2,_),(3,_),(4,_),(6,_),(20,_)] t6 (Zd (Zl ?_)))))
 exact ZtO .ret (.inl rfl) [_,_] 0 rfl t2 ⟨Zh2 (by simp [ZhC,ZlG g1]) (Ze (by simp [ZlH,ZlG g1])),rfl,by rw [ZlG g1]⟩
 try simp only [sQ,ne_eq] at g1
 refine wSk (Zc (Za (xA (h:=ZW [(0,_),(2,_),(3,_),(4,_),(6,_),(7,_),(20,_)] t7 (Zi (Zjw (α:=Nat × Nat) (fun x=>[(0,ptr ⟨b,0,none⟩),(4,.int .i64 i),(7,.int .i64 x.1)]) (fun x=>[cur b l x.2]) (fun x Bx=>Bx=B∧1≤x.1∧x.1≤3∧i≤x.2∧x.2≤l.length∧dom l i=more (3 - x.1) l x.2) (fun x=>3 - x.1) (1,i+(word l i).length) t3 rfl (⟨rfl,oz,oz,oz,ZgW hi,ZrH g1⟩) (fun x B1 hle1 hI=>?_)))))))
 obtain ⟨rfl,hk1,hk3,hix,hxl,hd⟩:=hI
 refine Zc (Za (xM (h:=ZE (h:=xM (h:=Zt (d:=23) rfl (fun g2=>?_) (fun g2=>?_))))))
 try simp only [sQ,ne_eq] at g2
 refine xM (h:=Zk (ZhX 0 rfl rfl rfl ZwM rfl (Zuy _ _ _ oz oz 46 _) ?_))
 refine xT (h:=ZB [(0,_),(4,_),(7,_),(26,_)] [_] t4 rfl (Zb rfl (fun g3=>?_) (fun g3=>?_)))
 try simp only [sQ,ne_eq] at g3
 rw [if_pos g3]
 have hx2:=Zbz g3
 refine wSk (Zc (Zi (Za (xM (h:=Zk (ZhX 0 rfl rfl rfl Zwj rfl (ZoT _ _ _ oz oz _) ?_))))))
 refine xM (h:=xE (h:=xE (h:=xA (h:=xA (h:=ZB [(0,_),(4,_),(7,_),(9,_),(26,_)] [_] t5 rfl (Za (xM (h:=xN (h:=ZW [(0,_),(4,_),(7,_),(9,_),(26,_),(35,_)] t6 (Zb rfl (fun g4=>?_) (fun g4=>?_)))))))))))
 try simp only [sQ,ne_eq] at g4
 refine Za (xA (h:=xA (h:=ZW [(0,_),(2,_),(3,_),(4,_),(7,_),(9,_),(26,_),(35,_)] t8 (Zd (Zy (Zl (Zs1 (Zy (Zl ?_)))))))))
 have hdd:=hd.trans (Zq9 oz g3 g4)
 exact ZtO .ret (.inl rfl) [_,_] 0 rfl t2 ⟨Zh2 (by simp [ZhC,hdd]) (Ze (by simp [ZlH,hdd])),rfl,by rw [hdd]⟩
 try simp only [sQ,ne_eq] at g4
 refine ZT (ZM (Zo (Zf (xM (h:=Zk (ZfF rfl rfl rfl rfl (by first | exact Zbd oz oz | rfl) ?_))))))
 refine xA (h:=?_)
 exact Zm6 (x.1+1,x.2+1+(word l (x.2+1)).length) (so) ⟨rfl,so,so,so,ZgW oz,by rw [hd,ZoY oz g3 g4];rw [show 3 - (x.1+1)=3 - x.1 - 1 from by omega]⟩ t3 rfl
 try simp only [sQ,ne_eq] at g3
 rw [if_neg g3]
 replace hd:=hd.trans (Zhf g3)
 refine ZC (ZV (Zm5 (Zu (Zo (Zc (Z2 (same _ _) mo kr ⟨rfl,rfl⟩ (fun _ _=>?_)))))))
 refine aM 0 rfl (h:=aNc 1 rfl (h:=aW 2 rfl Zgm (h:=aT 3 rfl (Zag fun D=>Zn rfl rfl lk9 rfl (atL 0 rfl rfl rfl) r4) (h:=aM 4 rfl (h:=aM 5 rfl (h:=aNc 6 rfl (h:=aW 7 rfl ZbN (h:=aT 8 rfl (Zag fun D=>Zn rfl rfl lk3 rfl (atL 0 rfl rfl rfl) r4) (h:=aT 9 rfl (Zag fun D=>ZfE rfl rfl Tryz.underlying9 rfl (a:=i) (b:=x.2) ⟨_,_,rfl,rfl⟩ ⟨_,_,rfl,rfl⟩ oz oz r4) (h:=?_))))))))))
 refine aM 10 rfl (h:=aNc 11 rfl (h:=aW 12 rfl ZbN (h:=aT 13 rfl (Zag fun D=>Zn rfl rfl lk3 rfl (atL 0 rfl rfl rfl) r4) (h:=aM 14 rfl (h:=aT 15 rfl (Zag fun D=>ZfD rfl rfl rfl rfl (by first | exact Zbd oz oz | rfl) r4) (h:=?_))))))
 refine ZtZ 16 rfl (h:=aA 17 rfl (h:=aA 18 rfl (h:=Zx kr kr ?_)))
 refine Zo (ZW [(0,_),(2,_),(3,_),(4,_),(7,_),(26,_)] t6 (Zd ?_))
 exact ZtO .ret (.inl rfl) [_,_] 0 rfl t2 ⟨Zh2 (by simp [ZhC,hd]) (Ze (by rw [Bool.eq_iff_iff];simp [ZlH,hd];omega)),rfl,by rw [hd]⟩
 try simp only [sQ,ne_eq] at g2
 replace hd:dom l i=(true,x.2):=hd.trans (by rw [show 3 - x.1=0 from by omega];rfl)
 refine xP (h:=xP (h:=xF (h:=ZW [(0,_),(4,_),(7,_),(26,_)] t4 (Zb (t:=false) rfl (fun h=>Bool.noConfusion h) (fun _=>ZC (ZV (Zm5 (Zu (Zo (Zc (Z2 (same _ _) mo kr ⟨rfl,rfl⟩ (fun _ _=>?_))))))))))))
 refine aM 0 rfl (h:=aNc 1 rfl (h:=aW 2 rfl Zgm (h:=aT 3 rfl (Zag fun D=>Zn rfl rfl lk9 rfl (atL 0 rfl rfl rfl) r4) (h:=aM 4 rfl (h:=aM 5 rfl (h:=aNc 6 rfl (h:=aW 7 rfl ZbN (h:=aT 8 rfl (Zag fun D=>Zn rfl rfl lk3 rfl (atL 0 rfl rfl rfl) r4) (h:=aT 9 rfl (Zag fun D=>ZfE rfl rfl Tryz.underlying9 rfl (a:=i) (b:=x.2) ⟨_,_,rfl,rfl⟩ ⟨_,_,rfl,rfl⟩ oz oz r4) (h:=?_))))))))))
 refine aM 10 rfl (h:=aNc 11 rfl (h:=aW 12 rfl ZbN (h:=aT 13 rfl (Zag fun D=>Zn rfl rfl lk3 rfl (atL 0 rfl rfl rfl) r4) (h:=aM 14 rfl (h:=aT 15 rfl (Zag fun D=>ZfD rfl rfl rfl rfl (by first | exact Zbd oz oz | rfl) r4) (h:=?_))))))
 refine ZtZ 16 rfl (h:=aA 17 rfl (h:=aA 18 rfl (h:=Zx kr kr ?_)))
 refine Zo (ZW [(0,_),(2,_),(3,_),(4,_),(7,_),(26,_)] t6 (Zd ?_))
 exact ZtO .ret (.inl rfl) [_,_] 0 rfl t2 ⟨Zh2 (by simp [ZhC,hd]) (Ze (by rw [Bool.eq_iff_iff];simp [ZlH,hd];omega)),rfl,by rw [hd]⟩

theorem Zbo (l:List UInt8) (hl:l.length≤2000000) (B:Kn):Z6 (pj J) 44 [str l] B (.bool (ZZ l)):=by
 refine cB 16 Tryz.func44 (h:=?_)
 refine Za (xA (h:=ZW [(0,_),(2,_)] t2 (Za (xM (h:=xB [(0,_)] [_,_] [_,_] ZuI Zqo (h:=xAl [_,_] Zqo (h:=fun b0=>xS [_,_] 0 [_,_] ZuE (h:=ZB [(0,_),(2,_),(3,_)] [_] t3 rfl (Za (Zk (ZhX 0 rfl rfl rfl Zwj rfl (ZoT _ _ 0 oz hl _) ?_)))))))))))
 refine xM (h:=xE (h:=xE (h:=xA (h:=xA (h:=ZB [(0,_),(2,_),(3,_),(5,_)] [_] t4 rfl (Za (xM (h:=xM (h:=Zt (d:=13) rfl (fun g1=>?_) (fun g1=>?_))))))))))
 refine Zk (ZgY 0 rfl rfl rfl ZvA rfl (ZmH _ _ (0+(word l 0).length) (ZgW (Nat.zero_le _)) oz _) ?_)
 refine xT (h:=xA (h:=ZW [(0,_),(2,_),(3,_),(5,_)] t4 (Zd ?_)))
 exact eR t1 ⟨Ze (by rw [Zc6];simp [g1];try omega),rfl,rfl⟩
 refine xP (h:=xF (h:=xA (h:=ZW [(0,_),(2,_),(3,_),(5,_)] t4 (Zd ?_))))
 exact eR t1 ⟨Ze (by rw [Zc6];simp [g1];try omega),rfl,rfl⟩

abbrev ZvC (s : Cells) (q : Option Addr) (m cp : Nat) (ls : List (List UInt8)) : Prop := ZhM s q m cp 9 1 (ls.map str)
theorem Zjz {s:Cells} {q:Option Addr} {m cp:Nat} {ls:List (List UInt8)} {a:List UInt8} (h:ZhM s q m cp 9 1 (ls.map str ++ [str a])):ZvC s q m cp (ls ++ [a]):=by
 unfold ZvC
 rw [List.map_append]
 exact h
theorem Zti (l:List UInt8) (hl:l.length≤2000000) (x0:UInt8) (B:Kn):Zyi (pj J) 94 [str l,.int .u8 x0.toNat] B (fun v s=>∃q cp,v = .slice q (cut x0 l).length cp∧ZvC s q (cut x0 l).length cp (cut x0 l)):=by
 refine cB 35 Tryz.func94 (h:=?_)
 refine Za (xA (h:=ZW [(0,_),(1,_),(4,_)] t3 (Za (xBs [] [] Tryz.underlying99 sz9 zo9 (h:=fun b0=>xA (h:=ZB [(0,_),(1,_),(4,_),(5,_)] [_] t4 rfl (Za (xA (h:=ZW [(0,_),(1,_),(4,_),(5,_),(6,_)] t5 (Zc (Za (xA (h:=ZW [(0,_),(1,_),(4,_),(5,_),(6,_),(7,_)] t6 (Zi (Zjw (α:=CutSt) (fun x=>[(0,str l),(1,.int .u8 x0.toNat),(5,.slice x.q x.m x.cp),(6,.int .i64 x.f),(7,.int .i64 x.i)]) (fun x=>[x.s]) (fun x Bx=>Bx=B∧x.f≤x.i∧x.i≤l.length∧x.m≤x.i∧x.m=x.ps.length∧ZvC x.s x.q x.m x.cp x.ps∧cut x0 l=x.ps ++ glue ((l.take x.i).drop x.f) (cut x0 (l.drop x.i))) (fun x=>l.length - x.i) ⟨0,0,0,[],some ⟨b0,0,none⟩,0,Zar b0 [] 9⟩ t5 rfl (⟨rfl,Nat.le_refl _,Nat.zero_le _,Nat.le_refl _,rfl,ZhM.lit rfl,by simp [ZmB (ZmK x0 l)]⟩) (fun x B1 hle1 hI=>?_))))))))))))))))
 obtain ⟨rfl,hf,hi,hn,hm,hv,hc⟩:=hI
 refine Zc (Za (xM (h:=xM (h:=xVs Tryz.underlying9 (h:=ZE (h:=ZW [(0,_),(1,_),(5,_),(6,_),(7,_),(12,_)] t6 (Zb rfl (fun g1=>?_) (fun g1=>?_))))))))
 try simp only [sQ,ne_eq] at g1
 obtain ⟨c,hx⟩ :∃c,l[x.i]? = some c:=⟨_,List.getElem?_eq_getElem oz⟩
 refine wSk (Zc (Zi (Za (xM (h:=xM (h:=Zk (Zds rfl rfl Tryz.underlying9 rfl rfl oz hx ?_)))))))
 refine xM (h:=Zju (h:=ZW [(0,_),(1,_),(5,_),(6,_),(7,_),(12,_),(19,_)] t7 (Zb rfl (fun g2=>?_) (fun g2=>?_))))
 try simp only [sQ,ne_eq] at g2
 refine Za (xM (h:=xM (h:=xM (h:=xM (h:=Zk (ZfE rfl rfl Tryz.underlying9 rfl (a:=x.f) (b:=x.i) ⟨_,_,rfl,rfl⟩ ⟨_,_,rfl,rfl⟩ oz oz ?_))))))
 refine xBs [(0,_)] [_] Tryz.underlying99 sz9 zo9 (h:=fun b1=>Zk (ZeF 0 rfl (hv) rfl rfl Zt4 ZuF rfl rfl (Zb6.box 1 rfl) rfl rfl oz (fun l1 p1 c1 hv1=>?_)))
 refine xA (h:=ZB [(0,_),(1,_),(5,_),(6,_),(7,_),(12,_),(19,_)] [_,_] t7 rfl (Zn3 [0] rfl (Zf (xM (h:=Zk (ZfF rfl rfl rfl rfl (by first | exact Zbd oz oz | rfl) ?_))))))
 refine xA (h:=ZM (Zo (Zf (xM (h:=Zk (ZfF rfl rfl rfl rfl (by first | exact Zbd oz oz | rfl) ?_))))))
 refine xA (h:=?_)
 exact Zm6 ⟨x.i+1,x.i+1,x.m+1,x.ps ++ [(l.take x.i).drop x.f],p1,c1,l1⟩ (so) ⟨rfl,Nat.le_refl _,so,so,by simp [hm],Zjz hv1,by rw [hc,ZtT hx (ZvS g2),List.append_assoc];simp [Zrw,ZmB (ZmK x0 _)]⟩ t5 rfl
 try simp only [sQ,ne_eq] at g2
 refine ZT (ZM (Zo (Zf (xM (h:=Zk (ZfF rfl rfl rfl rfl (by first | exact Zbd oz oz | rfl) ?_))))))
 refine xA (h:=?_)
 exact Zm6 ⟨x.i+1,x.f,x.m,x.ps,x.q,x.cp,x.s⟩ (so) ⟨rfl,so,so,so,hm,hv,by rw [hc,ZrJ hx (ZvR g2),Zps,Zon hx hf]⟩ t5 rfl
 try simp only [sQ,ne_eq] at g1
 obtain hie:x.i=l.length:=by omega
 rw [hie,List.take_length,List.drop_length] at hc
 refine ZC (ZV (Zm5 (Zu (Zo (Za (xM (h:=xM (h:=xM (h:=Zk (ZfE rfl rfl Tryz.underlying9 rfl (a:=x.f) (b:=l.length) ⟨_,_,rfl,rfl⟩ rfl oz oz ?_))))))))))
 refine xBs [(0,_)] [_] Tryz.underlying99 sz9 zo9 (h:=fun b1=>Zk (ZeF 0 rfl (hv) rfl rfl Zt4 ZuF rfl rfl (Zb6.box 1 rfl) rfl rfl oz (fun l2 p2 c2 hv2=>?_)))
 refine xA (h:=ZB [(0,_),(1,_),(4,_),(5,_),(6,_),(7,_),(12,_)] [_,_] t7 rfl (Zd ?_))
 have he:cut x0 l=x.ps ++ [l.drop x.f]:=by rw [hc];simp [cut,glue]
 have hlen:(cut x0 l).length=x.m+1:=by rw [he];simp [hm]
 exact Zdl .ret (.inl rfl) [_] [0] rfl ⟨rfl,trivial⟩ ⟨rfl,_,rfl,p2,c2,by rw [hlen];rfl,by rw [hlen,he];rw [List.take_length] at hv2;exact Zjz hv2⟩

theorem ZjM (l:List UInt8) (hl:l.length≤2000000) (B:Kn):Z6 (pj J) 53 [str l] B (.bool (Zcz l)):=by
 refine cB 27 Tryz.func53 (h:=?_)
 refine Za (xA (h:=ZW [(0,_),(2,_)] t2 (Za (xM (h:=Zk (Zud rfl rfl ZyA rfl (Zti _ hl 46 _) ?_))))))
 rintro _ s ⟨q,cp,rfl,hv⟩
 refine xA (h:=ZB [(0,_),(2,_),(3,_)] [_] t3 rfl (Zc (Za (xA (h:=ZW [(0,_),(2,_),(3,_),(4,_)] t4 (Zi (Zjw (α:=Nat) (fun k=>[(0,str l),(3,.slice q (cut 46 l).length cp),(4,.int .i64 k)]) (fun k=>[s]) (fun k Bx=>Bx=B∧k≤(cut 46 l).length∧((cut 46 l).take k).all ZZ=true) (fun k=>(cut 46 l).length - k) 0 t3 rfl (⟨rfl,Nat.zero_le _,by simp⟩) (fun k B1 hle1 hI=>?_))))))))
 obtain ⟨rfl,hk,ha⟩:=hI
 have hcc:=Zkv 46 l
 refine Zc (Za (xM (h:=xM (h:=xV Tryz.underlying99 (h:=ZE (h:=ZW [(0,_),(3,_),(4,_),(10,_)] t4 (Zb rfl (fun g1=>?_) (fun g1=>?_))))))))
 try simp only [sQ,ne_eq] at g1
 obtain ⟨y,hy⟩ :∃y,(cut 46 l)[k]? = some y:=⟨_,List.getElem?_eq_getElem oz⟩
 have hyl:=ZlI 46 l y (List.mem_of_getElem? hy)
 obtain ⟨a,rfl,hsp,hat⟩:=hv.at (B:=B1) (L:=[s]) (i:=k) (v:=str y) 0 rfl (by rw [List.getElem?_map,hy];rfl)
 refine wSk (Zc (Zi (Za (xM (h:=xM (h:=Zk (ZbH rfl rfl Tryz.underlying99 sz9 rfl rfl oz oz ?_)))))))
 refine Zk (Zn rfl rfl lk9 rfl (Zvm hat) (xR Zsy rfl (ZbP _ oz _) (h:=?_)))
 refine xN (h:=ZW [(0,_),(3,_),(4,_),(10,_),(18,_)] t5 (Zb rfl (fun g2=>?_) (fun g2=>?_)))
 try simp only [sQ,ne_eq] at g2
 refine Za (xA (h:=ZW [(0,_),(2,_),(3,_),(4,_),(10,_),(18,_)] t6 (Zd (Zy (Zl (Zs1 (Zy (Zl ?_))))))))
 exact eR t1 ⟨Ze (by simp [Zcz,ZkC hy g2]),rfl,rfl⟩
 try simp only [sQ,ne_eq] at g2
 refine ZT (ZM (Zo (Zf (xM (h:=Zk (ZfF rfl rfl rfl rfl (by first | exact Zbd oz oz | rfl) ?_))))))
 refine xA (h:=?_)
 exact Zm6 (k+1) oz ⟨rfl,oz,ZhJ hy g2 ha⟩ t3 rfl
 try simp only [sQ,ne_eq] at g1
 obtain hke:k=(cut 46 l).length:=by omega
 rw [hke,List.take_length] at ha
 refine ZC (ZV (Zm5 (Zu (Zo (Za (xM (h:=xV Tryz.underlying99 (h:=Zb7 (h:=xM (h:=Zt (d:=22) rfl (fun g3=>?_) (fun g3=>?_)))))))))))
 try simp only [sQ,ne_eq] at g3
 refine xM (h:=xVs Tryz.underlying9 (h:=Zb7 (h:=xT (h:=xA (h:=ZW [(0,_),(2,_),(3,_),(4,_),(10,_)] t5 (Zd ?_))))))
 exact eR t1 ⟨Ze (by rw [Bool.eq_iff_iff];simp [Zcz,ha];omega),rfl,rfl⟩
 try simp only [sQ,ne_eq] at g3
 refine xP (h:=xP (h:=xP (h:=xF (h:=xA (h:=ZW [(0,_),(2,_),(3,_),(4,_),(10,_)] t5 (Zd ?_))))))
 exact eR t1 ⟨Ze (by rw [Bool.eq_iff_iff];simp [Zcz,ha];omega),rfl,rfl⟩

theorem Zer (q:Option Addr) (cp:Nat) (us:List DUser) (u:Str) (B:Kn) (hu:SlK B q cp 3 Zr us):Z6 (pj J) 22 [.slice q us.length cp,str u] B (.int .i64 (Zei us u)):=by
 refine cB 20 Tryz.func22 (h:=?_)
 have hun:=hu.len
 refine Za (xA (h:=Zc (Za (xA (h:=Zi (Zw (α:=Nat) [0,1] (fun k=>[(5,.int .i64 k)]) [] (fun k=>[]) (fun k Bx=>Bx=B∧k≤us.length∧∀x,x∈us.take k→x.name≠u) (fun k=>us.length - k) 0 t1 rfl (⟨rfl,Nat.zero_le _,by simp⟩) (fun k B1 hle1 hI=>?_)))))))
 obtain ⟨rfl,hk,ha⟩:=hI
 refine ZB [(0,_),(1,_),(5,_)] [] t3 rfl (Zc (Za (xM (h:=xM (h:=xV Tryz.underlying30 (h:=ZE (h:=Zb rfl (fun g1=>?_) (fun g1=>?_))))))))
 try simp only [sQ,ne_eq] at g1
 refine wSk (Zc (Zi (Za (xM (h:=xM (h:=?_))))))
 obtain ⟨x,hx⟩:=ZU (xs:=us) (i:=k) om
 obtain ⟨bb3,oo3,rfl⟩:=hu.base hx
 obtain ⟨_,⟨rfl,hb4,hb4b⟩,hc4⟩:=hu.elem hx
 refine xIx Tryz.underlying30 Zek (h:=xW Zb4 (h:=y1 lk9 hc4 0 (h:=xM (h:=Zdz (h:=Zb rfl (fun g2=>?_) (fun g2=>?_))))))
 try simp only [sQ,ne_eq] at g2
 refine Za (xM (h:=xA (h:=Zd (Zy (Zl (ZO (Zy (Zl ?_))))))))
 exact eR t1 ⟨ZF (Zrj hx g2 ha).symm,rfl,rfl⟩
 try simp only [sQ,ne_eq] at g2
 refine ZT (ZM (Zo (Zf (xM (h:=xD (h:=xA (h:=?_)))))))
 exact ZA (k+1) [] so2 ⟨rfl,oz,Zba hx ha g2⟩ t3 rfl
 try simp only [sQ,ne_eq] at g1
 refine ZC (ZV (ZG (Zu (Zo (Za (xA (h:=Zd ?_)))))))
 exact eR t1 ⟨ZF (Zpf (Zbk oz ha)).symm,rfl,rfl⟩

theorem ZlE (q q':Option Addr) (cp cp':Nat) (xs ys:List Str) (B:Kn) (ha:SlK B q cp 1 ZbU xs) (hb:SlK B q' cp' 1 ZbU ys):Z6 (pj J) 156 [.slice q xs.length cp,.slice q' ys.length cp'] B (.bool (decide (xs=ys))):=by
 refine cB 26 Tryz.func156 (h:=?_)
 have han:=ha.len
 have hbn:=hb.len
 refine Za (xA (h:=Zc (Za (xM (h:=xV Tryz.underlying99 (h:=xM (h:=xV Tryz.underlying99 (h:=ZaO (h:=Zb rfl (fun g1=>?_) (fun g1=>?_))))))))))
 try simp only [sQ,ne_eq] at g1
 refine Za (xA (h:=Zd (Zl ?_)))
 exact eR t1 ⟨Ze (Zgo g1),rfl,rfl⟩
 try simp only [sQ,ne_eq] at g1
 refine wSk (Zc (Za (xA (h:=Zi (Zw (α:=Nat) [0,1,10] (fun k=>[(5,.int .i64 k)]) [] (fun k=>[]) (fun k Bx=>Bx=B∧k≤xs.length∧xs.take k=ys.take k) (fun k=>xs.length - k) 0 t1 rfl (⟨rfl,Nat.zero_le _,by simp⟩) (fun k B1 hle1 hI=>?_))))))
 obtain ⟨rfl,hk,he⟩:=hI
 refine ZB [(0,_),(1,_),(5,_),(10,_)] [] t4 rfl (Zc (Za (xM (h:=xM (h:=xV Tryz.underlying99 (h:=ZE (h:=Zb rfl (fun g2=>?_) (fun g2=>?_))))))))
 try simp only [sQ,ne_eq] at g2
 refine wSk (Zc (Zi (Zc (Z2 (same _ _) mo kr ⟨rfl,rfl⟩ (fun _ _=>?_)))))
 refine aM 0 rfl (h:=aM 1 rfl (h:=?_))
 obtain ⟨x,hx⟩:=ZU (xs:=xs) (i:=k) om
 obtain ⟨bb3,oo3,rfl⟩:=ha.base hx
 obtain ⟨_,⟨rfl,hb4⟩,hc4⟩:=ha.elem hx
 refine aIx 2 rfl Tryz.underlying99 sz9 (h:=aT 3 rfl (Zag fun D=>Zn rfl rfl lk9 rfl (hc4 _ 0 _ rfl) r4) (h:=aM 4 rfl (h:=aM 5 rfl (h:=?_))))
 obtain ⟨y,hy⟩:=ZU (xs:=ys) (i:=k) om
 obtain ⟨bb6,oo6,rfl⟩:=hb.base hy
 obtain ⟨_,⟨rfl,hb7⟩,hc7⟩:=hb.elem hy
 refine aIx 6 rfl Tryz.underlying99 sz9 (h:=aT 7 rfl (Zag fun D=>Zn rfl rfl lk9 rfl (hc7 _ 0 _ rfl) r4) (h:=Zfa 8 rfl (h:=Zx kr kr ?_)))
 refine Zo (Zb rfl (fun g3=>?_) (fun g3=>?_))
 try simp only [sQ,ne_eq] at g3
 refine Za (xA (h:=Zd (Zy (Zl (ZO (Zy (Zl ?_)))))))
 exact eR t1 ⟨Ze (ZeR hx hy g3),rfl,rfl⟩
 try simp only [sQ,ne_eq] at g3
 refine ZT (ZM (Zo (Zf (xM (h:=xD (h:=xA (h:=?_)))))))
 exact ZA (k+1) [] so2 ⟨rfl,oz,ZbO hx hy g3 he⟩ t4 rfl
 try simp only [sQ,ne_eq] at g2
 refine ZC (ZV (ZG (Zu (Zo (Za (xA (h:=Zd ?_)))))))
 exact eR t1 ⟨Ze (eqT oz oz he),rfl,rfl⟩

theorem Zre (q:Option Addr) (cp:Nat) (xs:List Str) (u:Str) (B:Kn) (ha:SlK B q cp 1 ZbU xs):Z6 (pj J) 160 [.slice q xs.length cp,str u] B (.bool (decide (u∈xs))):=by
 refine cB 18 Tryz.func160 (h:=?_)
 have han:=ha.len
 refine Za (xA (h:=Zc (Za (xA (h:=Zi (Zw (α:=Nat) [0,1] (fun k=>[(5,.int .i64 k)]) [] (fun k=>[]) (fun k Bx=>Bx=B∧k≤xs.length∧∀x,x∈xs.take k→x≠u) (fun k=>xs.length - k) 0 t1 rfl (⟨rfl,Nat.zero_le _,by simp⟩) (fun k B1 hle1 hI=>?_)))))))
 obtain ⟨rfl,hk,hn⟩:=hI
 refine ZB [(0,_),(1,_),(5,_)] [] t3 rfl (Zc (Za (xM (h:=xM (h:=xV Tryz.underlying99 (h:=ZE (h:=Zb rfl (fun g1=>?_) (fun g1=>?_))))))))
 try simp only [sQ,ne_eq] at g1
 refine wSk (Zc (Zi (Za (xM (h:=xM (h:=?_))))))
 obtain ⟨x,hx⟩:=ZU (xs:=xs) (i:=k) om
 obtain ⟨bb3,oo3,rfl⟩:=ha.base hx
 obtain ⟨_,⟨rfl,hb4⟩,hc4⟩:=ha.elem hx
 refine xIx Tryz.underlying99 sz9 (h:=y1 lk9 hc4 0 (h:=xM (h:=Zdz (h:=Zb rfl (fun g2=>?_) (fun g2=>?_)))))
 try simp only [sQ,ne_eq] at g2
 refine Za (xA (h:=Zd (Zy (Zl (ZO (Zy (Zl ?_)))))))
 exact eR t1 ⟨Ze (Zyq hx g2),rfl,rfl⟩
 try simp only [sQ,ne_eq] at g2
 refine ZT (ZM (Zo (Zf (xM (h:=xD (h:=xA (h:=?_)))))))
 exact ZA (k+1) [] so2 ⟨rfl,oz,Zba hx hn g2⟩ t3 rfl
 try simp only [sQ,ne_eq] at g1
 refine ZC (ZV (ZG (Zu (Zo (Za (xA (h:=Zd ?_)))))))
 exact eR t1 ⟨Ze (Zyr (Zbk oz hn)),rfl,rfl⟩

theorem Znk (q:Option Addr) (cp:Nat) (xs:List Str) (B:Kn) (ha:SlK B q cp 1 ZbU xs):Z6 (pj J) 128 [.slice q xs.length cp] B (.bool (ZcA xs)):=by
 refine cB 29 Tryz.func128 (h:=?_)
 have han:=ha.len
 refine Za (xA (h:=Zc (Za (xA (h:=Zi (Zw (α:=Nat) [0] (fun k=>[(3,.int .i64 k)]) [] (fun k=>[]) (fun k Bx=>Bx=B∧k≤xs.length∧(xs.take k).all ZZ=true∧(xs.take k).Nodup) (fun k=>xs.length - k) 0 t1 rfl (⟨rfl,Nat.zero_le _,by simp,by simp⟩) (fun k B1 hle1 hI=>?_)))))))
 obtain ⟨rfl,hk,hv,hn⟩:=hI
 refine ZB [(0,_),(3,_)] [] t2 rfl (Zc (Za (xM (h:=xM (h:=xV Tryz.underlying99 (h:=ZE (h:=Zb rfl (fun g1=>?_) (fun g1=>?_))))))))
 try simp only [sQ,ne_eq] at g1
 refine wSk (Zc (Zi (Zc (Z2 (same _ _) mo kr ⟨rfl,rfl⟩ (fun _ _=>?_)))))
 refine aM 0 rfl (h:=aM 1 rfl (h:=?_))
 obtain ⟨x,hx⟩:=ZU (xs:=xs) (i:=k) om
 obtain ⟨bb3,oo3,rfl⟩:=ha.base hx
 obtain ⟨_,⟨rfl,hb4⟩,hc4⟩:=ha.elem hx
 refine aIx 2 rfl Tryz.underlying99 sz9 (h:=aT 3 rfl (Zag fun D=>Zn rfl rfl lk9 rfl (hc4 _ 0 _ rfl) r4) (h:=aT 4 rfl (Zag fun D=>Zaf rfl rfl Zsy rfl (ZbP _ om2 _) r4) (h:=?_)))
 refine aN 5 rfl (h:=aM 6 rfl (h:=Zav (d:=16) rfl (fun g2=>?_) (fun g2=>?_)))
 try simp only [sQ,ne_eq] at g2
 refine aZ 7 rfl (h:=aZ 8 rfl (h:=aZ 9 rfl (h:=aZ 10 rfl (h:=aZ 11 rfl (h:=aZ 12 rfl (h:=aZ 13 rfl (h:=aZ 14 rfl (h:=aPT 15 rfl (h:=Zx kr kr ?_)))))))))
 refine Zo (Zb (t:=true) rfl (fun _=>Za (xA (h:=Zd (Zy (Zl (ZO (Zy (Zl ?_)))))))) (fun h=>Bool.noConfusion h))
 exact eR t1 ⟨Ze (ZgE hx g2),rfl,rfl⟩
 try simp only [sQ,ne_eq] at g2
 refine aM 7 rfl (h:=aM 8 rfl (h:=?_))
 obtain ⟨hq6,q6,cp6,hv6,hr6⟩:=ha.cutE 0 k om om
 have hr6n:=hr6.len
 refine aT 9 rfl (Zag fun D=>Zoa (a:=0) (b:=k) hv6 om hq6 rfl rfl Tryz.underlying99 sz9 rfl rfl ⟨_,_,rfl,by first | omega | (simp;done) | (simp;omega)⟩ r4) (h:=?_)
 refine aM 10 rfl (h:=aM 11 rfl (h:=aIx 12 rfl Tryz.underlying99 sz9 (h:=aT 13 rfl (Zag fun D=>Zn rfl rfl lk9 rfl (hc4 _ 0 _ rfl) r4) (h:=aT 14 rfl (Zag fun D=>Zaf rfl rfl ZwP rfl (Zre _ _ _ _ _ hr6) r4) (h:=aPF 15 rfl (h:=Zx kr kr ?_))))))
 refine Zo (Zb rfl (fun g3=>?_) (fun g3=>?_))
 try simp only [sQ,ne_eq] at g3
 refine Za (xA (h:=Zd (Zy (Zl (ZO (Zy (Zl ?_)))))))
 exact eR t1 ⟨Ze (ZgD hx (by simpa using g3)),rfl,rfl⟩
 try simp only [sQ,ne_eq] at g3
 refine ZT (ZM (Zo (Zf (xM (h:=xD (h:=xA (h:=?_)))))))
 exact ZA (k+1) [] so2 ⟨rfl,oz,ZhJ hx g2 hv,ZoR hx hn (by simpa using g3)⟩ t2 rfl
 try simp only [sQ,ne_eq] at g1
 refine ZC (ZV (ZG (Zu (Zo (Za (xM (h:=xV Tryz.underlying99 (h:=Zb7 (h:=xA (h:=Zd ?_))))))))))
 exact eR t1 ⟨Ze (Zhe oz hv hn),rfl,rfl⟩

theorem ZjL (q:Option Addr) (cp:Nat) (x:DLetter) (B:Kn) (ha:SlK B q cp 1 ZbU x.to_) (h1:x.fr.length≤2000000) (h2:x.text.length≤2000000):Z6 (pj J) 95 [.agg #[str x.fr,.slice q x.to_.length cp,str x.text]] B (.bool (Zco x)):=by
 refine cB 23 Tryz.func95 (h:=?_)
 refine Za (xBx [_,_,_] (h:=fun b1=>xA (h:=tL1 (Za (xW Zpy (h:=x1 lk9 0 (h:=xR Zsy rfl (ZbP _ om2 _) (h:=?_))))))))
 refine xM (h:=Zt (d:=6) rfl (fun g1=>?_) (fun g1=>?_))
 try simp only [sQ,ne_eq] at g1
 refine xW ZlB (h:=x1 Zj7 0 (h:=xR Zxe rfl (Znk _ _ _ _ ha) (h:=xT (h:=xM (h:=Zt (d:=11) rfl (fun g2=>?_) (fun g2=>?_))))))
 try simp only [sQ,ne_eq] at g2
 refine xW ZlB (h:=x1 Zj7 0 (h:=xV Tryz.underlying99 (h:=Zdx (h:=xT (h:=xM (h:=Zt (d:=17) rfl (fun g3=>?_) (fun g3=>?_)))))))
 try simp only [sQ,ne_eq] at g3
 refine xW Zpx (h:=x1 lk9 0 (h:=xVs Tryz.underlying9 (h:=Zb7 (h:=xT (h:=xA (h:=Zd ?_))))))
 exact eR t1 ⟨Ze (by rw [Bool.eq_iff_iff];simp [Zco,g1,g2,g3];try omega),rfl,rfl⟩
 try simp only [sQ,ne_eq] at g3
 refine xP (h:=xP (h:=xP (h:=xP (h:=xF (h:=xA (h:=Zd ?_))))))
 exact eR t1 ⟨Ze (by rw [Bool.eq_iff_iff];simp [Zco,g1,g2,g3];try omega),rfl,rfl⟩
 try simp only [sQ,ne_eq] at g2
 refine xP (h:=xP (h:=xP (h:=xP (h:=xF (h:=xM (h:=xP (h:=xP (h:=xP (h:=xP (h:=xF (h:=xA (h:=Zd ?_))))))))))))
 exact eR t1 ⟨Ze (by rw [Bool.eq_iff_iff];simp [Zco,g1,g2];try omega),rfl,rfl⟩
 try simp only [sQ,ne_eq] at g1
 refine xP (h:=xP (h:=xP (h:=xF (h:=xM (h:=xP (h:=xP (h:=xP (h:=xP (h:=xF (h:=xM (h:=xP (h:=xP (h:=xP (h:=xP (h:=xF (h:=xA (h:=Zd ?_)))))))))))))))))
 exact eR t1 ⟨Ze (by rw [Bool.eq_iff_iff];simp [Zco,g1];try omega),rfl,rfl⟩

theorem Ztr (q:Option Addr) (cp:Nat) (xs:List Str) (v:Str) (B:Kn) (ha:SlK B q cp 1 ZbU xs):Z6 (pj J) 217 [.slice q xs.length cp,str v] B (.int .i64 (Zwc xs v)):=by
 refine cB 19 Tryz.func217 (h:=?_)
 have han:=ha.len
 refine Za (xA (h:=Zc (Za (xM (h:=xV Tryz.underlying99 (h:=xM (h:=Zi (Zw (α:=Nat) [0,1,7] (fun k=>[(8,.int .i64 k)]) [] (fun k=>[]) (fun k Bx=>Bx=B∧k≤xs.length∧∀x,x∈xs.take k→decide (x=v)=false) (fun k=>xs.length - k) 0 t1 rfl (⟨rfl,Nat.zero_le _,by simp⟩) (fun k B1 hle1 hI=>?_)))))))))
 obtain ⟨rfl,hk,hn⟩:=hI
 refine ZB [(0,_),(1,_),(7,_),(8,_)] [] t4 rfl (Za (ZE (h:=Zc (Zb rfl (fun g1=>?_) (fun g1=>?_)))))
 try simp only [sQ,ne_eq] at g1
 refine wSk (Zc (Zi (Za (xM (h:=xA (h:=Za (xM (h:=xM (h:=xM (h:=?_))))))))))
 obtain ⟨x,hx⟩:=ZU (xs:=xs) (i:=k) om
 obtain ⟨bb3,oo3,rfl⟩:=ha.base hx
 obtain ⟨_,⟨rfl,hb4⟩,hc4⟩:=ha.elem hx
 refine xIx Tryz.underlying99 sz9 (h:=y1 lk9 hc4 0 (h:=Zdz (h:=Zb rfl (fun g2=>?_) (fun g2=>?_))))
 try simp only [sQ,ne_eq] at g2
 refine Za (xM (h:=xA (h:=Zd (Zy (Zl (ZO (Zy (Zl ?_))))))))
 exact eR t1 ⟨ZF (ZgS hx (by simp [g2]) hn).symm,rfl,rfl⟩
 try simp only [sQ,ne_eq] at g2
 refine ZT (ZM (Zo (Zf (xD (h:=xM (h:=?_))))))
 exact ZA (k+1) [] so2 ⟨rfl,oz,Zba hx hn (by simp [Ne.symm g2])⟩ t4 rfl
 try simp only [sQ,ne_eq] at g1
 refine ZC (ZV (ZG (Zu (Zo (Za (xA (h:=Zd ?_)))))))
 exact eR t1 ⟨ZF (Zev (Zbk oz hn)).symm,rfl,rfl⟩

theorem ZnF (q:Option Addr) (cp:Nat) (xs:List Str) (v:Str) (B:Kn) (ha:SlK B q cp 1 ZbU xs):Z6 (pj J) 195 [.slice q xs.length cp,str v] B (.bool (decide (v∈xs))):=by
 refine cB 9 Tryz.func195 (h:=?_)
 refine Za (xA (h:=Za (xM (h:=xM (h:=xR Zwp rfl (Ztr _ _ _ _ _ ha) (h:=Zdy (h:=xA (h:=Zd ?_))))))))
 exact eR t1 ⟨Ze (by rw [Bool.eq_iff_iff];simp [Zrk]),rfl,rfl⟩

theorem Zk4 (q:Option Addr) (cp:Nat) (xs:List Str) (B:Kn) (ha:SlK B q cp 1 ZbU xs):Z6 (pj J) 164 [.slice q xs.length cp] B (.bool (decide (1≤xs.length) && ZcA xs)):=by
 refine cB 31 Tryz.func164 (h:=?_)
 have han:=ha.len
 refine Za (xA (h:=Zc (Za (xM (h:=xV Tryz.underlying99 (h:=ZE (h:=xM (h:=Zt (d:=8) rfl (fun g1=>?_) (fun g1=>?_)))))))))
 try simp only [sQ,ne_eq] at g1
 refine xP (h:=xP (h:=xP (h:=xT (h:=Zb (t:=true) rfl (fun _=>Za (xA (h:=Zd (Zl ?_)))) (fun h=>Bool.noConfusion h)))))
 exact eR t1 ⟨Ze (by simp;omega),rfl,rfl⟩
 try simp only [sQ,ne_eq] at g1
 refine xM (h:=xV Tryz.underlying99 (h:=Zdx (h:=xF (h:=Zb rfl (fun g2=>?_) (fun g2=>?_)))))
 try simp only [sQ,ne_eq] at g2
 refine Za (xA (h:=Zd (Zl ?_)))
 exact eR t1 ⟨Ze (by simp [ZcA];omega),rfl,rfl⟩
 try simp only [sQ,ne_eq] at g2
 refine wSk (Zc (Za (xM (h:=xV Tryz.underlying99 (h:=xM (h:=Zi (Zw (α:=Nat) [0,12,13,14] (fun k=>[(15,.int .i64 k)]) [] (fun k=>[]) (fun k Bx=>Bx=B∧k≤xs.length∧(xs.take k).all ZZ=true∧(xs.take k).Nodup) (fun k=>xs.length - k) 0 t1 rfl (⟨rfl,Nat.zero_le _,by simp,by simp⟩) (fun k B1 hle1 hI=>?_))))))))
 obtain ⟨rfl,hk,hv,hn⟩:=hI
 refine ZB [(0,_),(12,_),(13,_),(14,_),(15,_)] [] t5 rfl (Za (ZE (h:=Zc (Zb rfl (fun g3=>?_) (fun g3=>?_)))))
 try simp only [sQ,ne_eq] at g3
 refine wSk (Zc (Zi (Za (xM (h:=?_)))))
 obtain ⟨x,hx⟩:=ZU (xs:=xs) (i:=k) om
 obtain ⟨bb3,oo3,rfl⟩:=ha.base hx
 obtain ⟨_,⟨rfl,hb4⟩,hc4⟩:=ha.elem hx
 refine xIx Tryz.underlying99 sz9 (h:=y1 lk9 hc4 0 (h:=xA (h:=xA (h:=Za (xM (h:=xR ZrE rfl (Zbo _ om2 _) (h:=?_)))))))
 refine xN (h:=xM (h:=Zt (d:=23) rfl (fun g4=>?_) (fun g4=>?_)))
 try simp only [sQ,ne_eq] at g4
 refine xP (h:=xP (h:=xP (h:=xP (h:=xP (h:=xT (h:=Zb (t:=true) rfl (fun _=>Za (xA (h:=Zd (Zy (Zl (ZO (Zy (Zl ?_)))))))) (fun h=>Bool.noConfusion h)))))))
 exact eR t1 ⟨Ze (by rw [← ZgE hx g4,Bool.and_false]),rfl,rfl⟩
 try simp only [sQ,ne_eq] at g4
 refine xM (h:=xM (h:=?_))
 obtain ⟨hq6,q6,cp6,hv6,hr6⟩:=ha.cutE 0 k om om
 have hr6n:=hr6.len
 refine Zk (Zoa (a:=0) (b:=k) hv6 om hq6 rfl rfl Tryz.underlying99 sz9 rfl rfl ⟨_,_,rfl,by first | omega | (simp;done) | (simp;omega)⟩ ?_)
 refine xM (h:=xR Zwy rfl (ZnF _ _ _ _ _ hr6) (h:=xF (h:=Zb rfl (fun g5=>?_) (fun g5=>?_))))
 try simp only [sQ,ne_eq] at g5
 refine Za (xA (h:=Zd (Zy (Zl (ZO (Zy (Zl ?_)))))))
 exact eR t1 ⟨Ze (by rw [← ZgD hx (by simpa using g5),Bool.and_false]),rfl,rfl⟩
 try simp only [sQ,ne_eq] at g5
 refine ZT (ZM (Zo (Zf (xD (h:=xM (h:=?_))))))
 exact ZA (k+1) [] so2 ⟨rfl,oz,ZhJ hx g4 hv,ZoR hx hn (by simpa using g5)⟩ t5 rfl
 try simp only [sQ,ne_eq] at g3
 refine ZC (ZV (ZG (Zu (Zo (Za (xA (h:=Zd ?_)))))))
 exact eR t1 ⟨Ze (by rw [← Zhe oz hv hn];simp;omega),rfl,rfl⟩

theorem Zkf (q:Option Addr) (cp:Nat) (x:DLetter) (B:Kn) (ha:SlK B q cp 1 ZbU x.to_) (h1:x.fr.length≤2000000) (h2:x.text.length≤2000000):Z6 (pj J) 136 [.agg #[str x.fr,.slice q x.to_.length cp,str x.text]] B (.bool (Zco x)):=by
 refine cB 17 Tryz.func136 (h:=?_)
 refine Za (xBx [_,_,_] (h:=fun b1=>xA (h:=tL1 (Za (xW Zpy (h:=x1 lk9 0 (h:=xR ZrE rfl (Zbo _ om2 _) (h:=?_))))))))
 refine xM (h:=Zt (d:=6) rfl (fun g1=>?_) (fun g1=>?_))
 refine xW ZlB (h:=x1 Zj7 0 (h:=xR ZwL rfl (Zk4 _ _ _ _ ha) (h:=xT (h:=xM (h:=Zt (d:=11) rfl (fun g2=>?_) (fun g2=>?_))))))
 refine xW Zpx (h:=x1 lk9 0 (h:=xVs Tryz.underlying9 (h:=Zb7 (h:=xT (h:=xA (h:=Zd ?_))))))
 exact eR t1 ⟨Ze (by rw [Zep];simp [g1,g2]),rfl,rfl⟩
 refine xP (h:=xP (h:=xP (h:=xP (h:=xF (h:=xA (h:=Zd ?_))))))
 exact eR t1 ⟨Ze (by rw [Zep];simp [g1,g2]),rfl,rfl⟩
 refine xP (h:=xP (h:=xP (h:=xF (h:=xM (h:=xP (h:=xP (h:=xP (h:=xP (h:=xF (h:=xA (h:=Zd ?_)))))))))))
 exact eR t1 ⟨Ze (by rw [Zep];simp [g1]),rfl,rfl⟩

theorem Zk1 (aq:Option Addr) (cq:Nat) (q:DQueue) (B:Kn) (hq:SlK B aq cq 4 ZK q.items):Z6 (pj J) 55 [.agg #[.int .i64 q.next,.slice aq q.items.length cq]] B (.bool (ZaU q)):=by
 refine cB 48 Tryz.func55 (h:=?_)
 have hqn:=hq.len
 refine Za (xBx [_,_] (h:=fun b1=>xA (h:=tL1 (Za (xA (h:=Zc (Za (xA (h:=Zi (Zw (α:=Nat × Int) [0,1] (fun p=>[(3,.int .i64 p.2),(4,.int .i64 p.1)]) [] (fun p=>[]) (fun p Bx=>Bx=B∧p.1≤q.items.length∧ZdB 0 q.items=ZdB p.2 (q.items.drop p.1)∧0≤p.2∧p.2≤99) (fun p=>q.items.length - p.1) (0,0) t2 rfl (⟨rfl,Nat.zero_le _,rfl,by decide,by decide⟩) (fun p B2 hle2 hI=>?_)))))))))))
 obtain ⟨rfl,hk,hs,hl0,hl1⟩:=hI
 refine ZB [(0,_),(1,_),(3,_),(4,_)] [_] t4 rfl (Zc (Za (xM (h:=xW ZbD (h:=x1 Zia 0 (h:=xV Tryz.underlying32 (h:=ZE (h:=Zb rfl (fun g1=>?_) (fun g1=>?_)))))))))
 try simp only [sQ,ne_eq] at g1
 refine wSk (Zc (Zi (Za (xW ZbD (h:=x1 Zia 0 (h:=xM (h:=?_)))))))
 obtain ⟨x,hx⟩:=ZU (xs:=q.items) (i:=p.1) om
 obtain ⟨bb4,oo4,rfl⟩:=hq.base hx
 obtain ⟨_,⟨qi5,ci5,rfl,hi5,hb5,hb5b⟩,hc5⟩:=hq.elem hx
 have hi5n:=hi5.len
 refine xIx Tryz.underlying32 Zbl (h:=?_)
 replace hs:=ZoC hs hx
 refine yL [_,_,_,_] Zeo hc5 0 (h:=xAl [_,_,_,_] ZeV (h:=fun b6=>xS [_,_,_,_] 1 [_,_,_,_] Zbl (h:=tL2 (Zc (Za (xW Zd6 (h:=x1 lk3 1 (h:=xM (h:=xD (h:=xR Zqm rfl (Ze4 _ _ _ _) (h:=xN (h:=xM (h:=Zt (d:=24) rfl (fun g2=>?_) (fun g2=>?_))))))))))))))
 try simp only [sQ,ne_eq] at g2
 refine xP (h:=xP (h:=xP (h:=xP (h:=xP (h:=xP (h:=xP (h:=xP (h:=xP (h:=xT (h:=Zb (t:=true) rfl (fun _=>Za (xA (h:=Zd (Zl (Zy (Zl (ZO (Zy (Zl ?_))))))))) (fun h=>Bool.noConfusion h)))))))))))
 exact eR t1 ⟨Ze (Zmj (by rw [hs,if_neg];intro h;simp [h.1] at g2)),rfl,rfl⟩
 try simp only [sQ,ne_eq] at g2
 simp only [Bool.and_eq_true,decide_eq_true_eq] at g2
 refine xW Zd5 (h:=x1 lk9 1 (h:=xW Zci (h:=x1 Zj7 1 (h:=xW Zft (h:=x1 lk9 1 (h:=xB [(0,_),(1,_),(2,_)] [_,_,_] [_,_,_] ZuH Zt6 (h:=xR Zyz rfl (ZjL _ _ ⟨x.fr,x.left,x.text⟩ _ hi5 oa oa) (h:=?_))))))))
 refine xN (h:=xF (h:=Zb rfl (fun g3=>?_) (fun g3=>?_)))
 try simp only [sQ,ne_eq] at g3
 refine Za (xA (h:=Zd (Zl (Zy (Zl (ZO (Zy (Zl ?_))))))))
 exact eR t1 ⟨Ze (Zmj (by rw [hs,if_neg];intro h;rw [Zet,g3] at h;cases h.2)),rfl,rfl⟩
 try simp only [sQ,ne_eq] at g3
 refine wSk (Zf (xW Zd6 (h:=x1 lk3 1 (h:=xA (h:=ZM (Zo (Zf (xM (h:=xD (h:=xA (h:=?_)))))))))))
 exact ZA (p.1+1,x.id) [0] so2 ⟨rfl,so,by rw [hs,if_pos ⟨g2,g3⟩],so,so⟩ t4 rfl
 try simp only [sQ,ne_eq] at g1
 rw [ZpS oz,ZdB] at hs
 refine ZC (ZV (ZG (Zu (Zo (Za (xW ZfW (h:=x1 lk3 0 (h:=xM (h:=xD (h:=xR Zqm rfl (Ze4 _ _ _ _) (h:=xM (h:=Zt (d:=42) rfl (fun g1=>?_) (fun g1=>?_)))))))))))))
 try simp only [sQ,ne_eq] at g1
 refine xW ZbD (h:=x1 Zia 0 (h:=xV Tryz.underlying32 (h:=Zb7 (h:=xT (h:=xA (h:=Zd ?_))))))
 exact eR t1 ⟨Ze (by rw [← Zmi hs,Bool.eq_iff_iff];simp [g1,g1];try omega),rfl,rfl⟩
 try simp only [sQ,ne_eq] at g1
 refine xP (h:=xP (h:=xP (h:=xP (h:=xF (h:=xA (h:=Zd ?_))))))
 exact eR t1 ⟨Ze (by rw [← Zmi hs,Bool.eq_iff_iff];simp [g1,g1];try omega),rfl,rfl⟩

theorem Zan (aq:Option Addr) (cq:Nat) (q:DQueue) (B:Kn) (hq:SlK B aq cq 4 ZK q.items):Zv (pj J) 60 [.agg #[.int .i64 q.next,.slice aq q.items.length cq]] B [] (fun v B' Ls=>∃l a cp,Ls=[l]∧v = .agg #[.int .i64 q.next,.slice a q.items.length cp]∧ZP (B'.less B) l a cp 101 4 ZK q.items):=by
 refine cB 34 Tryz.func60 (h:=?_)
 have hqn:=hq.len
 refine Za (xBx [_,_] (h:=fun b1=>xAl [_,_] Zqn (h:=fun b2=>tL2 (Za (xW ZfW (h:=x1 lk3 0 (h:=xBs [] [] Tryz.underlying32 Zbl ZeV (h:=fun b3=>xB [(0,_),(1,_)] [_,_] [_,_] ZxR Zqn (h:=xAl [_,_] Zqn (h:=fun b4=>xS [_,_] 3 [_,_] ZsV (h:=tL4 (Zc (Za (xA (h:=Zi (Zw (α:=Gh DItem) [0,1,2,3] (fun g=>[(4,.int .i64 g.k)]) [2,3] (fun g=>[g.l,Zar b4 [.int .i64 q.next,.slice g.a g.xs.length g.c] 34]) (fun g Bx=>g.k≤q.items.length∧g.xs=q.items.take g.k∧ZP (Bx.less B) g.l g.a g.c 101 4 ZK g.xs) (fun g=>q.items.length - g.k) ⟨0,0,_,_,_,[]⟩ t1 rfl (⟨Nat.zero_le _,rfl,.lit0⟩) (fun g B5 hle5 hI=>?_)))))))))))))))))
 obtain ⟨hk,hxs,hv⟩:=hI
 have hxn:=congrArg List.length hxs
 rw [List.length_take] at hxn
 replace hq:=up1 hle5 hq
 refine ZB [(0,_),(1,_),(2,_),(3,_),(4,_)] [_,_,_,_] t5 rfl (Zc (Za (xM (h:=xW ZbD (h:=x1 Zia 0 (h:=xV Tryz.underlying32 (h:=ZE (h:=Zb rfl (fun g1=>?_) (fun g1=>?_)))))))))
 try simp only [sQ,ne_eq] at g1
 refine wSk (Zc (Zi (Za (xW ZbD (h:=x1 Zia 0 (h:=xM (h:=?_)))))))
 obtain ⟨x,hx⟩:=ZU (xs:=q.items) (i:=g.k) om
 obtain ⟨bb7,oo7,rfl⟩:=hq.base hx
 obtain ⟨_,⟨qi8,ci8,rfl,hi8,hb8,hb8b⟩,hc8⟩:=hq.elem hx
 have hi8n:=hi8.len
 refine xIx Tryz.underlying32 Zbl (h:=yL [_,_,_,_] Zeo hc8 0 (h:=xAl [_,_,_,_] ZeV (h:=fun b9=>xS [_,_,_,_] 4 [_,_,_,_] Zbl (h:=tL5 (Za (xBs [] [] Tryz.underlying99 sz9 zo9 (h:=fun b10=>xW Zci (h:=x1 Zj7 4 (h:=Zk (Zbu (R:=ZbU) 5 rfl (ZP.lit0 (R:=ZbU)) rfl rfl rfl Zt4 ZuF rfl rfl rfl hi8.rows ZbU.one rfl om (fun l11 p11 c11 hv11=>?_)))))))))))
 refine xW Zci (h:=xS [_] 4 [_,_,_,_] Zvw (h:=tL6 (Zub 5 rfl hv11 ZbU.any om3 hle5 (fun B12 hle12 hr12f=>?_))))
 have hr12:=hr12f.mono ZbU.mono Kn.less_le
 replace hv:=hv.mono ZK.mono (Kn.less_mono hle12)
 have hr12n:=hr12.len
 refine Zf (xW ZbD (h:=x1 Zia 3 (h:=xL [_,_,_,_] Zeo 4 (h:=xBs [(0,_)] [_,_,_,_] Tryz.underlying32 Zbl ZeV (h:=fun b13=>Zk (Ze0 (z:=⟨x.id,x.fr,x.text,x.left⟩) (R:=ZK) 2 rfl hv rfl rfl rfl Zwg ZxP rfl rfl (Zb6.box 6 rfl) rfl rfl (⟨_,_,rfl,hr12f,by first | assumption | omega | (simp;done) | (simp;omega),by first | assumption | omega | (simp;done) | (simp;omega)⟩) om (fun l14 p14 c14 hv14=>?_)))))))
 refine xW ZbD (h:=xS [_] 3 [_,_] ZvY (h:=ZM (Zo (Zf (xM (h:=xD (h:=xA (h:=?_))))))))
 exact ZA ⟨g.k+1,0,l14,p14,c14,(g.xs ++ [⟨x.id,x.fr,x.text,x.left⟩])⟩ [0,1,2,3] so2 ⟨so,by simp only [];rw [Zbe hx,hxs],hv14⟩ t5 rfl
 try simp only [sQ,ne_eq] at g1
 have hxe:g.xs=q.items:=by rw [hxs];exact List.take_of_length_le oz
 refine ZC (ZV (ZG (Zu (Zo (Za (xL [_,_] ZkL 3 (h:=xS [_,_] 1 [_,_] ZsV (h:=tL4 (Zd ?_)))))))))
 exact Zdl .ret (.inl rfl) [_] [2] rfl ⟨⟨_,rfl,.inr ⟨[_,_],ZkL,ZcF 1 rfl rfl rfl,rfl⟩⟩,trivial⟩ ⟨_,_,_,rfl,by rw [← hxe];rfl,hxe ▸ hv⟩

theorem Zlq (q:Option Addr) (cp:Nat) (x:DItem) (B:Kn) (hx:SlK B q cp 1 ZbU x.left):Zv (pj J) 190 [.agg #[.int .i64 x.id,str x.fr,str x.text,.slice q x.left.length cp]] B [] (fun v B' Ls=>B'=B∧∃ins a c,Ls=[ins]∧v = .agg #[.int .i64 x.id,str x.fr,str x.text,.slice a x.left.length c]∧Zqi 9 ins a c x.left):=by
 refine cB 9 Tryz.func190 (h:=?_)
 have hxn:=hx.len
 refine Za (xBx [_,_,_,_] (h:=fun b1=>xAl [_,_,_,_] ZeV (h:=fun b2=>tL2 (Za (xBs [] [] Tryz.underlying99 sz9 zo9 (h:=fun b3=>xW Zci (h:=x1 Zj7 0 (h:=Zk (Zbu (R:=ZbU) 2 rfl (ZP.lit0 (R:=ZbU)) rfl rfl rfl Zt4 ZuF rfl rfl rfl hx.rows ZbU.one rfl om (fun l4 p4 c4 hv4=>?_))))))))))
 refine xW Zci (h:=xS [_] 0 [_,_,_,_] Zvw (h:=tL3 (Za (xL [_,_,_,_] Zeo 0 (h:=xS [_,_,_,_] 1 [_,_,_,_] Zbl (h:=tL3 (Zd ?_)))))))
 exact eN [2] rfl ⟨⟨_,rfl,.inr ⟨[_,_,_,_],Zeo,ZcF 1 rfl rfl rfl,rfl⟩⟩,trivial⟩ ⟨rfl,_,_,_,rfl,rfl,(hv4).anyK ZbU.any⟩

theorem ZnK (q:Option Addr) (m cp:Nat) (B:Kn):Zv (pj J) 189 [.slice q m cp] B [] (fun v B' Ls=>B'=B∧∃b,Ls=[Zar b [.slice q m cp] 32]∧v = .func (.func 205) #[] #[ptr ⟨b,0,none⟩]):=by
 refine cB 4 Tryz.func189 (h:=?_)
 refine Za (xBx [_] (h:=fun b1=>xA (h:=tL1 (Za (Zk (ZcQ (xs:=[]) (ys:=[_]) rfl rfl rfl rfl (xA (h:=Zd ?_))))))))
 exact eN [0] rfl t1 ⟨rfl,_,rfl,rfl⟩

theorem ZtW (l bc:Nat) (q:Option Addr) (cp:Nat) (xs:List DItem) (Inv:Nat→Kn→Cells→Prop) (s0:Cells) (B:Kn) (hq:SlK B q cp 4 ZK xs) (hcc:Zae B bc 0 [.slice q xs.length cp]) (h0:Inv xs.length B s0) (hround :∀(j:Nat) (i:Int) (x:DItem) (row:List Value) (B':Kn) (s:Cells),B.le B'→Inv (j+1) B' s→xs[j]? = some x→ZK B' row x→∃lp,(l,Obj.loop lp)∈s∧lp.params.size=2∧ZmQ (pj J) l lp.fn (Zgp lp.params lp.tmps [.int .i64 i,.agg row.toArray]) lp.assign lp.body B' s (fun B'' s'=>Inv j B'' s')):Zv (pj J) 205 [.func (.yield l) #[] #[],ptr ⟨bc,0,none⟩] B [s0] (fun v B' Ls=>∃s,Ls=[s]∧Inv 0 B' s):=by
 refine cB 19 Tryz.func205 (h:=?_)
 have hqn:=hq.len
 refine Za (Zk (Zn rfl rfl Zia rfl (hcc _ 0 _ rfl) (xV Tryz.underlying32 (h:=xU (h:=xA (h:=Zi (Zw (α:=Int × Cells) [0,1] (fun g=>[(3,.int .i64 g.1)]) [0] (fun g=>[g.2]) (fun g Bx=>-1≤g.1∧g.1<xs.length∧Inv (g.1+1).toNat Bx g.2) (fun g=>(g.1+1).toNat) ((xs.length:Int) - 1,s0) t1 rfl (⟨so,so,by rw [show ((xs.length:Int) - 1+1).toNat=xs.length from by omega];exact h0⟩) (fun g B1 hle1 hI=>?_))))))))
 obtain ⟨hk1,hk,hI⟩:=hI
 replace hq:=up1 hle1 hq
 replace hcc:=hcc.mono hle1
 refine ZB [(0,_),(1,_),(3,_)] [_] t3 rfl (Zc (Za (xM (h:=Zdy (h:=Zb rfl (fun g1=>?_) (fun g1=>?_))))))
 try simp only [sQ,ne_eq] at g1
 refine wSk (Zc (Zi (Za (xM (h:=xM (h:=Zk (Zn rfl rfl Zia rfl (hcc _ 0 _ rfl) (xM (h:=?_)))))))))
 obtain ⟨x,hx⟩:=Zsk (xs:=xs) (i:=g.1) om om
 obtain ⟨bb3,oo3,rfl⟩:=hq.base hx
 obtain ⟨_,⟨qi4,ci4,rfl,hi4,hb4,hb4b⟩,hc4⟩:=hq.elem hx
 have hi4n:=hi4.len
 refine xIx Tryz.underlying32 Zbl (h:=?_)
 obtain ⟨lp,hl,hs,hr⟩:=hround g.1.toNat g.1 x _ _ g.2 (oy) (by rw [show g.1.toNat+1=(g.1+1).toNat from by omega];exact hI) hx ⟨_,_,rfl,oy,oy,oy⟩
 refine yL [_,_,_,_] Zeo hc4 0 (h:=Zk (Zob (j:=0) rfl hl rfl rfl rfl rfl hs.symm hr (fun Bc sc hlec hIc=>xN (h:=tL1 (Zb rfl (fun g2=>by cases g2) (fun g2=>?_))))))
 try simp only [sQ,ne_eq] at g2
 refine ZT (ZM (Zo (Zf (xM (h:=xU (h:=xA (h:=?_)))))))
 exact ZA (g.1 - 1,sc) [0] so2 ⟨so,so,by simp only [];rw [show (g.1 - 1+1).toNat=g.1.toNat from by omega];exact hIc⟩ t3 rfl
 try simp only [sQ,ne_eq] at g1
 refine ZC (ZV (ZG (Zu ?_)))
 exact Zdl .normal (.inr rfl) [] [0] rfl trivial ⟨_,rfl,by rw [show (g.1+1).toNat=0 from by omega] at hI;exact hI⟩

theorem Zk7 (q:Option Addr) (cp:Nat) (x:DQueue) (B:Kn) (hx:SlK B q cp 4 ZK x.items):Zv (pj J) 148 [.agg #[.int .i64 x.next,.slice q x.items.length cp]] B [] (fun v B' Ls=>∃s,Ls=[s]∧Zgu 9 232 v x.items s):=by
 refine ZgJ 17 Tryz.func148 rfl rfl rfl (Nat.le_of_ble_eq_true rfl) ?_
 refine Zcp (xBx [_,_] (h:=fun b1=>xA (h:=Zl5 [(0,_),(1,_),(2,_)] [_] t3 rfl (Zcp (xAl [_] ZvH (h:=fun b2=>Zl5 [(0,_),(1,_),(2,_),(3,_)] [_,_] t4 rfl (Zse (Zcp (xW ZbD (h:=x1 Zia 0 (h:=xC ZwE rfl (ZnK _ _ _ _) (h:=?_))))))))))))
 rintro _ B3 _ hle3 ⟨rfl,b3,rfl,rfl⟩
 refine Zl5 [(0,_),(1,_),(2,_),(3,_),(8,_)] [_,_,_] t5 rfl (Zoo (ZvX 2 rfl (fun B4 hle4 hm4=>?_)))
 replace hx:=up1 hle4 hx
 have hcc:=ZaT hm4
 refine ZvW [1] rfl (Zl6 (J:=fun B' L'=>∃v s,L'=[Zar b2 [v] 193,s]∧Zgu 9 232 v x.items s) (cap:=[_]) rfl Zwt (fun lp l hTn hTS hps hasg hbd hst hlp=>?_) (fun r B9 L9 hle9 hJ=>?_))
 refine Zv.mono (ZtW l _ _ _ x.items (fun j B9 s9=>∃v cells,s9.Perm ((l,Obj.loop lp) :: (Zar b2 [v] 193 ++ cells))∧Zgu 9 232 v (x.items.drop j) cells) _ _ hx hcc ⟨.pointer none,[],by simp,by rw [List.drop_length];exact ⟨rfl,rfl⟩⟩ ?_) ?_
 rintro j i y row B9 s9 hle9 ⟨v,cells,hp,hl⟩ hy hrow
 obtain ⟨qy,cy,rfl,hy5,hy6,hy7⟩:=hrow
 have hy5n:=hy5.len
 obtain ⟨p9,rfl⟩:=hl.ptr
 obtain ⟨hA,hN⟩:=ZrS (a:=9) (b:=10) (x:=.int .i64 i) (y:=.agg #[.int .i64 y.id,str y.fr,str y.text,.slice qy y.left.length cy]) hTS hTn rfl rfl
 refine ⟨lp,hp.mem_iff.2 (List.mem_cons_self ..),by rw [hps];rfl,?_⟩
 rw [hps,hasg,hbd]
 refine ZjQ (L:=[Zar b2 [.pointer p9] 193,cells]) (lp:=lp) hN [(3,_),(9,_),(10,_)] (hA.sub t3) (by simpa using hp) hst ?_
 refine Zf (xAl [_,_,_,_] ZeV (h:=fun b4=>xS [_,_,_,_] 3 [_,_,_,_] Zbl (h:=⟨rfl,rfl,rfl,(tL4 (Zi (Z2 (keeps _ [1,3] _) mo kr ⟨Kn.le.refl _,Zbr.refl _ _⟩ (fun _ _=>?_))))⟩)))
 refine aT 0 rfl (ZR fun D B L hI=>Zaj [_,_,_,_] rfl rfl Zeo rfl (ZcF 3 (hI.2.2.1.trans rfl) rfl rfl) r4) (h:=aT 2 rfl (ZR fun D B L hI=>Zn rfl rfl Zth rfl (atL 1 (hI.2.1.trans rfl) rfl rfl) r4) (h:=ZL 1 kr rfl kr (ZaK rfl rfl ZwD rfl (Zlq _ _ y _ hy5) ?_)))
 rintro _ B5 _ hle5 ⟨rfl,ins5,a5,c5,rfl,rfl,hs5⟩
 refine ⟨⟨Kn.le.refl _,t2⟩,(aT 3 rfl (ZR fun D B L hI=>ZaB (parts:=[(0,_),(1,_)]) [_,_,_,_,_] [_,_,_,_,_] rfl rfl Zv2 ZvG rfl rfl rfl r4) (h:=ZL 4 kr rfl kr (Zuu (l:=[_,_,_,_,_]) rfl rfl rfl rfl (fun b6=>?_))))⟩
 refine ⟨⟨Kn.le.refl _,t2⟩,(Zak 5 kr rfl kr kr kr (Z0 [_] 1 [_] rfl rfl ZvZ rfl rfl rfl rfl rfl rfl rfl rfl ?_))⟩
 refine ZM (⟨rfl,rfl,(l,Obj.loop lp) :: (Zar b2 [ptr ⟨b6,0,none⟩] 193 ++ (Zar b6 ([.int .i64 y.id,str y.fr,str y.text,.slice a5 y.left.length c5] ++ [.pointer p9]) 232 ++ (ins5 ++ cells))),Zar b4 [.int .i64 y.id,str y.fr,str y.text,.slice qy y.left.length cy] 101,?_,_,_,.refl _,?_⟩)
 refine (Z5 [0,1,5,4,2] _ _ _ rfl).trans ?_
 rw [hlp]
 simp [Zar]
 rw [ZpR hy]
 exact ⟨_,_,_,_,_,rfl,.refl _,⟨_,_,rfl,hs5,oy,oy,oy⟩,hl⟩
 rintro _ B9 _ hle9 ⟨s9,rfl,v,cells,hp,hl⟩
 exact ⟨[Zar b2 [v] 193,cells],_,rfl,by simpa using hp,v,cells,rfl,by simpa using hl⟩
 obtain ⟨v,s9,rfl,hl⟩:=hJ
 refine ZM (Zo (Za (x1 Zth 0 (h:=xA (h:=tL3 (Zd ?_))))))
 exact ⟨.inl rfl,r,2,rfl,rfl,[_],[_],t1,⟨_,List.perm_append_comm⟩,_,rfl,hl⟩

theorem ZoI (nx:Int) (v:Value) (xs:List DItem) (cells:Cells) (B:Kn) (hn:xs.length≤2000000) (hv:Zgu 9 232 v xs cells):Zv (pj J) 147 [.int .i64 nx,v] B [cells] (fun v B' Ls=>B'=B∧∃l q c,Ls=[l]∧v = .agg #[.int .i64 nx,.slice q xs.length c]∧ZaV l q c 101 4 (Za8 9) xs):=by
 refine cB 27 Tryz.func147 (h:=?_)
 obtain ⟨p,rfl⟩:=hv.ptr
 refine Za (xAl [_,_] Zqn (h:=fun b1=>tL2 (Za (xM (h:=xBs [] [] Tryz.underlying32 Zbl ZeV (h:=fun b2=>xB [(0,_),(1,_)] [_,_] [_,_] ZxR Zqn (h:=xAl [_,_] Zqn (h:=fun b3=>xS [_,_] 3 [_,_] ZsV (h:=tL4 (Zc (Za (xM (h:=xA (h:=Zi (Zw (α:=QOf) [0,1,4,5] (fun g=>[(6,.pointer g.p)]) [0,2,3] (fun g=>[g.cells,g.l,Zar b3 [.int .i64 nx,.slice g.q g.ys.length g.c] 34]) (fun g Bx=>Bx=B∧g.ys ++ g.xs=xs∧ZaV g.l g.q g.c 101 4 (Za8 9) g.ys∧Zgu 9 232 (.pointer g.p) g.xs g.cells) (fun g=>g.xs.length) ⟨p,[],xs,_,_,_,_⟩ t1 rfl (⟨rfl,rfl,.lit0,hv⟩) (fun g B4 hle4 hI=>?_))))))))))))))))
 obtain ⟨rfl,hxs,hvd,hl⟩:=hI
 refine ZB [(0,_),(1,_),(4,_),(5,_),(6,_)] [_,_,_,_] t5 rfl (Zc (Za (xM (h:=Zk (Zuf rfl rfl rfl rfl rfl (ZrA Tryz.underlying193) (Zb rfl (fun g1=>?_) (fun g1=>?_)))))))
 obtain ⟨y,ys,b8,q8,c8,np,ins8,rest8,hp8,hrest,hperm,hy5,hy6,hy7,hy8,hl8⟩:=hl.more (by simpa using g1)
 rw [hp8]
 have hlen:=congrArg List.length hxs
 rw [List.length_append,hrest,List.length_cons] at hlen
 replace hlen:g.ys.length+1≤2000000:=by omega
 refine Ziw 0 rfl hperm (tL6 (wSk (Zc (Zi (Z2 (keeps _ [0,3] _) mo kr ⟨Kn.le.refl _,Zbr.refl _ _⟩ (fun _ _=>?_))))))
 refine aW 0 rfl ZbD (h:=aT 1 rfl (ZR fun D B L hI=>Zn rfl rfl Zia rfl (atL 3 (hI.2.2.1.trans rfl) rfl rfl) r4) (h:=aM 2 rfl (h:=aNc 3 rfl (h:=aW 4 rfl ZtA (h:=aT 5 rfl (ZR fun D B L hI=>Zaj [_,_,_,_] rfl rfl Zeo rfl (ZcF 0 (hI.2.1.trans rfl) rfl rfl) r4) (h:=ZL 6 kr rfl kr (ZJ (parts:=[(0,_)]) [_,_,_,_] rfl rfl Tryz.underlying32 Zbl ZeV rfl rfl rfl rfl rfl (fun b5=>?_))))))))
 refine ⟨⟨Kn.le.refl _,t2⟩,(ZL 7 kr rfl kr (Zuv (R:=Za8 9) (z:=y) 2 4 rfl rfl rfl hvd rfl rfl rfl Zwg ZxP rfl rfl (Zb6.box 6 rfl) rfl rfl ⟨_,_,rfl,hy5,hy6,hy7,hy8⟩ oz (fun l9 q9 c9 hv9=>?_)))⟩
 refine ⟨⟨Kn.le.refl _,t2⟩,(aW 8 rfl ZbD (h:=Zak 9 kr rfl kr kr kr (Z0 [_] 3 [_,_] rfl rfl ZvY rfl rfl rfl rfl rfl rfl rfl rfl ?_)))⟩
 refine ZM (Zo (Zf (xM (h:=xNc (h:=xW Ztz (h:=x1 Zth 0 (h:=xA (h:=?_))))))))
 exact ZA ⟨np,g.ys ++ [y],ys,l9,q9,c9,rest8⟩ [5,1,2,3] (by rw [hrest];simp) ⟨rfl,by rw [← hxs,hrest];simp,hv9,hl8⟩ t5 rfl
 rw [hl.done (by simpa using g1),List.append_nil] at hxs
 subst hxs
 refine ZC (ZV (ZG (Zu (Zo (Za (xL [_,_] ZkL 3 (h:=xS [_,_] 1 [_,_] ZsV (h:=tL4 (Zd ?_)))))))))
 exact eN [2] rfl ⟨⟨_,rfl,.inr ⟨[_,_],ZkL,ZcF 1 rfl rfl rfl,rfl⟩⟩,trivial⟩ ⟨rfl,_,_,_,rfl,rfl,hvd⟩

theorem ZjT (q:Option Addr) (cp:Nat) (x:DQueue) (B:Kn) (hx:SlK B q cp 4 ZK x.items):Zv (pj J) 110 [.agg #[.int .i64 x.next,.slice q x.items.length cp]] B [] (fun v B' Ls=>∃l q c,Ls=[l]∧v = .agg #[.int .i64 x.next,.slice q x.items.length c]∧ZaV l q c 101 4 (Za8 9) x.items):=by
 refine cB 8 Tryz.func110 (h:=?_)
 have hxn:=hx.len
 refine Za (xBx [_,_] (h:=fun b1=>xAl [_,_] Zqn (h:=fun b2=>tL2 (Zc (Z2 (keeps _ [0] _) mo kr ⟨Kn.le.refl _,Zbr.refl _ _⟩ (fun _ _=>?_))))))
 refine aW 0 rfl ZfW (h:=aT 1 rfl (ZR fun D B L hI=>Zn rfl rfl lk3 rfl (atL 0 (hI.2.1.trans rfl) rfl rfl) r4) (h:=aT 2 rfl (ZR fun D B L hI=>Zaj [_,_] rfl rfl ZkL rfl (ZcF 0 (hI.2.1.trans rfl) rfl rfl) r4) (h:=ZL 3 kr rfl kr (ZaK rfl rfl ZwY rfl (Zk7 _ _ x _ hx) ?_))))
 rintro _ B3 _ hle3 ⟨sl3,rfl,hl3⟩
 refine ⟨⟨hle3,t1⟩,(ZL 4 kr rfl kr (ZdQ [2] rfl rfl rfl rfl ZwZ rfl (ZoI _ _ _ _ _ oa hl3) ?_))⟩
 rintro _ B4 _ hle4 ⟨rfl,ld4,ad4,cd4,rfl,rfl,hd4⟩
 refine ⟨⟨hle3,t1⟩,(Zak 5 kr rfl kr kr kr (Z0 [_,_] 1 [_,_] rfl rfl ZsV rfl rfl rfl rfl rfl rfl rfl rfl ?_))⟩
 refine Zo (tL3 (Zd ?_))
 exact eN [2] rfl ⟨⟨_,rfl,.inr ⟨[_,_],ZkL,ZcF 1 rfl rfl rfl,rfl⟩⟩,trivial⟩ ⟨_,_,_,rfl,rfl,hd4⟩

theorem Zpg (q:Option Addr) (m cp:Nat) (B:Kn):Z6 (pj J) 241 [.slice q m cp] B (.int .i64 m):=by
 refine cB 5 Tryz.func241 (h:=?_)
 refine Za (xA (h:=Za (xM (h:=xV Tryz.underlying210 (h:=xA (h:=Zd ?_))))))
 exact eR t1 ⟨rfl,rfl,rfl⟩

theorem ZfT (q:Option Addr) (cp:Nat) (xs:List Int) (i j:Nat) (a b:Int) (hi:xs[i]? = some a) (hj:xs[j]? = some b) (B:Kn) (hx:SlK B q cp 1 Zea xs):Z6 (pj J) 242 [.slice q xs.length cp,.int .i64 i,.int .i64 j] B (.bool (decide (a<b))):=by
 refine cB 16 Tryz.func242 (h:=?_)
 have hil:=Zbz hi
 have hjl:=Zbz hj
 refine Za (xA (h:=Zc (Z2 (same _ _) mo kr ⟨rfl,rfl⟩ (fun _ _=>?_))))
 refine aM 0 rfl (h:=aM 1 rfl (h:=?_))
 obtain ⟨z,hz⟩:=ZU (xs:=xs) (i:=i) om
 obtain ⟨bb2,oo2,rfl⟩:=hx.base hz
 obtain ⟨_,rfl,hc3⟩:=hx.elem hz
 refine aIx 2 rfl Tryz.underlying207 sz3 (h:=aT 3 rfl (Zag fun D=>Zn rfl rfl lk3 rfl (hc3 _ 0 _ rfl) r4) (h:=aM 4 rfl (h:=aM 5 rfl (h:=?_))))
 obtain ⟨w,hw⟩:=ZU (xs:=xs) (i:=j) om
 obtain ⟨_,rfl,hc5⟩:=hx.elem hw
 refine aIx 6 rfl Tryz.underlying207 sz3 (h:=?_)
 rw [hi] at hz
 cases hz
 rw [hj] at hw
 cases hw
 refine aT 7 rfl (Zag fun D=>Zn rfl rfl lk3 rfl (hc5 _ 0 _ rfl) r4) (h:=ZrY 8 rfl (h:=aA 9 rfl (h:=Zx kr kr ?_)))
 refine Zo (Zd ?_)
 exact eR t1 ⟨rfl,rfl,rfl⟩

theorem Zrl (b:Nat) (q:Option Addr) (cp:Nat) (xs:List Int) (l:Cells) (z:Int) (hn:xs.length≤2000000) (B:Kn) (hv:ZP B l q cp 3 1 Zea xs):Zv (pj J) 244 [ptr ⟨b,0,none⟩,.iface 3 (.int .i64 z)] B [Zar b [.slice q xs.length cp] 210,l] (fun v B' Ls=>B'=B∧∃q' c' l',Ls=[Zar b [.slice q' (xs ++ [z]).length c'] 210,l']∧ZP B l' q' c' 3 1 Zea (xs ++ [z])):=by
 refine cB 13 Tryz.func244 (h:=?_)
 refine Z2 (keeps _ [0] _) mo kr ⟨Kn.le.refl _,Zbr.refl _ _⟩ (fun _ _=>?_)
 refine aM 0 rfl (h:=aM 1 rfl (h:=aNc 2 rfl (h:=aT 3 rfl (ZR fun D B L hI=>Zn rfl rfl ZeW rfl (atL 0 (hI.2.1.trans rfl) rfl rfl) r4) (h:=aM 4 rfl (h:=aT 5 rfl (ZR fun D B L hI=>Zjy rfl rfl Tryz.underlying3 rfl rfl r4) (h:=ZL 6 kr rfl kr (ZJ (parts:=[(0,_)]) [_] rfl rfl Tryz.underlying207 sz3 zo3 rfl rfl rfl rfl rfl (fun b1=>?_))))))))
 refine ⟨⟨Kn.le.refl _,t1⟩,(ZL 7 kr rfl kr (Ze0 (z:=z) (R:=Zea) 1 rfl hv rfl rfl rfl Zwh Zv1 rfl rfl (Zb6.box 2 rfl) rfl rfl (rfl) om (fun l2 p2 c2 hv2=>?_)))⟩
 refine ⟨⟨Kn.le.refl _,t1⟩,(aNc 8 rfl (h:=Zak 9 kr rfl kr kr kr (Z0 [_] 0 [_] rfl rfl ZuA rfl rfl rfl rfl rfl rfl rfl rfl ?_)))⟩
 exact Zdl .normal (.inr rfl) [] [0,1] rfl trivial ⟨rfl,_,_,_,rfl,hv2⟩

theorem Ztu (b:Nat) (q:Option Addr) (cp:Nat) (xs:List Int) (l:Cells) (z:Int) (hz:xs[xs.length - 1]? = some z) (hn:xs.length≤2000000) (B:Kn) (hv:ZP B l q cp 3 1 Zea xs):Zv (pj J) 243 [ptr ⟨b,0,none⟩] B [Zar b [.slice q xs.length cp] 210,l] (fun v B' Ls=>B'=B∧v = .iface 3 (.int .i64 z)∧Ls=[Zar b [.slice q (xs.length - 1) cp] 210,l]∧ZP B l q cp 3 1 Zea (xs.take (xs.length - 1))):=by
 refine cB 25 Tryz.func243 (h:=?_)
 have hl1:=Zbz hz
 have hcp:=hv.cap
 have hv9:=hv.take (k:=xs.length - 1) oz
 have hs0:=hv.slice0 (sz:=1)
 refine Za (xA (h:=Za (xM (h:=xNc (h:=x1 ZeW 0 (h:=xV Tryz.underlying210 (h:=Zk (ZfD (r:=((xs.length - 1:Nat):Int)) rfl rfl rfl rfl (by rw [show ((xs.length:Int) - 1)=((xs.length - 1:Nat):Int) from by omega];exact Zbd oz oz) ?_))))))))
 refine xA (h:=Za (xM (h:=xNc (h:=x1 ZeW 0 (h:=xM (h:=?_))))))
 obtain ⟨w,hw⟩:=ZU (xs:=xs) (i:=(xs.length - 1)) om
 obtain ⟨bb2,_,hp2,rfl,hw2,hc2⟩:=hv.row hw
 refine xIp hp2 Tryz.underlying207 sz3 (h:=?_)
 rw [hz] at hw
 cases hw
 refine Zk (Zn rfl rfl lk3 rfl (hc2 _ 1 rfl 0 _ rfl) (xA (h:=Za (xM (h:=xM (h:=xNc (h:=x1 ZeW 0 (h:=xM (h:=Zk (ZlZ rfl rfl Tryz.underlying207 sz3 rfl (a:=0) (b:=xs.length - 1) rfl ⟨_,_,rfl,rfl⟩ oz oz ?_))))))))))
 rw [hs0]
 refine xNc (h:=xS [_] 0 [_] ZuA (h:=tL2 (Za (xM (h:=Zk (ZdP rfl rfl Tryz.underlying3 rfl rfl (xA (h:=Zd ?_))))))))
 exact eN [0,1] rfl t1 ⟨rfl,rfl,rfl,hv9⟩

theorem ZfS (q:Option Addr) (cp:Nat) (xs:List Int) (l:Cells) (i j:Nat) (a b:Int) (hi:xs[i]? = some a) (hj:xs[j]? = some b) (hn:xs.length≤2000000) (B:Kn) (hv:ZP B l q cp 3 1 Zea xs):Zv (pj J) 245 [.slice q xs.length cp,.int .i64 i,.int .i64 j] B [l] (fun v B' Ls=>B'=B∧∃l',Ls=[l']∧ZP B l' q cp 3 1 Zea ((xs.set i b).set j a)):=by
 refine cB 20 Tryz.func245 (h:=?_)
 have hil:=Zbz hi
 have hjl:=Zbz hj
 refine Z2 (keeps _ [0] _) mo kr ⟨Kn.le.refl _,Zbr.refl _ _⟩ (fun _ _=>?_)
 refine aM 0 rfl (h:=aM 1 rfl (h:=aM 2 rfl (h:=aM 3 rfl (h:=aM 4 rfl (h:=aM 5 rfl (h:=?_))))))
 obtain ⟨y,hy⟩:=ZU (xs:=xs) (i:=j) om
 obtain ⟨bb2,_,hp2,rfl,hw2,hc2⟩:=hv.row hy
 refine aT 6 rfl (ZR fun D B L hI=>Zef hp2 rfl rfl Tryz.underlying207 sz3 rfl rfl om om r4) (h:=?_)
 refine aT 7 rfl (ZR fun D B L hI=>Zn rfl rfl lk3 rfl (hc2 _ 0 (hI.2.1.trans rfl) 0 _ rfl) r4) (h:=aM 8 rfl (h:=aM 9 rfl (h:=?_)))
 obtain ⟨x,hx⟩:=ZU (xs:=xs) (i:=i) om
 obtain ⟨bb4,_,hp4,rfl,hw4,hc4⟩:=hv.row hx
 refine aT 10 rfl (ZR fun D B L hI=>Zef hp4 rfl rfl Tryz.underlying207 sz3 rfl rfl om om r4) (h:=?_)
 refine aT 11 rfl (ZR fun D B L hI=>Zn rfl rfl lk3 rfl (hc4 _ 0 (hI.2.1.trans rfl) 0 _ rfl) r4) (h:=?_)
 obtain ⟨bb5,_,hp5,rfl,hw5,hc5⟩:=hv.row hx
 refine aT 12 rfl (ZR fun D B L hI=>Zef hp5 rfl rfl Tryz.underlying207 sz3 rfl rfl om om r4) (h:=?_)
 refine ZlR 13 kr rfl kr kr (Zel (k:=i) (off:=0) (y) [_] 0 hv hp5 hx rfl rfl sz3 rfl rfl rfl rfl rfl rfl ((fun row h=>by cases h;rfl)) (fun l6 hv6=>?_))
 obtain ⟨w,hw⟩:=ZU (xs:=(xs.set i (y))) (i:=j) om
 obtain ⟨bb8,_,hp8,rfl,hw8,hc8⟩:=hv6.row hw
 refine aT 14 rfl (ZR fun D B L hI=>Zef hp8 rfl rfl Tryz.underlying207 sz3 rfl rfl om om r4) (h:=?_)
 refine Zak 15 kr rfl kr kr kr (Zel (k:=j) (off:=0) (x) [_] 0 hv6 hp8 hw rfl rfl sz3 rfl rfl rfl rfl rfl rfl ((fun row h=>by cases h;rfl)) (fun l9 hv9=>?_))
 rw [hi] at hx
 cases hx
 rw [hj] at hy
 cases hy
 exact Zdl .normal (.inr rfl) [] [0] rfl trivial ⟨rfl,_,rfl,hv9⟩

theorem Zro (b:Nat) (q:Option Addr) (cp:Nat) (xs:List Int) (l:Cells) (j:Nat) (hj:j<xs.length) (hn:xs.length≤2000000) (hh:ZfA xs j) (B:Kn) (hv:ZP B l q cp 3 1 Zea xs):Zv (pj J) 196 [.iface 209 (ptr ⟨b,0,none⟩),.int .i64 j] B [Zar b [.slice q xs.length cp] 210,l] (fun v B' Ls=>B'=B∧∃ys l',Ls=[Zar b [.slice q ys.length cp] 210,l']∧ZP B l' q cp 3 1 Zea ys∧ys.Perm xs∧Zdk ys):=by
 refine cB 23 Tryz.func196 (h:=?_)
 refine Zi (Zw (α:=Nat × List Int × Cells) [0] (fun g=>[(1,.int .i64 g.1)]) [0,1] (fun g=>[Zar b [.slice q g.2.1.length cp] 210,g.2.2]) (fun g Bx=>Bx=B∧g.1<g.2.1.length∧g.2.1.Perm xs∧ZfA g.2.1 g.1∧ZP B g.2.2 q cp 3 1 Zea g.2.1) (fun g=>g.1) (j,xs,l) t1 rfl (⟨rfl,hj,.refl _,hh,hv⟩) (fun g B1 hle1 hI=>?_))
 obtain ⟨rfl,hk,hp,hb,hv⟩:=hI
 have hpl:=hp.length_eq
 refine ZB [(0,_),(1,_)] [_,_] t2 rfl (Zi (Za (xM (h:=Zk (ZfD rfl rfl rfl rfl (Zbd oz oz) ?_)))))
 refine Zk (Zn4 (r:=(((g.1 - 1) / 2:Nat):Int)) rfl rfl rfl rfl oz (by rw [show Int.tdiv ((g.1:Int) - 1) 2=(((g.1 - 1) / 2:Nat):Int) from ZvT g.1];exact Zbd oz oz) ?_)
 refine xA (h:=Zc (Za (xM (h:=xM (h:=Zju (h:=xM (h:=Zt (d:=11) rfl (fun g1=>?_) (fun g1=>?_))))))))
 try simp only [sQ,ne_eq] at g1
 refine xP (h:=xP (h:=xP (h:=xP (h:=xP (h:=xT (h:=Zb (t:=true) rfl (fun _=>ZC (ZV (ZeK rfl (ZG (Zu ?_))))) (fun h=>Bool.noConfusion h)))))))
 exact Zdl .normal (.inr rfl) [] [0,1] rfl trivial ⟨rfl,_,_,rfl,hv,hp,ZsO (by rw [show g.1=0 from by omega] at hb;exact hb)⟩
 try simp only [sQ,ne_eq] at g1
 refine xM (h:=xM (h:=xM (h:=Zk (Zfc 1 rfl rfl rfl ZpP rfl rfl (Za2 ZdF Tryz.underlying209 ZeW (atL 0 rfl rfl rfl)) (Z6.borrow fun hm2=>ZfT _ _ _ _ _ _ _ (ZaI oz) (ZaI oz) _ (hv.lend Zea.mono hm2 om)) ?_))))
 refine xN (h:=xF (h:=Zb rfl (fun g2=>?_) (fun g2=>?_)))
 try simp only [sQ,ne_eq] at g2
 refine ZC (ZV (ZeK rfl (ZG (Zu ?_))))
 exact Zdl .normal (.inr rfl) [] [0,1] rfl trivial ⟨rfl,_,_,rfl,hv,hp,ZsQ hb (by simpa using g2)⟩
 try simp only [sQ,ne_eq] at g2
 refine wSk (Za (xM (h:=xM (h:=xM (h:=Zk (Zgy [1] rfl rfl rfl rfl ZpO rfl rfl (Za2 ZdE Tryz.underlying209 ZeW (atL 0 rfl rfl rfl)) (ZfS _ _ _ _ _ _ _ _ (ZaI oz) (ZaI oz) oz _ hv) ?_))))))
 rintro _ B3 _ hle3 ⟨rfl,l3,rfl,hv3⟩
 refine tL2 (Zf (xM (h:=xA (h:=ZM ?_))))
 rw [← Zc2 g.2.1 ((g.1 - 1) / 2) g.1]
 exact ZA ((g.1 - 1) / 2,(swp g.2.1 ((g.1 - 1) / 2) g.1),l3) [0,1] (so) ⟨rfl,by have:=Zc2 g.2.1 ((g.1 - 1) / 2) g.1;simp only [];omega,(ZfH oz oz).trans hp,ZsP oz oz hb (by simpa using g2),hv3⟩ t2 rfl

theorem Zns (b:Nat) (q:Option Addr) (cp:Nat) (xs:List Int) (l:Cells) (z:Int) (hn:xs.length<2000000) (hh:Zdk xs) (B:Kn) (hv:ZP B l q cp 3 1 Zea xs):Zv (pj J) 165 [.iface 209 (ptr ⟨b,0,none⟩),.iface 3 (.int .i64 z)] B [Zar b [.slice q xs.length cp] 210,l] (fun v B' Ls=>B'=B∧∃q' c' ys l',Ls=[Zar b [.slice q' ys.length c'] 210,l']∧ZP B l' q' c' 3 1 Zea ys∧ys.Perm (xs ++ [z])∧Zdk ys):=by
 refine cB 12 Tryz.func165 (h:=?_)
 refine Za (xM (h:=xM (h:=Zk (Zgy [0,1] rfl rfl rfl rfl Zwm rfl rfl (Zkp Znf Tryz.underlying209) (Zrl _ _ _ _ _ _ oz _ hv) ?_))))
 rintro _ B1 _ hle1 ⟨rfl,q1,c1,l1,rfl,hv1⟩
 refine tL2 (Zf (xM (h:=xM (h:=Zk (Zfc 1 rfl rfl rfl Zvd rfl rfl (Za2 ZjZ Tryz.underlying209 ZeW (atL 0 rfl rfl rfl)) (Z6.borrow fun hm2=>Zpg _ _ _ _) (Zk (ZfD (r:=((xs.length:Nat):Int)) rfl rfl rfl rfl ((congrArg _ (show _=((xs.length:Nat):Int) from by rw [List.length_append,List.length_singleton];omega)).trans (Zbd oz oz)) ?_)))))))
 refine xK [0,1] rfl Zwx rfl (Zro _ _ _ _ _ _ (by simp) (by simp;omega) (ZqQ hh) _ hv1) (h:=?_)
 rintro _ Bu _ hleu ⟨rfl,ysu,lu,rfl,hvu,hpu,hhu⟩
 exact Zdl .normal (.inr rfl) [] [0,1] rfl trivial ⟨rfl,_,_,_,_,rfl,hvu,hpu,hhu⟩

theorem Znu (b:Nat) (q:Option Addr) (cp:Nat) (xs:List Int) (l:Cells) (m:Nat) (hm:m≤xs.length) (hm0:0<xs.length) (hn:xs.length≤2000000) (hh:ZeE xs m 0) (B:Kn) (hv:ZP B l q cp 3 1 Zea xs):Zv (pj J) 197 [.iface 209 (ptr ⟨b,0,none⟩),.int .i64 0,.int .i64 m] B [Zar b [.slice q xs.length cp] 210,l] (fun v B' Ls=>B'=B∧∃ys l',Ls=[Zar b [.slice q ys.length cp] 210,l']∧ZP B l' q cp 3 1 Zea ys∧ys.Perm xs∧Zr2 ys m∧(∀k,m≤k→hat ys k=hat xs k)):=by
 refine cB 48 Tryz.func197 (h:=?_)
 refine Za (xA (h:=Za (xM (h:=xA (h:=Zc (Zi (Zw (α:=Nat × List Int × Cells) [0,1,2,6] (fun g=>[(7,.int .i64 g.1)]) [0,1] (fun g=>[Zar b [.slice q g.2.1.length cp] 210,g.2.2]) (fun g Bx=>Bx=B∧g.1<g.2.1.length∧g.2.1.Perm xs∧ZeE g.2.1 m g.1∧(∀k,m≤k→hat g.2.1 k=hat xs k)∧ZP B g.2.2 q cp 3 1 Zea g.2.1) (fun g=>xs.length - g.1) (0,xs,l) t1 rfl (⟨rfl,hm0,.refl _,hh,fun _ _=>rfl,hv⟩) (fun g B1 hle1 hI=>?_))))))))
 obtain ⟨rfl,hk,hp,hb,hs,hv⟩:=hI
 have hpl:=hp.length_eq
 refine ZB [(0,_),(1,_),(2,_),(6,_),(7,_)] [_,_] t5 rfl (Zi (Za (xM (h:=Zk (ZvO (r:=((2*g.1:Nat):Int)) rfl rfl rfl rfl ((congrArg _ (show _=((2*g.1:Nat):Int) from by omega)).trans (Zbd oz oz)) ?_)))))
 refine Zk (ZfF (r:=((2*g.1+1:Nat):Int)) rfl rfl rfl rfl ((congrArg _ (show _=((2*g.1+1:Nat):Int) from by omega)).trans (Zbd oz oz)) ?_)
 refine xA (h:=Zc (Za (xM (h:=xM (h:=Zdy (h:=xM (h:=Zt (d:=18) rfl (fun g1=>?_) (fun g1=>?_))))))))
 try simp only [sQ,ne_eq] at g1
 refine xP (h:=xP (h:=xT (h:=Zb (t:=true) rfl (fun _=>ZC (ZV (ZeK rfl (ZG (Zu (Zo (Za (xM (h:=xM (h:=Zdx (h:=xA (h:=Zd ?_)))))))))))) (fun h=>Bool.noConfusion h))))
 exact eN [0,1] rfl t1 ⟨rfl,_,_,rfl,hv,hp,ZpT hb oz,hs⟩
 try simp only [sQ,ne_eq] at g1
 refine xM (h:=ZE (h:=xF (h:=Zb rfl (fun g2=>by have:=of_decide_eq_true g2;omega) (fun g2=>?_))))
 try simp only [sQ,ne_eq] at g2
 refine wSk (Za (xM (h:=xA (h:=Zc (Za (xM (h:=Zk (ZfF (r:=((2*g.1+1+1:Nat):Int)) rfl rfl rfl rfl ((congrArg _ (show _=((2*g.1+1+1:Nat):Int) from by omega)).trans (Zbd oz oz)) ?_))))))))
 refine xA (h:=Za (xM (h:=xM (h:=ZE (h:=xM (h:=Zt (d:=28) rfl (fun g3=>?_) (fun g3=>?_)))))))
 try simp only [sQ,ne_eq] at g3
 refine xM (h:=xM (h:=xM (h:=Zk (Zfc 1 rfl rfl rfl ZpP rfl rfl (Za2 ZdF Tryz.underlying209 ZeW (atL 0 rfl rfl rfl)) (Z6.borrow fun hm2=>ZfT _ _ _ _ _ _ _ (ZaI oz) (ZaI oz) _ (hv.lend Zea.mono hm2 om)) ?_))))
 refine xT (h:=Zb rfl (fun g4=>?_) (fun g4=>?_))
 try simp only [sQ,ne_eq] at g4
 refine Zf (xM (h:=xA (h:=Zo (Zc (Za (xM (h:=xM (h:=xM (h:=Zk (Zfc 1 rfl rfl rfl ZpP rfl rfl (Za2 ZdF Tryz.underlying209 ZeW (atL 0 rfl rfl rfl)) (Z6.borrow fun hm3=>ZfT _ _ _ _ _ _ _ (ZaI oz) (ZaI oz) _ (hv.lend Zea.mono hm3 om)) ?_))))))))))
 refine xN (h:=Zb rfl (fun g5=>?_) (fun g5=>?_))
 try simp only [sQ,ne_eq] at g5
 refine ZC (ZV (ZeK rfl (ZG (Zu (Zo (Za (xM (h:=xM (h:=Zdx (h:=xA (h:=Zd ?_)))))))))))
 exact eN [0,1] rfl t1 ⟨rfl,_,_,rfl,hv,hp,ZhB hb (by intro k h0 hk he;(try simp only [decide_eq_true_eq,decide_eq_false_iff_not,Bool.not_eq_true',Bool.not_eq_false',Int.not_lt] at *);rcases (show k=2*g.1+1∨k=2*g.1+1+1 from by omega) with rfl | rfl <;> omega),hs⟩
 try simp only [sQ,ne_eq] at g5
 refine wSk (Za (xM (h:=xM (h:=xM (h:=Zk (Zgy [1] rfl rfl rfl rfl ZpO rfl rfl (Za2 ZdE Tryz.underlying209 ZeW (atL 0 rfl rfl rfl)) (ZfS _ _ _ _ _ _ _ _ (ZaI oz) (ZaI oz) oz _ hv) ?_))))))
 rintro _ B4 _ hle4 ⟨rfl,l4,rfl,hv4⟩
 refine tL2 (Zf (xM (h:=xA (h:=ZM ?_))))
 rw [← Zc2 g.2.1 g.1 (2*g.1+1+1)]
 have h5:hat g.2.1 (2*g.1+1+1)<hat g.2.1 g.1:=by simpa using g5
 exact ZA (2*g.1+1+1,(swp g.2.1 g.1 (2*g.1+1+1)),l4) [0,1] (so) ⟨rfl,by have:=Zc2 g.2.1 g.1 (2*g.1+1+1);simp only [];omega,(ZfH oz oz).trans hp,ZhA oz oz oz oz hb (by intro k h0 hk he;(try simp only [decide_eq_true_eq,decide_eq_false_iff_not,Bool.not_eq_true',Bool.not_eq_false',Int.not_lt] at *);rcases (show k=2*g.1+1∨k=2*g.1+1+1 from by omega) with rfl | rfl <;> omega) h5,(fun k hk=>by rw [Zew oz oz,if_neg oz,if_neg oz];exact hs k hk),hv4⟩ t5 rfl
 try simp only [sQ,ne_eq] at g4
 refine wSk (Zc (Za (xM (h:=xM (h:=xM (h:=Zk (Zfc 1 rfl rfl rfl ZpP rfl rfl (Za2 ZdF Tryz.underlying209 ZeW (atL 0 rfl rfl rfl)) (Z6.borrow fun hm5=>ZfT _ _ _ _ _ _ _ (ZaI oz) (ZaI oz) _ (hv.lend Zea.mono hm5 om)) ?_)))))))
 refine xN (h:=Zb rfl (fun g5=>?_) (fun g5=>?_))
 try simp only [sQ,ne_eq] at g5
 refine ZC (ZV (ZeK rfl (ZG (Zu (Zo (Za (xM (h:=xM (h:=Zdx (h:=xA (h:=Zd ?_)))))))))))
 exact eN [0,1] rfl t1 ⟨rfl,_,_,rfl,hv,hp,ZhB hb (by intro k h0 hk he;(try simp only [decide_eq_true_eq,decide_eq_false_iff_not,Bool.not_eq_true',Bool.not_eq_false',Int.not_lt] at *);rcases (show k=2*g.1+1∨k=2*g.1+1+1 from by omega) with rfl | rfl <;> omega),hs⟩
 try simp only [sQ,ne_eq] at g5
 refine wSk (Za (xM (h:=xM (h:=xM (h:=Zk (Zgy [1] rfl rfl rfl rfl ZpO rfl rfl (Za2 ZdE Tryz.underlying209 ZeW (atL 0 rfl rfl rfl)) (ZfS _ _ _ _ _ _ _ _ (ZaI oz) (ZaI oz) oz _ hv) ?_))))))
 rintro _ B6 _ hle6 ⟨rfl,l6,rfl,hv6⟩
 refine tL2 (Zf (xM (h:=xA (h:=ZM ?_))))
 rw [← Zc2 g.2.1 g.1 (2*g.1+1)]
 have h5:hat g.2.1 (2*g.1+1)<hat g.2.1 g.1:=by simpa using g5
 exact ZA (2*g.1+1,(swp g.2.1 g.1 (2*g.1+1)),l6) [0,1] (so) ⟨rfl,by have:=Zc2 g.2.1 g.1 (2*g.1+1);simp only [];omega,(ZfH oz oz).trans hp,ZhA oz oz oz oz hb (by intro k h0 hk he;(try simp only [decide_eq_true_eq,decide_eq_false_iff_not,Bool.not_eq_true',Bool.not_eq_false',Int.not_lt] at *);rcases (show k=2*g.1+1∨k=2*g.1+1+1 from by omega) with rfl | rfl <;> omega) h5,(fun k hk=>by rw [Zew oz oz,if_neg oz,if_neg oz];exact hs k hk),hv6⟩ t5 rfl
 try simp only [sQ,ne_eq] at g3
 refine xP (h:=xP (h:=xP (h:=xP (h:=xF (h:=Zb (t:=false) rfl (fun h=>Bool.noConfusion h) (fun _=>wSk (Zc (Za (xM (h:=xM (h:=xM (h:=Zk (Zfc 1 rfl rfl rfl ZpP rfl rfl (Za2 ZdF Tryz.underlying209 ZeW (atL 0 rfl rfl rfl)) (Z6.borrow fun hm7=>ZfT _ _ _ _ _ _ _ (ZaI oz) (ZaI oz) _ (hv.lend Zea.mono hm7 om)) ?_)))))))))))))
 refine xN (h:=Zb rfl (fun g5=>?_) (fun g5=>?_))
 try simp only [sQ,ne_eq] at g5
 refine ZC (ZV (ZeK rfl (ZG (Zu (Zo (Za (xM (h:=xM (h:=Zdx (h:=xA (h:=Zd ?_)))))))))))
 exact eN [0,1] rfl t1 ⟨rfl,_,_,rfl,hv,hp,ZhB hb (by intro k h0 hk he;(try simp only [decide_eq_true_eq,decide_eq_false_iff_not,Bool.not_eq_true',Bool.not_eq_false',Int.not_lt] at *);rcases (show k=2*g.1+1∨k=2*g.1+1+1 from by omega) with rfl | rfl <;> omega),hs⟩
 try simp only [sQ,ne_eq] at g5
 refine wSk (Za (xM (h:=xM (h:=xM (h:=Zk (Zgy [1] rfl rfl rfl rfl ZpO rfl rfl (Za2 ZdE Tryz.underlying209 ZeW (atL 0 rfl rfl rfl)) (ZfS _ _ _ _ _ _ _ _ (ZaI oz) (ZaI oz) oz _ hv) ?_))))))
 rintro _ B8 _ hle8 ⟨rfl,l8,rfl,hv8⟩
 refine tL2 (Zf (xM (h:=xA (h:=ZM ?_))))
 rw [← Zc2 g.2.1 g.1 (2*g.1+1)]
 have h5:hat g.2.1 (2*g.1+1)<hat g.2.1 g.1:=by simpa using g5
 exact ZA (2*g.1+1,(swp g.2.1 g.1 (2*g.1+1)),l8) [0,1] (so) ⟨rfl,by have:=Zc2 g.2.1 g.1 (2*g.1+1);simp only [];omega,(ZfH oz oz).trans hp,ZhA oz oz oz oz hb (by intro k h0 hk he;(try simp only [decide_eq_true_eq,decide_eq_false_iff_not,Bool.not_eq_true',Bool.not_eq_false',Int.not_lt] at *);rcases (show k=2*g.1+1∨k=2*g.1+1+1 from by omega) with rfl | rfl <;> omega) h5,(fun k hk=>by rw [Zew oz oz,if_neg oz,if_neg oz];exact hs k hk),hv8⟩ t5 rfl

theorem Zpj (b:Nat) (q:Option Addr) (cp:Nat) (xs:List Int) (l:Cells) (hm0:0<xs.length) (hn:xs.length≤2000000) (hh:Zdk xs) (B:Kn) (hv:ZP B l q cp 3 1 Zea xs):Zv (pj J) 166 [.iface 209 (ptr ⟨b,0,none⟩)] B [Zar b [.slice q xs.length cp] 210,l] (fun v B' Ls=>B'=B∧v = .iface 3 (.int .i64 (hat xs 0))∧∃ys l',Ls=[Zar b [.slice q ys.length cp] 210,l']∧ZP B l' q cp 3 1 Zea ys∧(hat xs 0 :: ys).Perm xs∧Zdk ys):=by
 refine cB 15 Tryz.func166 (h:=?_)
 refine Za (xA (h:=Za (xM (h:=Zk (Zfc 1 rfl rfl rfl Zvd rfl rfl (Za2 ZjZ Tryz.underlying209 ZeW (atL 0 rfl rfl rfl)) (Z6.borrow fun hm1=>Zpg _ _ _ _) (Zk (ZfD (r:=((xs.length - 1:Nat):Int)) rfl rfl rfl rfl ((congrArg _ (show _=((xs.length - 1:Nat):Int) from by omega)).trans (Zbd oz oz)) ?_)))))))
 refine xA (h:=Za (xM (h:=xM (h:=Zk (Zgy [1] rfl rfl rfl rfl ZpO rfl rfl (Za2 ZdE Tryz.underlying209 ZeW (atL 0 rfl rfl rfl)) (ZfS _ _ _ _ _ _ _ _ (ZaI oz) (ZaI oz) oz _ hv) ?_)))))
 rintro _ Bs _ hles ⟨rfl,ls,rfl,hvs⟩
 refine tL2 ?_
 obtain ⟨zs,hzs,hzl⟩ :∃zs,zs=swp xs 0 (xs.length - 1)∧zs.length=xs.length:=⟨_,rfl,Zc2 _ _ _⟩
 have hzz:=hvs
 change ZP _ _ _ _ _ _ _ (swp xs 0 (xs.length - 1)) at hzz
 rw [← hzs] at hzz
 have hdb:ZeE zs (zs.length - 1) 0:=by rw [hzl,hzs];exact Zs2 hh hm0
 have hlz:hat zs (zs.length - 1)=hat xs 0:=by rw [hzl,hzs];exact ZqJ hm0
 have hpz:zs.Perm xs:=hzs ▸ ZfH hm0 oz
 rw [← hzl]
 refine Za (xM (h:=xM (h:=xK [0,1] rfl Zww rfl (Znu _ _ _ _ _ _ oz oz oz hdb _ hzz) (h:=?_))))
 rintro _ Bd _ hled ⟨rfl,ysd,ld,rfl,hvd,hpd,hhd,hsd⟩
 refine tL2 ?_
 have hdl:=hpd.length_eq
 refine Za (xM (h:=Zk (Zgy [0,1] rfl rfl rfl rfl Zwn rfl rfl (Zkp ZoW Tryz.underlying209) (Ztu _ _ _ _ _ _ (ZaI oz) oz _ hvd) ?_)))
 rintro _ Bo _ hleo ⟨rfl,rfl,rfl,hvo⟩
 refine xA (h:=tL2 (Zd ?_))
 have hz9:hat ysd (ysd.length - 1)=hat xs 0:=by rw [hsd _ oz,hdl];exact hlz
 exact Zdl .ret (.inl rfl) [_] [0,1] rfl ⟨rfl,trivial⟩ ⟨rfl,by rw [hz9];rfl,_,_,by rw [show (ysd.take (ysd.length - 1)).length=ysd.length - 1 from by simp],hvo,ZqT (by omega) (hpd.trans hpz) hz9,Znt (by rw [hdl];exact hhd) (by omega)⟩

theorem Zlt (q:Option Addr) (cp:Nat) (xs:List DItem) (last:Int) (B:Kn) (ha:SlK B q cp 4 ZK xs):Z6 (pj J) 137 [.slice q xs.length cp,.int .i64 last] B (.bool (asc 0 last (xs.map (·.id)))):=by
 refine cB 53 Tryz.func137 (h:=?_)
 have hxn:=ha.len
 refine Za (xA (h:=Za (xBs [] [] Tryz.underlying207 sz3 zo3 (h:=fun b1=>xBx [_] (h:=fun b2=>xA (h:=tL2 (Zc (Za (xM (h:=xV Tryz.underlying32 (h:=xM (h:=Zi (Zw (α:=Gh Int) [0,1,4,5,14,15] (fun g=>[(16,.int .i64 g.k)]) [0,1] (fun g=>[g.l,Zar b2 [.slice g.a g.xs.length g.c] 210]) (fun g Bx=>Bx=B∧g.k≤xs.length∧g.xs.Perm ((xs.take g.k).map (·.id))∧Zdk g.xs∧ZP Bx g.l g.a g.c 3 1 Zea g.xs) (fun g=>xs.length - g.k) ⟨0,0,_,_,_,[]⟩ t1 rfl (⟨rfl,Nat.zero_le _,.refl _,Zrm,.lit0⟩) (fun g B3 hle3 hI=>?_))))))))))))))
 obtain ⟨rfl,hk,hp,hh,hv⟩:=hI
 have hpl:=hp.length_eq
 rw [List.length_map,List.length_take] at hpl
 refine ZB [(0,_),(1,_),(4,_),(5,_),(14,_),(15,_),(16,_)] [_,_] t7 rfl (Za (ZE (h:=Zc (Zb rfl (fun g1=>?_) (fun g1=>?_)))))
 try simp only [sQ,ne_eq] at g1
 refine wSk (Zc (Zi (Za ?_)))
 obtain ⟨x,hx⟩:=ZU (xs:=xs) (i:=g.k) om
 obtain ⟨bb5,oo5,rfl⟩:=ha.base hx
 obtain ⟨_,⟨qi6,ci6,rfl,hi6,hb6,hb6b⟩,hc6⟩:=ha.elem hx
 have hi6n:=hi6.len
 refine xIx Tryz.underlying32 Zbl (h:=yL [_,_,_,_] Zeo hc6 0 (h:=xAl [_,_,_,_] ZeV (h:=fun b7=>xS [_,_,_,_] 2 [_,_,_,_] Zbl (h:=tL3 (Zf (xM (h:=Zk (ZdP rfl rfl Tryz.underlying209 rfl rfl (xW Zd6 (h:=x1 lk3 2 (h:=Zk (ZdP rfl rfl Tryz.underlying3 rfl rfl (xK [1,0] rfl ZwK rfl (Zns _ _ _ _ _ _ oz hh _ hv) (h:=?_))))))))))))))
 rintro _ Bp _ hlep ⟨rfl,qp,cp,ysp,lp,rfl,hvp,hpp,hhp⟩
 refine ZM (Zo (Zf (xD (h:=xM (h:=?_)))))
 exact ZA ⟨g.k+1,0,lp,_,_,ysp⟩ [0,1] so2 ⟨rfl,so,by simp only [];rw [Zbe hx,List.map_append];exact hpp.trans (hp.append_right _),hhp,hvp⟩ t7 rfl
 try simp only [sQ,ne_eq] at g1
 have hxe:xs.take g.k=xs:=List.take_of_length_le oz
 rw [hxe] at hp
 refine ZC (ZV (ZG (Zu (Zo (Za (xA (h:=Zc (Za (xM (h:=xV Tryz.underlying32 (h:=xM (h:=Zi (Zw (α:=Gh2 Int Int) [0,1,5,14,15,16,17,27,28] (fun h=>[(8,.int .i64 h.e),(29,.int .i64 h.k)]) [0,1] (fun h=>[h.l,Zar b2 [.slice h.a h.xs.length h.c] 210]) (fun h Bx=>Bx=B3∧h.k≤xs.length∧h.xs.Perm ((xs.drop h.k).map (·.id))∧Zdk h.xs∧asc 0 last (xs.map (·.id))=asc h.e last ((xs.drop h.k).map (·.id))∧ZP Bx h.l h.a h.c 3 1 Zea h.xs) (fun h=>xs.length - h.k) ⟨0,0,g.l,g.a,g.c,g.xs,0⟩ t2 rfl (⟨rfl,Nat.zero_le _,hp,hh,rfl,hv⟩) (fun h B9 hle9 hI=>?_))))))))))))))
 clear hv hp hpl hh
 obtain ⟨rfl,hk,hp,hh,hs,hv⟩:=hI
 have hpl:=hp.length_eq
 rw [List.length_map,List.length_drop] at hpl
 refine ZB [(0,_),(1,_),(5,_),(8,_),(14,_),(15,_),(16,_),(17,_),(27,_),(28,_),(29,_)] [_,_] t11 rfl (Za (ZE (h:=Zc (Zb rfl (fun g2=>?_) (fun g2=>?_)))))
 try simp only [sQ,ne_eq] at g2
 refine wSk (Zc (Zi (Za ?_)))
 obtain ⟨x,hx⟩:=ZU (xs:=xs) (i:=h.k) om
 obtain ⟨bb11,oo11,rfl⟩:=ha.base hx
 obtain ⟨_,⟨qi12,ci12,rfl,hi12,hb12,hb12b⟩,hc12⟩:=ha.elem hx
 have hi12n:=hi12.len
 refine xIx Tryz.underlying32 Zbl (h:=?_)
 rw [Zje hx,List.map_cons] at hp hs
 refine yL [_,_,_,_] Zeo hc12 0 (h:=xAl [_,_,_,_] ZeV (h:=fun b13=>xS [_,_,_,_] 2 [_,_,_,_] Zbl (h:=tL3 (Za (xM (h:=Zk (ZdP rfl rfl Tryz.underlying209 rfl rfl (xK [1,0] rfl ZwJ rfl (Zpj _ _ _ _ _ oz oz hh _ hv) (h:=?_)))))))))
 rintro _ Bo _ hleo ⟨rfl,rfl,yso,lo,rfl,hvo,hpo,hho⟩
 refine Zk (Zjy rfl rfl Tryz.underlying3 rfl rfl (xA (h:=tL3 (Zc (Za (xM (h:=xW Zd6 (h:=x1 lk3 2 (h:=ZaO (h:=xM (h:=Zt (d:=41) rfl (fun g3=>?_) (fun g3=>?_))))))))))))
 try simp only [sQ,ne_eq] at g3
 refine xP (h:=xP (h:=xP (h:=xT (h:=xM (h:=xP (h:=xP (h:=xP (h:=xT (h:=Zb (t:=true) rfl (fun _=>Za (xA (h:=Zd (Zl (Zy (Zl (ZO (Zy (Zl ?_))))))))) (fun h=>Bool.noConfusion h))))))))))
 exact eR t1 ⟨Ze (by rw [hs];exact ZrO hp hh (by simpa using g3)),rfl,rfl⟩
 try simp only [sQ,ne_eq] at g3
 refine xM (h:=xM (h:=Zb7 (h:=xF (h:=xM (h:=Zt (d:=46) rfl (fun g4=>?_) (fun g4=>?_))))))
 try simp only [sQ,ne_eq] at g4
 refine xP (h:=xP (h:=xP (h:=xT (h:=Zb (t:=true) rfl (fun _=>Za (xA (h:=Zd (Zl (Zy (Zl (ZO (Zy (Zl ?_))))))))) (fun h=>Bool.noConfusion h)))))
 exact eR t1 ⟨Ze (by rw [hs];exact ZrN (by rw [← g3];simpa using g4)),rfl,rfl⟩
 try simp only [sQ,ne_eq] at g4
 refine xM (h:=xM (h:=Zdx (h:=xF (h:=Zb rfl (fun g5=>?_) (fun g5=>?_)))))
 try simp only [sQ,ne_eq] at g5
 refine Za (xA (h:=Zd (Zl (Zy (Zl (ZO (Zy (Zl ?_))))))))
 exact eR t1 ⟨Ze (by rw [hs];exact ZrM (by rw [← g3];simpa using g5)),rfl,rfl⟩
 try simp only [sQ,ne_eq] at g5
 refine wSk (Zf (xM (h:=xA (h:=ZM (Zo (Zf (xD (h:=xM (h:=?_)))))))))
 exact ZA ⟨h.k+1,0,lo,_,_,yso,hat h.xs 0⟩ [0,1] so2 ⟨rfl,so,List.Perm.cons_inv ((show (x.id :: yso).Perm (hat h.xs 0 :: yso) from by rw [g3]).trans (hpo.trans hp)),hho,by simp only [];rw [hs,g3];exact Zvn (by rw [← g3];simpa using g4) (by rw [← g3];simpa using g5),hvo⟩ t11 rfl
 try simp only [sQ,ne_eq] at g2
 rw [ZpS oz,List.map_nil,asc] at hs
 refine ZC (ZV (ZG (Zu (Zo (Za (xA (h:=Zd ?_)))))))
 exact eR t1 ⟨Ze hs.symm,rfl,rfl⟩

theorem Zlr (aq:Option Addr) (cq:Nat) (q:DQueue) (B:Kn) (hq:SlK B aq cq 4 ZK q.items):Z6 (pj J) 105 [.agg #[.int .i64 q.next,.slice aq q.items.length cq]] B (.bool (ZaU q)):=by
 refine cB 42 Tryz.func105 (h:=?_)
 have hqn:=hq.len
 refine Za (xBx [_,_] (h:=fun b1=>xA (h:=tL1 (Zc (Za (xW ZbD (h:=x1 Zia 0 (h:=xV Tryz.underlying32 (h:=Zdx (h:=xM (h:=Zt (d:=9) rfl (fun g1=>?_) (fun g1=>?_))))))))))))
 try simp only [sQ,ne_eq] at g1
 refine xP (h:=xP (h:=xP (h:=xT (h:=xM (h:=xP (h:=xP (h:=xP (h:=xT (h:=Zb (t:=true) rfl (fun _=>Za (xA (h:=Zd (Zl ?_)))) (fun h=>Bool.noConfusion h))))))))))
 exact eR t1 ⟨Ze (Zge oz),rfl,rfl⟩
 try simp only [sQ,ne_eq] at g1
 refine xW ZfW (h:=x1 lk3 0 (h:=ZE (h:=xF (h:=xM (h:=Zt (d:=14) rfl (fun g2=>?_) (fun g2=>?_))))))
 try simp only [sQ,ne_eq] at g2
 refine xP (h:=xP (h:=xP (h:=xT (h:=Zb (t:=true) rfl (fun _=>Za (xA (h:=Zd (Zl ?_)))) (fun h=>Bool.noConfusion h)))))
 exact eR t1 ⟨Ze (Zge oz),rfl,rfl⟩
 try simp only [sQ,ne_eq] at g2
 refine xW ZfW (h:=x1 lk3 0 (h:=Zdx (h:=xF (h:=Zb rfl (fun g3=>?_) (fun g3=>?_)))))
 try simp only [sQ,ne_eq] at g3
 refine Za (xA (h:=Zd (Zl ?_)))
 exact eR t1 ⟨Ze (Zge oz),rfl,rfl⟩
 try simp only [sQ,ne_eq] at g3
 refine wSk (Zc (Za (xW ZbD (h:=x1 Zia 0 (h:=xV Tryz.underlying32 (h:=xM (h:=Zi (Zw (α:=Nat) [0,1,18,20,21] (fun k=>[(22,.int .i64 k)]) [] (fun k=>[]) (fun k Bx=>Bx=B∧k≤q.items.length∧(q.items.take k).all Zet=true) (fun k=>q.items.length - k) 0 t1 rfl (⟨rfl,Nat.zero_le _,by simp⟩) (fun k B2 hle2 hI=>?_)))))))))
 obtain ⟨rfl,hk,ha⟩:=hI
 refine ZB [(0,_),(1,_),(18,_),(20,_),(21,_),(22,_)] [_] t6 rfl (Za (ZE (h:=Zc (Zb rfl (fun g4=>?_) (fun g4=>?_)))))
 try simp only [sQ,ne_eq] at g4
 refine wSk (Zc (Zi (Za ?_)))
 obtain ⟨x,hx⟩:=ZU (xs:=q.items) (i:=k) om
 obtain ⟨bb4,oo4,rfl⟩:=hq.base hx
 obtain ⟨_,⟨qi5,ci5,rfl,hi5,hb5,hb5b⟩,hc5⟩:=hq.elem hx
 have hi5n:=hi5.len
 refine xIx Tryz.underlying32 Zbl (h:=yL [_,_,_,_] Zeo hc5 0 (h:=xAl [_,_,_,_] ZeV (h:=fun b6=>xS [_,_,_,_] 1 [_,_,_,_] Zbl (h:=tL2 (Za (xW Zd5 (h:=x1 lk9 1 (h:=xW Zci (h:=x1 Zj7 1 (h:=xW Zft (h:=x1 lk9 1 (h:=xB [(0,_),(1,_),(2,_)] [_,_,_] [_,_,_] ZuH Zt6 (h:=xR Zw7 rfl (Zkf _ _ ⟨x.fr,x.left,x.text⟩ _ hi5 oa oa) (h:=?_))))))))))))))
 refine xN (h:=Zb rfl (fun g5=>?_) (fun g5=>?_))
 try simp only [sQ,ne_eq] at g5
 refine Za (xA (h:=Zd (Zy (Zl (ZO (Zy (Zl ?_)))))))
 exact eR t1 ⟨Ze (Zk6 hx g5),rfl,rfl⟩
 try simp only [sQ,ne_eq] at g5
 refine ZT (ZM (Zo (Zf (xD (h:=xM (h:=?_))))))
 exact ZA (k+1) [0] so2 ⟨rfl,oz,Zvp hx g5 ha⟩ t6 rfl
 try simp only [sQ,ne_eq] at g4
 refine ZC (ZV (ZG (Zu (Zo (Za (xW ZbD (h:=x1 Zia 0 (h:=xW ZfW (h:=x1 lk3 0 (h:=xU (h:=xR Zw6 rfl (Zlt _ _ _ _ _ hq) (h:=xA (h:=Zd ?_)))))))))))))
 exact eR t1 ⟨Ze (Zk5 oz ha oz oz oz),rfl,rfl⟩

theorem Zo5 (n:Int) (B:Kn):Z6 (pj J) 161 [.int .i64 n] B (.bool (decide (0≤n) && decide (n≤31))):=by
 refine cB 5 Tryz.func161 (h:=?_)
 refine Za (xA (h:=Za (xM (h:=xR Zqm rfl (Ze4 _ _ _ _) (h:=xA (h:=Zd ?_))))))
 exact eR t1 ⟨rfl,rfl,rfl⟩

theorem Zls (n:Int) (B:Kn):Z6 (pj J) 202 [.int .i64 n] B (.bool (decide (0≤n) && decide (n≤31))):=by
 refine cB 9 Tryz.func202 (h:=?_)
 refine Za (xA (h:=Za (xM (h:=Zdy (h:=xM (h:=Zt (d:=5) rfl (fun g1=>?_) (fun g1=>?_)))))))
 refine xM (h:=Zb7 (h:=xT (h:=xA (h:=Zd ?_))))
 exact eR t1 ⟨Ze (by rw [Bool.eq_iff_iff];simp [g1];try omega),rfl,rfl⟩
 refine xP (h:=xP (h:=xF (h:=xA (h:=Zd ?_))))
 exact eR t1 ⟨Ze (by rw [Bool.eq_iff_iff];simp [g1];try omega),rfl,rfl⟩

theorem Zpa (m:DMail) (hm:m.text.length≤2000000) (B:Kn):Z6 (pj J) 129 [.agg #[.int .i64 m.uid,.int .i64 m.flags,str m.text]] B (.bool (ZcG m)):=by
 refine cB 17 Tryz.func129 (h:=?_)
 refine Za (xBx [_,_,_] (h:=fun b1=>xA (h:=tL1 (Za (xW ZcC (h:=x1 lk3 0 (h:=xR Zqm rfl (Ze4 _ _ _ _) (h:=xM (h:=Zt (d:=6) rfl (fun g1=>?_) (fun g1=>?_))))))))))
 refine xW Zfs (h:=x1 lk3 0 (h:=xR ZwO rfl (Zo5 _ _) (h:=xT (h:=xM (h:=Zt (d:=11) rfl (fun g2=>?_) (fun g2=>?_))))))
 refine xW Zd4 (h:=x1 lk9 0 (h:=xVs Tryz.underlying9 (h:=Zb7 (h:=xT (h:=xA (h:=Zd ?_))))))
 exact eR t1 ⟨Ze (by rw [Bool.eq_iff_iff];simp [ZcG,g1,g2];try omega),rfl,rfl⟩
 refine xP (h:=xP (h:=xP (h:=xP (h:=xF (h:=xA (h:=Zd ?_))))))
 exact eR t1 ⟨Ze (by rw [Bool.eq_iff_iff];simp [ZcG,g1,g2];try omega),rfl,rfl⟩
 refine xP (h:=xP (h:=xP (h:=xF (h:=xM (h:=xP (h:=xP (h:=xP (h:=xP (h:=xF (h:=xA (h:=Zd ?_)))))))))))
 exact eR t1 ⟨Ze (by rw [Bool.eq_iff_iff];simp [ZcG,g1];try omega),rfl,rfl⟩

theorem Znm (m:DMail) (hm:m.text.length≤2000000) (B:Kn):Z6 (pj J) 180 [.agg #[.int .i64 m.uid,.int .i64 m.flags,str m.text]] B (.bool (ZcG m)):=by
 refine cB 22 Tryz.func180 (h:=?_)
 refine Za (xBx [_,_,_] (h:=fun b1=>xA (h:=tL1 (Za (xW ZcC (h:=x1 lk3 0 (h:=Zdy (h:=xM (h:=Zt (d:=6) rfl (fun g1=>?_) (fun g1=>?_))))))))))
 refine xW ZcC (h:=x1 lk3 0 (h:=Zb7 (h:=xT (h:=xM (h:=Zt (d:=11) rfl (fun g2=>?_) (fun g2=>?_))))))
 refine xW Zfs (h:=x1 lk3 0 (h:=xR Zwv rfl (Zls _ _) (h:=xT (h:=xM (h:=Zt (d:=16) rfl (fun g3=>?_) (fun g3=>?_))))))
 refine xW Zd4 (h:=x1 lk9 0 (h:=xVs Tryz.underlying9 (h:=Zb7 (h:=xT (h:=xA (h:=Zd ?_))))))
 exact eR t1 ⟨Ze (by rw [Bool.eq_iff_iff];simp [ZcG,g1,g2,g3];try omega),rfl,rfl⟩
 refine xP (h:=xP (h:=xP (h:=xP (h:=xF (h:=xA (h:=Zd ?_))))))
 exact eR t1 ⟨Ze (by rw [Bool.eq_iff_iff];simp [ZcG,g1,g2,g3];try omega),rfl,rfl⟩
 refine xP (h:=xP (h:=xP (h:=xF (h:=xM (h:=xP (h:=xP (h:=xP (h:=xP (h:=xF (h:=xA (h:=Zd ?_)))))))))))
 exact eR t1 ⟨Ze (by rw [Bool.eq_iff_iff];simp [ZcG,g1,g2];try omega),rfl,rfl⟩
 refine xP (h:=xP (h:=xP (h:=xF (h:=xM (h:=xP (h:=xP (h:=xP (h:=xF (h:=xM (h:=xP (h:=xP (h:=xP (h:=xP (h:=xF (h:=xA (h:=Zd ?_))))))))))))))))
 exact eR t1 ⟨Ze (by rw [Bool.eq_iff_iff];simp [ZcG,g1];try omega),rfl,rfl⟩

theorem ZoA (q:Option Addr) (cp:Nat) (x:DBox) (B:Kn) (hx:SlK B q cp 3 Zam x.mail):Z6 (pj J) 96 [.agg #[.int .i64 x.next,.slice q x.mail.length cp]] B (.bool (ZeY x)):=by
 refine cB 46 Tryz.func96 (h:=?_)
 have hxn:=hx.len
 refine Za (xBx [_,_] (h:=fun b1=>xA (h:=tL1 (Za (xA (h:=Zc (Za (xA (h:=Zi (Zw (α:=Nat × Int) [0,1] (fun g=>[(3,.int .i64 g.2),(4,.int .i64 g.1)]) [] (fun g=>[]) (fun g Bx=>Bx=B∧g.1≤x.mail.length∧ZcM (x.mail.take g.1)=(true,g.2)∧0≤g.2∧g.2≤99) (fun g=>x.mail.length - g.1) (0,0) t2 rfl (⟨rfl,Nat.zero_le _,Zfi,oz,oz⟩) (fun g B2 hle2 hI=>?_)))))))))))
 obtain ⟨rfl,hk,hs,hl0,hl1⟩:=hI
 refine ZB [(0,_),(1,_),(3,_),(4,_)] [_] t4 rfl (Zc (Za (xM (h:=xW Zcc (h:=x1 ZkK 0 (h:=xV Tryz.underlying57 (h:=ZE (h:=Zb rfl (fun g1=>?_) (fun g1=>?_)))))))))
 try simp only [sQ,ne_eq] at g1
 refine wSk (Zc (Zi (Zc (Za (xW Zcc (h:=x1 ZkK 0 (h:=xM (h:=?_))))))))
 obtain ⟨m,hm⟩:=ZU (xs:=x.mail) (i:=g.1) om
 obtain ⟨bb4,oo4,rfl⟩:=hx.base hm
 obtain ⟨_,⟨rfl,hb5⟩,hc5⟩:=hx.elem hm
 refine xIx Tryz.underlying57 Zdu (h:=yL [_,_,_] Zj8 hc5 0 (h:=xR Zxd rfl (Zpa m om2 _) (h:=?_)))
 refine xN (h:=xM (h:=Zt (d:=19) rfl (fun g2=>?_) (fun g2=>?_)))
 try simp only [sQ,ne_eq] at g2
 refine xP (h:=xP (h:=xP (h:=xP (h:=xP (h:=xP (h:=xP (h:=xP (h:=xT (h:=Zb (t:=true) rfl (fun _=>Za (xA (h:=Zd (Zl (Zy (Zl (ZO (Zy (Zl ?_))))))))) (fun h=>Bool.noConfusion h))))))))))
 exact eR t1 ⟨Ze (Zf1 (Zfj hm (by rw [show (scn Zd0 (fun _ m=>m.uid) 0 (x.mail.take g.1)).2=g.2 from congrArg Prod.snd hs];simp [Zd0,g2]))).symm,rfl,rfl⟩
 try simp only [sQ,ne_eq] at g2
 refine xW Zcc (h:=x1 ZkK 0 (h:=xM (h:=xIx Tryz.underlying57 Zdu (h:=xW ZcC (h:=y1 lk3 hc5 0 (h:=xM (h:=Zb7 (h:=xF (h:=Zb rfl (fun g3=>?_) (fun g3=>?_))))))))))
 try simp only [sQ,ne_eq] at g3
 refine Za (xA (h:=Zd (Zl (Zy (Zl (ZO (Zy (Zl ?_))))))))
 exact eR t1 ⟨Ze (Zf1 (Zfj hm (by rw [show (scn Zd0 (fun _ m=>m.uid) 0 (x.mail.take g.1)).2=g.2 from congrArg Prod.snd hs];simp [Zd0,g2];omega))).symm,rfl,rfl⟩
 try simp only [sQ,ne_eq] at g3
 refine wSk (Zf (xW Zcc (h:=x1 ZkK 0 (h:=xM (h:=xIx Tryz.underlying57 Zdu (h:=xW ZcC (h:=y1 lk3 hc5 0 (h:=xA (h:=ZM (Zo (Zf (xM (h:=xD (h:=xA (h:=?_)))))))))))))))
 exact ZA (g.1+1,m.uid) [0] so2 ⟨rfl,oz,Zcn hm hs (by simp [Zd0,g2];omega),Zh9 g2⟩ t4 rfl
 try simp only [sQ,ne_eq] at g1
 refine ZC (ZV (ZG (Zu (Zo (Za (xW ZfV (h:=x1 lk3 0 (h:=xM (h:=xD (h:=xR Zqm rfl (Ze4 _ _ _ _) (h:=xM (h:=Zt (d:=40) rfl (fun g4=>?_) (fun g4=>?_)))))))))))))
 try simp only [sQ,ne_eq] at g4
 refine xW Zcc (h:=x1 ZkK 0 (h:=xV Tryz.underlying57 (h:=Zb7 (h:=xT (h:=xA (h:=Zd ?_))))))
 exact eR t1 ⟨Ze (by rw [Zf0 (ZdX hs oz),g4,Bool.true_and,Bool.eq_iff_iff];simp;omega),rfl,rfl⟩
 try simp only [sQ,ne_eq] at g4
 refine xP (h:=xP (h:=xP (h:=xP (h:=xF (h:=xA (h:=Zd ?_))))))
 exact eR t1 ⟨Ze (by rw [Zf0 (ZdX hs oz),g4,Bool.false_and]),rfl,rfl⟩

theorem Zkh (q:Option Addr) (cp:Nat) (x:DBox) (B:Kn) (hx:SlK B q cp 3 Zam x.mail):Z6 (pj J) 142 [.agg #[.int .i64 x.next,.slice q x.mail.length cp]] B (.bool (ZeY x)):=by
 refine cB 38 Tryz.func142 (h:=?_)
 have hxn:=hx.len
 refine Za (xBx [_,_] (h:=fun b1=>xA (h:=tL1 (Zc (Za (xW Zcc (h:=x1 ZkK 0 (h:=xV Tryz.underlying57 (h:=Zdx (h:=Zb rfl (fun g0=>?_) (fun g0=>?_)))))))))))
 try simp only [sQ,ne_eq] at g0
 refine Za (xA (h:=Zd (Zl ?_)))
 exact eR t1 ⟨Ze (by simp [ZeY];omega),rfl,rfl⟩
 try simp only [sQ,ne_eq] at g0
 refine wSk (Za (xA (h:=Zc (Za (xW Zcc (h:=x1 ZkK 0 (h:=xV Tryz.underlying57 (h:=xM (h:=Zi (Zw (α:=Nat × Int) [0,1,9,11,12] (fun g=>[(3,.int .i64 g.2),(13,.int .i64 g.1)]) [] (fun g=>[]) (fun g Bx=>Bx=B∧g.1≤x.mail.length∧ZcM (x.mail.take g.1)=(true,g.2)∧0≤g.2∧g.2≤99) (fun g=>x.mail.length - g.1) (0,0) t2 rfl (⟨rfl,Nat.zero_le _,Zfi,oz,oz⟩) (fun g B2 hle2 hI=>?_)))))))))))
 obtain ⟨rfl,hk,hs,hl0,hl1⟩:=hI
 refine ZB [(0,_),(1,_),(3,_),(9,_),(11,_),(12,_),(13,_)] [_] t7 rfl (Za (ZE (h:=Zc (Zb rfl (fun g1=>?_) (fun g1=>?_)))))
 try simp only [sQ,ne_eq] at g1
 refine wSk (Zc (Zi (Za ?_)))
 obtain ⟨m,hm⟩:=ZU (xs:=x.mail) (i:=g.1) om
 obtain ⟨bb4,oo4,rfl⟩:=hx.base hm
 obtain ⟨_,⟨rfl,hb5⟩,hc5⟩:=hx.elem hm
 refine xIx Tryz.underlying57 Zdu (h:=yL [_,_,_] Zj8 hc5 0 (h:=xAl [_,_,_] ZkM (h:=fun b6=>xS [_,_,_] 1 [_,_,_] Zdu (h:=tL2 (Zc (Za (xL [_,_,_] Zj8 1 (h:=xR ZwI rfl (Znm m om2 _) (h:=?_)))))))))
 refine xN (h:=xM (h:=Zt (d:=20) rfl (fun g2=>?_) (fun g2=>?_)))
 try simp only [sQ,ne_eq] at g2
 refine xP (h:=xP (h:=xP (h:=xP (h:=xT (h:=Zb (t:=true) rfl (fun _=>Za (xA (h:=Zd (Zl (Zy (Zl (ZO (Zy (Zl ?_))))))))) (fun h=>Bool.noConfusion h))))))
 exact eR t1 ⟨Ze (Zf1 (Zfj hm (by rw [show (scn Zd0 (fun _ m=>m.uid) 0 (x.mail.take g.1)).2=g.2 from congrArg Prod.snd hs];simp [Zd0,g2]))).symm,rfl,rfl⟩
 try simp only [sQ,ne_eq] at g2
 refine xW ZcC (h:=x1 lk3 1 (h:=xM (h:=Zb7 (h:=xF (h:=Zb rfl (fun g3=>?_) (fun g3=>?_))))))
 try simp only [sQ,ne_eq] at g3
 refine Za (xA (h:=Zd (Zl (Zy (Zl (ZO (Zy (Zl ?_))))))))
 exact eR t1 ⟨Ze (Zf1 (Zfj hm (by rw [show (scn Zd0 (fun _ m=>m.uid) 0 (x.mail.take g.1)).2=g.2 from congrArg Prod.snd hs];simp [Zd0,g2];omega))).symm,rfl,rfl⟩
 try simp only [sQ,ne_eq] at g3
 refine wSk (Zf (xW ZcC (h:=x1 lk3 1 (h:=xA (h:=ZM (Zo (Zf (xD (h:=xM (h:=?_))))))))))
 exact ZA (g.1+1,m.uid) [0] so2 ⟨rfl,oz,Zcn hm hs (by simp [Zd0,g2];omega),Zh9 g2⟩ t7 rfl
 try simp only [sQ,ne_eq] at g1
 refine ZC (ZV (ZG (Zu (Zo (Za (xW ZfV (h:=x1 lk3 0 (h:=xM (h:=Zdx (h:=xM (h:=Zt (d:=33) rfl (fun g4=>?_) (fun g4=>?_))))))))))))
 try simp only [sQ,ne_eq] at g4
 refine xW ZfV (h:=x1 lk3 0 (h:=Zb7 (h:=xT (h:=xA (h:=Zd ?_)))))
 exact eR t1 ⟨Ze (by rw [Zf0 (ZdX hs oz),Bool.eq_iff_iff];simp;omega),rfl,rfl⟩
 try simp only [sQ,ne_eq] at g4
 refine xP (h:=xP (h:=xP (h:=xF (h:=xA (h:=Zd ?_)))))
 exact eR t1 ⟨Ze (by rw [Zf0 (ZdX hs oz),Bool.eq_iff_iff];simp;omega),rfl,rfl⟩

theorem Zo9 (q:Option Addr) (cp:Nat) (x:DBox) (B:Kn) (hx:SlK B q cp 3 Zam x.mail):Z6 (pj J) 97 [.agg #[.int .i64 x.next,.slice q x.mail.length cp]] B (.int .i64 (ZaS x.mail)):=by
 refine cB 22 Tryz.func97 (h:=?_)
 have hxn:=hx.len
 refine Za (xBx [_,_] (h:=fun b1=>xA (h:=tL1 (Za (xA (h:=Zc (Za (xA (h:=Zi (Zw (α:=Nat × Nat) [0,1,2] (fun g=>[(3,.int .i64 g.2),(4,.int .i64 g.1)]) [] (fun g=>[]) (fun g Bx=>Bx=B∧g.1≤x.mail.length∧g.2=ZaS (x.mail.take g.1)∧g.2≤g.1*2000000) (fun g=>x.mail.length - g.1) (0,0) t2 rfl (⟨rfl,Nat.zero_le _,by simp [ZaS],oz⟩) (fun g B2 hle2 hI=>?_)))))))))))
 obtain ⟨rfl,hk,hs,hl⟩:=hI
 refine ZB [(0,_),(1,_),(2,_),(3,_),(4,_)] [_] t5 rfl (Zc (Za (xM (h:=xW Zcc (h:=x1 ZkK 0 (h:=xV Tryz.underlying57 (h:=ZE (h:=Zb rfl (fun g1=>?_) (fun g1=>?_)))))))))
 try simp only [sQ,ne_eq] at g1
 refine wSk (Zc (Zi (Zf (xM (h:=xW Zcc (h:=x1 ZkK 0 (h:=xM (h:=?_))))))))
 obtain ⟨m,hm⟩:=ZU (xs:=x.mail) (i:=g.1) om
 obtain ⟨bb4,oo4,rfl⟩:=hx.base hm
 obtain ⟨_,⟨rfl,hb5⟩,hc5⟩:=hx.elem hm
 refine xIx Tryz.underlying57 Zdu (h:=xW Zd4 (h:=y1 lk9 hc5 2 (h:=xVs Tryz.underlying9 (h:=xD (h:=xA (h:=ZM (Zo (Zf (xM (h:=xD (h:=xA (h:=?_))))))))))))
 exact ZA (g.1+1,g.2+m.text.length) [0] so2 ⟨rfl,oz,by rw [Zg7 hm,← hs],oz⟩ t5 rfl
 try simp only [sQ,ne_eq] at g1
 refine ZC (ZV (ZG (Zu (Zo (Za (xM (h:=xA (h:=Zd ?_))))))))
 exact eR t1 ⟨ZF (by rw [← Zh3 hs oz]),rfl,rfl⟩

theorem Zp6 (q:Option Addr) (cp:Nat) (x:DBox) (B:Kn) (hx:SlK B q cp 3 Zam x.mail):Z6 (pj J) 204 [.agg #[.int .i64 x.next,.slice q x.mail.length cp]] B (.int .i64 (Zdw x)):=by
 refine cB 23 Tryz.func204 (h:=?_)
 have hxn:=hx.len
 refine Za (xBx [_,_] (h:=fun b1=>xA (h:=tL1 (Zc (Za (xL [_,_] Zmr 0 (h:=xR Zvf rfl (Zkh _ _ (⟨x.next,x.mail⟩:DBox) _ hx) (h:=xN (h:=Zb rfl (fun g0=>?_) (fun g0=>?_))))))))))
 try simp only [sQ,ne_eq] at g0
 refine Za (xA (h:=Zd (Zl ?_)))
 exact eR t1 ⟨ZF (by simp [Zdw,g0]),rfl,rfl⟩
 try simp only [sQ,ne_eq] at g0
 refine wSk (Za (xA (h:=Zc (Za (xW Zcc (h:=x1 ZkK 0 (h:=xV Tryz.underlying57 (h:=xM (h:=Zi (Zw (α:=Nat × Nat) [0,1,2,8,10,11] (fun g=>[(3,.int .i64 g.2),(12,.int .i64 g.1)]) [] (fun g=>[]) (fun g Bx=>Bx=B∧g.1≤x.mail.length∧g.2=ZaS (x.mail.take g.1)∧g.2≤g.1*2000000) (fun g=>x.mail.length - g.1) (0,0) t2 rfl (⟨rfl,Nat.zero_le _,by simp [ZaS],oz⟩) (fun g B3 hle3 hI=>?_)))))))))))
 obtain ⟨rfl,hk,hs,hl⟩:=hI
 refine ZB [(0,_),(1,_),(2,_),(3,_),(8,_),(10,_),(11,_),(12,_)] [_] t8 rfl (Za (ZE (h:=Zc (Zb rfl (fun g1=>?_) (fun g1=>?_)))))
 try simp only [sQ,ne_eq] at g1
 refine wSk (Zc (Zi (Za ?_)))
 obtain ⟨m,hm⟩:=ZU (xs:=x.mail) (i:=g.1) om
 obtain ⟨bb5,oo5,rfl⟩:=hx.base hm
 obtain ⟨_,⟨rfl,hb6⟩,hc6⟩:=hx.elem hm
 refine xIx Tryz.underlying57 Zdu (h:=yL [_,_,_] Zj8 hc6 0 (h:=xAl [_,_,_] ZkM (h:=fun b7=>xS [_,_,_] 1 [_,_,_] Zdu (h:=tL2 (Zf (xM (h:=xW Zd4 (h:=x1 lk9 1 (h:=xVs Tryz.underlying9 (h:=xD (h:=xA (h:=ZM (Zo (Zf (xD (h:=xM (h:=?_)))))))))))))))))
 exact ZA (g.1+1,g.2+m.text.length) [0] so2 ⟨rfl,oz,by rw [Zg7 hm,← hs],oz⟩ t8 rfl
 try simp only [sQ,ne_eq] at g1
 refine ZC (ZV (ZG (Zu (Zo (Za (xM (h:=xA (h:=Zd ?_))))))))
 exact eR t1 ⟨ZF (by rw [Zdw,if_pos g0,← Zh3 hs oz]),rfl,rfl⟩

theorem ZiI (n:Int) (B:Kn):Z6 (pj J) 28 [.int .i64 n] B (.bool (decide (0≤n) && decide (n≤63))):=by
 refine cB 9 Tryz.func28 (h:=?_)
 refine Za (xA (h:=Za (xM (h:=Zdy (h:=xM (h:=Zt (d:=5) rfl (fun g1=>?_) (fun g1=>?_)))))))
 refine xM (h:=Zb7 (h:=xT (h:=xA (h:=Zd ?_))))
 exact eR t1 ⟨Ze (by rw [Bool.eq_iff_iff];simp [g1];try omega),rfl,rfl⟩
 refine xP (h:=xP (h:=xF (h:=xA (h:=Zd ?_))))
 exact eR t1 ⟨Ze (by rw [Bool.eq_iff_iff];simp [g1];try omega),rfl,rfl⟩

theorem ZkR (u:DUser) (h1:u.name.length≤2000000) (h2:u.pass.length≤2000000) (B:Kn):Z6 (pj J) 135 [.agg #[str u.name,str u.pass,.int .i64 u.quota]] B (.bool (ZcE u)):=by
 refine cB 26 Tryz.func135 (h:=?_)
 refine Za (xBx [_,_,_] (h:=fun b1=>xA (h:=tL1 (Za (xW Zb4 (h:=x1 lk9 0 (h:=xR ZrE rfl (Zbo _ om2 _) (h:=?_))))))))
 refine xM (h:=Zt (d:=6) rfl (fun g1=>?_) (fun g1=>?_))
 try simp only [sQ,ne_eq] at g1
 refine xW Zb4 (h:=x1 lk9 0 (h:=ZcD (h:=xT (h:=xM (h:=Zt (d:=11) rfl (fun g2=>?_) (fun g2=>?_))))))
 try simp only [sQ,ne_eq] at g2
 refine xW Zhv (h:=x1 lk9 0 (h:=xR ZrE rfl (Zbo _ om2 _) (h:=?_)))
 refine xT (h:=xM (h:=Zt (d:=16) rfl (fun g3=>?_) (fun g3=>?_)))
 try simp only [sQ,ne_eq] at g3
 refine xW Ze5 (h:=x1 lk3 0 (h:=Zdy (h:=xT (h:=xM (h:=Zt (d:=21) rfl (fun g4=>?_) (fun g4=>?_))))))
 try simp only [sQ,ne_eq] at g4
 refine xW Ze5 (h:=x1 lk3 0 (h:=Zb7 (h:=xT (h:=xA (h:=Zd ?_)))))
 exact eR t1 ⟨Ze (by rw [Bool.eq_iff_iff];simp [ZcE,anyone,g1,g2,g3,g4];try omega),rfl,rfl⟩
 try simp only [sQ,ne_eq] at g4
 refine xP (h:=xP (h:=xP (h:=xF (h:=xA (h:=Zd ?_)))))
 exact eR t1 ⟨Ze (by rw [Bool.eq_iff_iff];simp [ZcE,anyone,g1,g2,g3,g4];try omega),rfl,rfl⟩
 try simp only [sQ,ne_eq] at g3
 refine xP (h:=xP (h:=xP (h:=xF (h:=xM (h:=xP (h:=xP (h:=xP (h:=xF (h:=xA (h:=Zd ?_))))))))))
 exact eR t1 ⟨Ze (by rw [Bool.eq_iff_iff];simp [ZcE,anyone,g1,g2,g3];try omega),rfl,rfl⟩
 try simp only [sQ,ne_eq] at g2
 refine xP (h:=xP (h:=xP (h:=xF (h:=xM (h:=xP (h:=xP (h:=xP (h:=xF (h:=xM (h:=xP (h:=xP (h:=xP (h:=xF (h:=xA (h:=Zd ?_)))))))))))))))
 exact eR t1 ⟨Ze (by rw [Bool.eq_iff_iff];simp [ZcE,anyone,g1,g2];try omega),rfl,rfl⟩
 try simp only [sQ,ne_eq] at g1
 refine xP (h:=xP (h:=xP (h:=xF (h:=xM (h:=xP (h:=xP (h:=xP (h:=xF (h:=xM (h:=xP (h:=xP (h:=xP (h:=xF (h:=xM (h:=xP (h:=xP (h:=xP (h:=xF (h:=xA (h:=Zd ?_))))))))))))))))))))
 exact eR t1 ⟨Ze (by rw [Bool.eq_iff_iff];simp [ZcE,anyone,g1];try omega),rfl,rfl⟩

theorem Zhl (q:Option Addr) (cp:Nat) (us:List DUser) (B:Kn) (hu:SlK B q cp 3 Zr us):Z6 (pj J) 104 [.slice q us.length cp] B (.bool (Zas us)):=by
 refine cB 32 Tryz.func104 (h:=?_)
 have hun:=hu.len
 refine Za (xA (h:=Zc (Za (xM (h:=xV Tryz.underlying30 (h:=ZE (h:=xM (h:=Zt (d:=9) rfl (fun g0=>?_) (fun g0=>?_)))))))))
 try simp only [sQ,ne_eq] at g0
 refine xP (h:=xP (h:=xP (h:=xT (h:=Zb (t:=true) rfl (fun _=>Za (xA (h:=Zd (Zl ?_)))) (fun h=>Bool.noConfusion h)))))
 exact eR t1 ⟨Ze (by rw [Bool.eq_iff_iff];simp [Zas];omega),rfl,rfl⟩
 try simp only [sQ,ne_eq] at g0
 refine xM (h:=xV Tryz.underlying30 (h:=Zdx (h:=xF (h:=Zb rfl (fun g0b=>?_) (fun g0b=>?_)))))
 try simp only [sQ,ne_eq] at g0b
 refine Za (xA (h:=Zd (Zl ?_)))
 exact eR t1 ⟨Ze (by rw [Bool.eq_iff_iff];simp [Zas];omega),rfl,rfl⟩
 try simp only [sQ,ne_eq] at g0b
 refine wSk (Za (xA (h:=Zc (Za (xM (h:=xV Tryz.underlying30 (h:=xM (h:=Zi (Zw (α:=Nat × Str) [0,13,14,15] (fun g=>[(3,str g.2),(16,.int .i64 g.1)]) [] (fun g=>[]) (fun g Bx=>Bx=B∧g.1≤us.length∧ZdR (us.take g.1)=(true,g.2)∧g.2.length≤2000000) (fun g=>us.length - g.1) (0,[]) t2 rfl (⟨rfl,Nat.zero_le _,Zfi,by simp⟩) (fun g B1 hle1 hI=>?_))))))))))
 obtain ⟨rfl,hk,hs,hl⟩:=hI
 refine ZB [(0,_),(3,_),(13,_),(14,_),(15,_),(16,_)] [] t6 rfl (Za (ZE (h:=Zc (Zb rfl (fun g1=>?_) (fun g1=>?_)))))
 try simp only [sQ,ne_eq] at g1
 refine wSk (Zc (Zi (Za ?_)))
 obtain ⟨m,hm⟩:=ZU (xs:=us) (i:=g.1) om
 obtain ⟨bb3,oo3,rfl⟩:=hu.base hm
 obtain ⟨_,⟨rfl,hb4,hb4b⟩,hc4⟩:=hu.elem hm
 refine xIx Tryz.underlying30 Zek (h:=yL [_,_,_] ZkJ hc4 0 (h:=xAl [_,_,_] Ziv (h:=fun b5=>xS [_,_,_] 0 [_,_,_] Zek (h:=tL1 (Zc (Za (xL [_,_,_] ZkJ 0 (h:=xR Zw8 rfl (ZkR m om2 om2 _) (h:=?_)))))))))
 refine xN (h:=xM (h:=Zt (d:=23) rfl (fun g2=>?_) (fun g2=>?_)))
 try simp only [sQ,ne_eq] at g2
 refine xP (h:=xP (h:=xP (h:=xP (h:=xT (h:=Zb (t:=true) rfl (fun _=>Za (xA (h:=Zd (Zl (Zy (Zl (ZO (Zy (Zl ?_))))))))) (fun h=>Bool.noConfusion h))))))
 exact eR t1 ⟨Ze (Zfe (Zfj hm (by rw [show (scn Zeg (fun _ u=>u.name) [] (us.take g.1)).2=g.2 from congrArg Prod.snd hs];simp [Zeg,g2]))).symm,rfl,rfl⟩
 try simp only [sQ,ne_eq] at g2
 refine xW Zb4 (h:=x1 lk9 0 (h:=xM (h:=Zk (Zr9 rfl rfl rfl rfl (xF (h:=Zb rfl (fun g3=>?_) (fun g3=>?_)))))))
 try simp only [sQ,ne_eq] at g3
 refine Za (xA (h:=Zd (Zl (Zy (Zl (ZO (Zy (Zl ?_))))))))
 exact eR t1 ⟨Ze (Zfe (Zfj hm (by rw [show (scn Zeg (fun _ u=>u.name) [] (us.take g.1)).2=g.2 from congrArg Prod.snd hs,Zeg,Zay g.2 m.name,g3];simp))).symm,rfl,rfl⟩
 try simp only [sQ,ne_eq] at g3
 refine wSk (Zf (xW Zb4 (h:=x1 lk9 0 (h:=xA (h:=ZM (Zo (Zf (xD (h:=xM (h:=?_))))))))))
 exact ZA (g.1+1,m.name) [] so2 ⟨rfl,oz,Zcn hm hs (by rw [Zeg,Zay g.2 m.name,g2,g3];rfl),oy⟩ t6 rfl
 try simp only [sQ,ne_eq] at g1
 refine ZC (ZV (ZG (Zu (Zo (Za (xA (h:=Zd ?_)))))))
 exact eR t1 ⟨Ze (by rw [Zg3 (ZdX hs oz),Bool.eq_iff_iff];simp;omega),rfl,rfl⟩

theorem ZjB (x:DUser) (u:Str) (b:Nat) (h1:x.name.length≤2000000) (h2:u.length≤2000000) (B:Kn) (hb:Zae B b 0 [str u]):Z6 (pj J) 114 [.agg #[str x.name,str x.pass,.int .i64 x.quota],ptr ⟨b,0,none⟩] B (.bool (decide (x.name=u))):=by
 refine cB 8 Tryz.func114 (h:=?_)
 refine Za (xBx [_,_,_] (h:=fun b1=>xA (h:=tL1 (Za (xW Zb4 (h:=x1 lk9 0 (h:=Zk (Zn rfl rfl lk9 rfl (hb _ 0 _ rfl) (Zdz (h:=xA (h:=Zd ?_)))))))))))
 exact eR t1 ⟨rfl,rfl,rfl⟩

theorem ZpE (q:Option Addr) (cp:Nat) (us:List DUser) (F:FuncId) (cap:Array Value) (t:DUser→Bool) (B:Kn) (hu:SlK B q cp 3 Zr us) (he:enters (pj J) F=true) (hF :∀x:DUser,x.name.length≤2000000→x.pass.length≤2000000→Z6 (pj J) F ([.agg #[str x.name,str x.pass,.int .i64 x.quota]] ++ cap.toList) B (.bool (t x))):Z6 (pj J) 113 [.slice q us.length cp,.func (.func F) #[] cap] B (.tuple #[.agg #[str (Zfv t us).1.name,str (Zfv t us).1.pass,.int .i64 (Zfv t us).1.quota],.bool (Zfv t us).2]):=by
 refine cB 21 Tryz.func113 (h:=?_)
 have hun:=hu.len
 refine Za (xAl [_,_,_] Ziv (h:=fun b1=>xA (h:=tL1 (Zc (Za (xM (h:=xV Tryz.underlying30 (h:=xM (h:=Zi (Zw (α:=Nat) [0,1,4,9,10] (fun k=>[(11,.int .i64 k)]) [] (fun k=>[]) (fun k Bx=>Bx=B∧k≤us.length∧∀y,y∈us.take k→t y=false) (fun k=>us.length - k) 0 t1 rfl (⟨rfl,Nat.zero_le _,by simp⟩) (fun k B2 hle2 hI=>?_)))))))))))
 obtain ⟨rfl,hk,ha⟩:=hI
 refine ZB [(0,_),(1,_),(4,_),(9,_),(10,_),(11,_)] [_] t6 rfl (Za (ZE (h:=Zc (Zb rfl (fun g1=>?_) (fun g1=>?_)))))
 try simp only [sQ,ne_eq] at g1
 refine wSk (Zc (Zi (Za ?_)))
 obtain ⟨m,hm⟩:=ZU (xs:=us) (i:=k) om
 obtain ⟨bb4,oo4,rfl⟩:=hu.base hm
 obtain ⟨_,⟨rfl,hb5,hb5b⟩,hc5⟩:=hu.elem hm
 refine xIx Tryz.underlying30 Zek (h:=yL [_,_,_] ZkJ hc5 0 (h:=xAl [_,_,_] Ziv (h:=fun b6=>xS [_,_,_] 1 [_,_,_] Zek (h:=tL2 (Za (xM (h:=xL [_,_,_] ZkJ 1 (h:=Zk (Zr4 rfl rfl he rfl rfl (hF m om2 om2) ?_)))))))))
 refine Zb rfl (fun g2=>?_) (fun g2=>?_)
 try simp only [sQ,ne_eq] at g2
 refine Za (xL [_,_,_] ZkJ 1 (h:=xS [_,_,_] 0 [_,_,_] Zek (h:=xA (h:=tL2 (Zd (Zy (Zl (ZO (Zy (Zl ?_))))))))))
 exact ZrD .ret (.inl rfl) [_,_] ⟨⟨_,rfl,.inr ⟨[_,_,_],ZkJ,ZcF 0 rfl rfl rfl,rfl⟩⟩,rfl,trivial⟩ ⟨by rw [ZpD hm g2 ha];rfl,rfl,rfl⟩
 try simp only [sQ,ne_eq] at g2
 refine ZT (ZM (Zo (Zf (xD (h:=xM (h:=?_))))))
 exact ZA (k+1) [0] so2 ⟨rfl,oz,Zba hm ha g2⟩ t6 rfl
 try simp only [sQ,ne_eq] at g1
 refine ZC (ZV (ZG (Zu (Zo (Za (xAl [_,_,_] Ziv (h:=fun b8=>tL2 (Za (xL [_,_,_] ZkJ 1 (h:=xS [_,_,_] 0 [_,_,_] Zek (h:=xA (h:=tL2 (Zd ?_)))))))))))))
 exact ZrD .ret (.inl rfl) [_,_] ⟨⟨_,rfl,.inr ⟨[_,_,_],ZkJ,ZcF 0 rfl rfl rfl,rfl⟩⟩,rfl,trivial⟩ ⟨by rw [Znz (Zbk oz ha)];rfl,rfl,rfl⟩

theorem Zg5 (q:Option Addr) (cp:Nat) (us:List DUser) (nm:Str) (hn:nm.length≤2000000) (B:Kn) (hu:SlK B q cp 3 Zr us):Z6 (pj J) 71 [.slice q us.length cp,str nm] B (.tuple #[.agg #[str (Z9 us nm).1.name,str (Z9 us nm).1.pass,.int .i64 (Z9 us nm).1.quota],.bool (Z9 us nm).2]):=by
 refine cB 15 Tryz.func71 (h:=?_)
 have hun:=hu.len
 refine Za (xBx [_] (h:=fun b1=>xAl [_,_,_] Ziv (h:=fun b2=>xA (h:=tL2 (Zc (Za (xM (h:=xR Zvg rfl (Zhl _ _ _ _ hu) (h:=xN (h:=Zb rfl (fun g0=>?_) (fun g0=>?_)))))))))))
 try simp only [sQ,ne_eq] at g0
 refine Za (xB [] [_,_,_] [_,_,_] Zyn Ziv (h:=xS [_,_,_] 1 [_,_,_] Zek (h:=xA (h:=tL2 (Zd (Zl ?_))))))
 exact ZrD .ret (.inl rfl) [_,_] ⟨⟨_,rfl,.inr ⟨[_,_,_],ZkJ,ZcF 1 rfl rfl rfl,rfl⟩⟩,rfl,trivial⟩ ⟨by rw [Z9,g0];rfl,rfl,rfl⟩
 try simp only [sQ,ne_eq] at g0
 refine wSk (Za (xM (h:=Zk (ZcQ (xs:=[]) (ys:=[_]) rfl rfl rfl rfl (Zk (ZgY 0 rfl rfl rfl Zxs rfl (Z6.borrow fun hm=>ZpE _ _ us 114 _ (fun y=>decide (y.name=nm)) _ (hu.mono Zr.mono (Kn.le_add _ _)) Zxr (fun y h1 h2=>ZjB y nm _ h1 hn _ (ZiH hm))) (xE (h:=xE (h:=xS [_,_,_] 1 [_,_,_] Zek (h:=xA (h:=tL2 (Zd ?_))))))))))))
 exact ZrD .ret (.inl rfl) [_,_] ⟨⟨_,rfl,.inr ⟨[_,_,_],ZkJ,ZcF 1 rfl rfl rfl,rfl⟩⟩,rfl,trivial⟩ ⟨by rw [Z9,if_pos g0];rfl,rfl,rfl⟩

theorem ZfR (b o:Nat) (q1 q2 q3:Option Addr) (c1 c2 c3:Nat) (x:DHost) (nm:Str) (hn:nm.length≤2000000) (B:Kn) (hh:Zae B b o [str x.domain,.slice q1 x.users.length c1,.slice q2 x.folders.length c2,.int .i64 x.queue.next,.slice q3 x.queue.items.length c3]) (hu:SlK B q1 c1 3 Zr x.users):Z6 (pj J) 31 [ptr ⟨b,o,none⟩,str nm] B (.bool (Z9 x.users nm).2):=by
 refine cB 17 Tryz.func31 (h:=?_)
 refine Za (xA (h:=Za (xM (h:=xNc (h:=xW ZbC (h:=Zk (Zn rfl rfl Zib rfl (hh _ 1 _ rfl) (xM (h:=xR Zx4 rfl (Zg5 _ _ _ nm om2 _ hu) (h:=?_))))))))))
 refine xM (h:=xE (h:=xE (h:=xAl [_,_,_] Ziv (h:=fun b2=>xS [_,_,_] 0 [_,_,_] Zek (h:=xA (h:=tL1 (Za (xM (h:=xA (h:=Zd ?_))))))))))
 exact eR t1 ⟨rfl,rfl,rfl⟩

theorem Zkc (q1 q2 q3:Option Addr) (c1 c2 c3:Nat) (x:DHost) (ow nm:Str) (ho:ow.length≤2000000) (hn:nm.length≤2000000) (B:Kn) (hf:SlK B q2 c2 5 Zs x.folders):Z6 (pj J) 20 [.agg #[str x.domain,.slice q1 x.users.length c1,.slice q2 x.folders.length c2,.int .i64 x.queue.next,.slice q3 x.queue.items.length c3],str ow,str nm] B (.int .i64 (Zb8 (inF ow nm) x.folders)):=by
 refine cB 34 Tryz.func20 (h:=?_)
 have hfn:=hf.len
 refine Za (xBx [_,_,_,_,_] (h:=fun b1=>xA (h:=tL1 (Zc (Za (xA (h:=Zi (Zw (α:=Nat) [0,1,2,3] (fun k=>[(7,.int .i64 k)]) [] (fun k=>[]) (fun k Bx=>Bx=B∧k≤x.folders.length∧∀y,y∈x.folders.take k→inF ow nm y=false) (fun k=>x.folders.length - k) 0 t1 rfl (⟨rfl,Nat.zero_le _,by simp⟩) (fun k B2 hle2 hI=>?_)))))))))
 obtain ⟨rfl,hk,ha⟩:=hI
 refine ZB [(0,_),(1,_),(2,_),(3,_),(7,_)] [_] t5 rfl (Zc (Za (xM (h:=xW Zal (h:=x1 Zec 0 (h:=xV Tryz.underlying31 (h:=ZE (h:=Zb rfl (fun g1=>?_) (fun g1=>?_)))))))))
 try simp only [sQ,ne_eq] at g1
 refine wSk (Zc (Zi (Za (xW Zal (h:=x1 Zec 0 (h:=xM (h:=?_)))))))
 obtain ⟨y,hy⟩:=ZU (xs:=x.folders) (i:=k) om
 obtain ⟨bb4,oo4,rfl⟩:=hf.base hy
 obtain ⟨_,⟨qg5,cg5,qm5,cm5,rfl,hg5,hm5,hb5,hb5b⟩,hc5⟩:=hf.elem hy
 have hg5n:=hg5.len
 have hm5n:=hm5.len
 have hm5s:=Zad hm5
 refine xIx Tryz.underlying31 Zbw (h:=xW Zb5 (h:=y1 lk9 hc5 0 (h:=xM (h:=Zdz (h:=xM (h:=Zt (d:=23) rfl (fun g2=>?_) (fun g2=>?_)))))))
 try simp only [sQ,ne_eq] at g2
 refine xW Zal (h:=x1 Zec 0 (h:=xM (h:=xIx Tryz.underlying31 Zbw (h:=xW ZdI (h:=y1 lk9 hc5 1 (h:=xM (h:=Zdz (h:=xT (h:=Zb rfl (fun g3=>?_) (fun g3=>?_))))))))))
 try simp only [sQ,ne_eq] at g3
 refine Za (xM (h:=xA (h:=Zd (Zy (Zl (ZO (Zy (Zl ?_))))))))
 exact eR t1 ⟨ZF (ZgS hy (by simp [inF,g2,g3]) ha).symm,rfl,rfl⟩
 try simp only [sQ,ne_eq] at g3
 refine ZT (ZM (Zo (Zf (xM (h:=xD (h:=xA (h:=?_)))))))
 exact ZA (k+1) [0] so2 ⟨rfl,oz,Zba hy ha (by simp [inF,g2,g3])⟩ t5 rfl
 try simp only [sQ,ne_eq] at g2
 refine xP (h:=xP (h:=xP (h:=xP (h:=xP (h:=xP (h:=xP (h:=xP (h:=xF (h:=Zb (t:=false) rfl (fun h=>Bool.noConfusion h) (fun _=>ZT (ZM (Zo (Zf (xM (h:=xD (h:=xA (h:=?_)))))))))))))))))
 exact ZA (k+1) [0] so2 ⟨rfl,oz,Zba hy ha (by simp [inF,g2])⟩ t5 rfl
 try simp only [sQ,ne_eq] at g1
 refine ZC (ZV (ZG (Zu (Zo (Za (xA (h:=Zd ?_)))))))
 exact eR t1 ⟨ZF (Zev (Zbk oz ha)).symm,rfl,rfl⟩

theorem ZtF (f:DFolder) (qa qb:Option Addr) (ca cb:Nat) (ow nm:Str) (b b':Nat) (h1:f.owner.length≤2000000) (h2:f.name.length≤2000000) (h3:ow.length≤2000000) (h4:nm.length≤2000000) (B:Kn) (hb:Zae B b 0 [str ow]) (hb2:Zae B b' 0 [str nm]):Z6 (pj J) 87 [.agg #[str f.owner,str f.name,.slice qa f.grants.length ca,.int .i64 f.next,.slice qb f.mail.length cb],ptr ⟨b,0,none⟩,ptr ⟨b',0,none⟩] B (.bool (inF ow nm f)):=by
 refine cB 15 Tryz.func87 (h:=?_)
 refine Za (xBx [_,_,_,_,_] (h:=fun b1=>xA (h:=tL1 (Za (xW Zb5 (h:=x1 lk9 0 (h:=Zk (Zn rfl rfl lk9 rfl (hb _ 0 _ rfl) (Zdz (h:=xM (h:=Zt (d:=9) rfl (fun g1=>?_) (fun g1=>?_))))))))))))
 refine xW ZdI (h:=x1 lk9 0 (h:=Zk (Zn rfl rfl lk9 rfl (hb2 _ 0 _ rfl) (Zdz (h:=xT (h:=xA (h:=Zd ?_)))))))
 exact eR t1 ⟨Ze (by rw [Bool.eq_iff_iff];simp [inF,g1]),rfl,rfl⟩
 refine xP (h:=xP (h:=xP (h:=xP (h:=xF (h:=xA (h:=Zd ?_))))))
 exact eR t1 ⟨Ze (by rw [Bool.eq_iff_iff];simp [inF,g1]),rfl,rfl⟩

theorem Zrh (q:Option Addr) (cp:Nat) (fs:List DFolder) (F:FuncId) (cap:Array Value) (t:DFolder→Bool) (B:Kn) (hf:SlK B q cp 5 Zs fs) (he:enters (pj J) F=true) (hF :∀(f:DFolder) (qa qb:Option Addr) (ca cb:Nat),f.owner.length≤2000000→f.name.length≤2000000→Z6 (pj J) F ([.agg #[str f.owner,str f.name,.slice qa f.grants.length ca,.int .i64 f.next,.slice qb f.mail.length cb]] ++ cap.toList) B (.bool (t f))):Z6 (pj J) 86 [.slice q fs.length cp,.func (.func F) #[] cap] B (.int .i64 (Zb8 t fs)):=by
 refine cB 19 Tryz.func86 (h:=?_)
 have hfn:=hf.len
 refine Za (xA (h:=Zc (Za (xM (h:=xV Tryz.underlying31 (h:=xM (h:=Zi (Zw (α:=Nat) [0,1,7] (fun k=>[(8,.int .i64 k)]) [] (fun k=>[]) (fun k Bx=>Bx=B∧k≤fs.length∧∀y,y∈fs.take k→t y=false) (fun k=>fs.length - k) 0 t1 rfl (⟨rfl,Nat.zero_le _,by simp⟩) (fun k B1 hle1 hI=>?_)))))))))
 obtain ⟨rfl,hk,ha⟩:=hI
 refine ZB [(0,_),(1,_),(7,_),(8,_)] [] t4 rfl (Za (ZE (h:=Zc (Zb rfl (fun g1=>?_) (fun g1=>?_)))))
 try simp only [sQ,ne_eq] at g1
 refine wSk (Zc (Zi (Za (xM (h:=xA (h:=Za (xM (h:=xM (h:=xM (h:=?_))))))))))
 obtain ⟨y,hy⟩:=ZU (xs:=fs) (i:=k) om
 obtain ⟨bb3,oo3,rfl⟩:=hf.base hy
 obtain ⟨_,⟨qg4,cg4,qm4,cm4,rfl,hg4,hm4,hb4,hb4b⟩,hc4⟩:=hf.elem hy
 have hg4n:=hg4.len
 have hm4n:=hm4.len
 have hm4s:=Zad hm4
 refine xIx Tryz.underlying31 Zbw (h:=yL [_,_,_,_,_] ZhQ hc4 0 (h:=Zk (Zr4 rfl rfl he rfl rfl (hF y _ _ _ _ om2 om2) ?_)))
 refine Zb rfl (fun g2=>?_) (fun g2=>?_)
 try simp only [sQ,ne_eq] at g2
 refine Za (xM (h:=xA (h:=Zd (Zy (Zl (ZO (Zy (Zl ?_))))))))
 exact eR t1 ⟨ZF (ZgS hy g2 ha).symm,rfl,rfl⟩
 try simp only [sQ,ne_eq] at g2
 refine ZT (ZM (Zo (Zf (xD (h:=xM (h:=?_))))))
 exact ZA (k+1) [] so2 ⟨rfl,oz,Zba hy ha g2⟩ t4 rfl
 try simp only [sQ,ne_eq] at g1
 refine ZC (ZV (ZG (Zu (Zo (Za (xA (h:=Zd ?_)))))))
 exact eR t1 ⟨ZF (Zev (Zbk oz ha)).symm,rfl,rfl⟩

theorem Zsx (b o:Nat) (q1 q2 q3:Option Addr) (c1 c2 c3:Nat) (x:DHost) (ow nm:Str) (ho:ow.length≤2000000) (hn:nm.length≤2000000) (B:Kn) (hh:Zae B b o [str x.domain,.slice q1 x.users.length c1,.slice q2 x.folders.length c2,.int .i64 x.queue.next,.slice q3 x.queue.items.length c3]) (hf:SlK B q2 c2 5 Zs x.folders):Z6 (pj J) 46 [ptr ⟨b,o,none⟩,str ow,str nm] B (.int .i64 (Zb8 (inF ow nm) x.folders)):=by
 refine cB 13 Tryz.func46 (h:=?_)
 refine Za (xBx [_] (h:=fun b1=>xBx [_] (h:=fun b2=>xA (h:=tL2 (Za (xM (h:=xNc (h:=xW Zal (h:=Zk (Zn rfl rfl Zec rfl (hh _ 2 _ rfl) (Zk (ZcQ (xs:=[]) (ys:=[_,_]) rfl rfl rfl rfl (Zk (Zua 0 1 rfl rfl rfl rfl rfl ZyF rfl (Z6.borrow2 fun hm1 hm2=>Zrh _ _ x.folders 87 _ (inF ow nm) _ ((hf.mono Zs.mono (Kn.le_add _ _)).mono Zs.mono (Kn.le_add _ _)) ZyE (fun f qa qb ca cb h1 h2=>ZtF f qa qb ca cb ow nm _ _ h1 h2 ho hn _ (ZiH hm1) (ZiH hm2))) (xA (h:=Zd ?_))))))))))))))))
 exact eR t1 ⟨rfl,rfl,rfl⟩

theorem Zk8 (b o:Nat) (q1 q2 q3:Option Addr) (c1 c2 c3:Nat) (x:DHost) (B:Kn) (hh:Zae B b o [str x.domain,.slice q1 x.users.length c1,.slice q2 x.folders.length c2,.int .i64 x.queue.next,.slice q3 x.queue.items.length c3]) (hu:SlK B q1 c1 3 Zr x.users) (hi:SlK B q3 c3 4 ZK x.queue.items):Z6 (pj J) 108 [ptr ⟨b,o,none⟩] B (.bool (x.queue.items.all (ZcO x.users))):=by
 refine cB 35 Tryz.func108 (h:=?_)
 have hin:=hi.len
 refine Za (xA (h:=Zc (Za (xM (h:=xNc (h:=xW Zee (h:=xW ZbD (h:=Zk (Zn rfl rfl Zia rfl (hh _ 4 _ rfl) (xV Tryz.underlying32 (h:=xM (h:=Zi (Zw (α:=Nat) [0,11,12] (fun k=>[(13,.int .i64 k)]) [] (fun k=>[]) (fun k Bx=>Bx=B∧k≤x.queue.items.length∧∀y,y∈x.queue.items.take k→ZcO x.users y=true) (fun k=>x.queue.items.length - k) 0 t1 rfl (⟨rfl,Nat.zero_le _,by simp⟩) (fun k B1 hle1 hI=>?_))))))))))))))
 obtain ⟨rfl,hk,ha⟩:=hI
 refine ZB [(0,_),(11,_),(12,_),(13,_)] [] t4 rfl (Za (ZE (h:=Zc (Zb rfl (fun g1=>?_) (fun g1=>?_)))))
 try simp only [sQ,ne_eq] at g1
 refine wSk (Zc (Zi (Za ?_)))
 obtain ⟨y,hy⟩:=ZU (xs:=x.queue.items) (i:=k) om
 obtain ⟨bb3,oo3,rfl⟩:=hi.base hy
 obtain ⟨_,⟨qi4,ci4,rfl,hi4,hb4,hb4b⟩,hc4⟩:=hi.elem hy
 have hi4n:=hi4.len
 refine xIx Tryz.underlying32 Zbl (h:=yL [_,_,_,_] Zeo hc4 0 (h:=xAl [_,_,_,_] ZeV (h:=fun b5=>xS [_,_,_,_] 0 [_,_,_,_] Zbl (h:=tL1 (Zc (Za (xM (h:=xW Zd5 (h:=x1 lk9 0 (h:=xR Zvc rfl (ZfR _ _ _ _ _ _ _ _ x y.fr om2 _ hh hu) (h:=?_)))))))))))
 refine xN (h:=Zb rfl (fun g2=>?_) (fun g2=>?_))
 try simp only [sQ,ne_eq] at g2
 refine Za (xA (h:=Zd (Zl (Zy (Zl (ZO (Zy (Zl ?_))))))))
 exact eR t1 ⟨Ze (Zdq hy (by simp [ZcO,g2])).symm,rfl,rfl⟩
 try simp only [sQ,ne_eq] at g2
 refine wSk (Za (xW Zci (h:=x1 Zj7 0 (h:=xV Tryz.underlying99 (h:=xM (h:=Zi (Zw (α:=Nat) [0,4,11,12,13,14,21,23,24] (fun j=>[(25,.int .i64 j)]) [] (fun j=>[]) (fun j Bx=>Bx=B1∧j≤y.left.length∧∀z,z∈y.left.take j→(Z9 x.users z).2=true) (fun j=>y.left.length - j) 0 t1 rfl (⟨rfl,Nat.zero_le _,by simp⟩) (fun j B7 hle7 hI=>?_))))))))
 obtain ⟨rfl,hj,hb⟩:=hI
 refine ZB [(0,_),(4,_),(11,_),(12,_),(13,_),(14,_),(21,_),(23,_),(24,_),(25,_)] [_] t10 rfl (Za (ZE (h:=Zc (Zb rfl (fun g3=>?_) (fun g3=>?_)))))
 try simp only [sQ,ne_eq] at g3
 refine wSk (Zc (Zi (Za ?_)))
 obtain ⟨z,hz⟩:=ZU (xs:=y.left) (i:=j) om
 obtain ⟨bb9,oo9,rfl⟩:=hi4.base hz
 obtain ⟨_,⟨rfl,hb10⟩,hc10⟩:=hi4.elem hz
 refine xIx Tryz.underlying99 sz9 (h:=y1 lk9 hc10 0 (h:=xA (h:=Za (xM (h:=xM (h:=xR Zvc rfl (ZfR _ _ _ _ _ _ _ _ x z om2 _ hh hu) (h:=?_)))))))
 refine xN (h:=Zb rfl (fun g4=>?_) (fun g4=>?_))
 try simp only [sQ,ne_eq] at g4
 refine Za (xA (h:=Zd (Zy (Zl (ZO (Zy (Zy (Zl (ZO (Zy (Zl ?_)))))))))))
 exact eR t1 ⟨Ze (Zdq hy (by rw [ZcO,Zdq hz g4,Bool.and_false])).symm,rfl,rfl⟩
 try simp only [sQ,ne_eq] at g4
 refine ZT (ZM (Zo (Zf (xD (h:=xM (h:=?_))))))
 exact ZA (j+1) [0] so2 ⟨rfl,oz,Zba hz hb g4⟩ t10 rfl
 try simp only [sQ,ne_eq] at g3
 refine ZC (ZV (ZG (Zu (ZM (Zo (Zf (xD (h:=xM (h:=?_)))))))))
 exact ZA (k+1) [] so2 ⟨rfl,oz,Zba hy ha (by rw [ZcO,g2,ZeS (Zbk oz hb)];rfl)⟩ t4 rfl
 try simp only [sQ,ne_eq] at g1
 refine ZC (ZV (ZG (Zu (Zo (Za (xA (h:=Zd ?_)))))))
 exact eR t1 ⟨Ze (ZeS (Zbk oz ha)).symm,rfl,rfl⟩

theorem Zo7 (f g:DFolder) (qa qb qc qd:Option Addr) (ca cb cc cd:Nat) (B:Kn):Z6 (pj J) 43 [.agg #[str f.owner,str f.name,.slice qa f.grants.length ca,.int .i64 f.next,.slice qb f.mail.length cb],.agg #[str g.owner,str g.name,.slice qc g.grants.length cc,.int .i64 g.next,.slice qd g.mail.length cd]] B (.bool (Zeq f g)):=by
 refine cB 24 Tryz.func43 (h:=?_)
 refine Za (xBx [_,_,_,_,_] (h:=fun b1=>xBx [_,_,_,_,_] (h:=fun b2=>xA (h:=tL2 (Za (xW Zb5 (h:=x1 lk9 0 (h:=xW Zb5 (h:=x1 lk9 1 (h:=ZnZ (h:=xM (h:=Zt (d:=10) rfl (fun g1=>?_) (fun g1=>?_)))))))))))))
 refine xP (h:=xP (h:=xP (h:=xP (h:=xP (h:=xP (h:=xP (h:=xP (h:=xP (h:=xP (h:=xP (h:=xP (h:=xT (h:=xA (h:=Zd ?_))))))))))))))
 exact eR t1 ⟨Ze (by rw [Bool.eq_iff_iff];simp [Zeq,ZaL,g1]),rfl,rfl⟩
 refine xW Zb5 (h:=x1 lk9 0 (h:=xW Zb5 (h:=x1 lk9 1 (h:=Zdz (h:=xM (h:=Zt (d:=16) rfl (fun g2=>?_) (fun g2=>?_)))))))
 refine xW ZdI (h:=x1 lk9 0 (h:=xW ZdI (h:=x1 lk9 1 (h:=ZnZ (h:=xT (h:=xF (h:=xA (h:=Zd ?_))))))))
 exact eR t1 ⟨Ze (by rw [Bool.eq_iff_iff];simp [Zeq,ZaL,g1,g2]),rfl,rfl⟩
 refine xP (h:=xP (h:=xP (h:=xP (h:=xP (h:=xF (h:=xF (h:=xA (h:=Zd ?_))))))))
 exact eR t1 ⟨Ze (by rw [Bool.eq_iff_iff];simp [Zeq,ZaL,g1,g2]),rfl,rfl⟩

theorem Zk0 (q:Option Addr) (cp:Nat) (us:List DUser) (B:Kn) (hu:SlK B q cp 3 Zr us):Z6 (pj J) 54 [.slice q us.length cp] B (.bool (Zas us)):=by
 refine cB 54 Tryz.func54 (h:=?_)
 have hun:=hu.len
 refine Za (xA (h:=Zc (Za (xA (h:=Zi (Zw (α:=Nat × Str) [0] (fun g=>[(3,.int .i64 g.1)]) [] (fun g=>[]) (fun g Bx=>Bx=B∧g.1≤us.length∧ZdR (us.take g.1)=(true,g.2)∧Prev (fun y=>y.name) ([]:Str) us g.1 g.2) (fun g=>us.length - g.1) (0,[]) t1 rfl (⟨rfl,Nat.zero_le _,Zfi,.zero⟩) (fun g B1 hle1 hI=>?_)))))))
 obtain ⟨rfl,hk,hs,hp⟩:=hI
 refine ZB [(0,_),(3,_)] [] t2 rfl (Zc (Za (xM (h:=xM (h:=xV Tryz.underlying30 (h:=ZE (h:=Zb rfl (fun g1=>?_) (fun g1=>?_))))))))
 try simp only [sQ,ne_eq] at g1
 refine wSk (Zc (Zi (Za (xM (h:=xM (h:=?_))))))
 obtain ⟨m,hm⟩:=ZU (xs:=us) (i:=g.1) om
 obtain ⟨bb3,oo3,rfl⟩:=hu.base hm
 obtain ⟨_,⟨rfl,hb4,hb4b⟩,hc4⟩:=hu.elem hm
 refine xIx Tryz.underlying30 Zek (h:=yL [_,_,_] ZkJ hc4 0 (h:=xAl [_,_,_] Ziv (h:=fun b5=>xS [_,_,_] 0 [_,_,_] Zek (h:=tL1 (Zc (Z2 (same _ _) mo kr ⟨rfl,rfl⟩ (fun _ _=>?_)))))))
 refine aW 0 rfl Zb4 (h:=aT 1 rfl (Zag fun D=>Zn rfl rfl lk9 rfl (atL 0 rfl rfl rfl) r4) (h:=aT 2 rfl (Zag fun D=>Zaf rfl rfl Zsy rfl (ZbP _ om2 _) r4) (h:=?_)))
 refine aN 3 rfl (h:=aM 4 rfl (h:=Zav (d:=19) rfl (fun g2=>?_) (fun g2=>?_)))
 try simp only [sQ,ne_eq] at g2
 refine aZ 5 rfl (h:=aZ 6 rfl (h:=aZ 7 rfl (h:=aPT 8 rfl (h:=aM 9 rfl (h:=aZ 10 rfl (h:=aZ 11 rfl (h:=aZ 12 rfl (h:=aZ 13 rfl (h:=aPT 14 rfl (h:=aM 15 rfl (h:=aZ 16 rfl (h:=aZ 17 rfl (h:=aZ 18 rfl (h:=aZ 19 rfl (h:=aPT 20 rfl (h:=aM 21 rfl (h:=aZ 22 rfl (h:=aZ 23 rfl (h:=aZ 24 rfl (h:=aZ 25 rfl (h:=aZ 26 rfl (h:=aZ 27 rfl (h:=aZ 28 rfl (h:=aZ 29 rfl (h:=aZ 30 rfl (h:=aZ 31 rfl (h:=aZ 32 rfl (h:=aZ 33 rfl (h:=aZ 34 rfl (h:=aPT 35 rfl (h:=Zx kr kr ?_)))))))))))))))))))))))))))))))
 refine Zo (Zb (t:=true) rfl (fun _=>Za (xA (h:=Zd (Zy (Zl (ZO (Zy (Zl ?_)))))))) (fun h=>Bool.noConfusion h))
 exact eR t1 ⟨Ze (Zc0 hm hs (by simp [Zeg,ZcE,anyone,g1,g2])).symm,rfl,rfl⟩
 try simp only [sQ,ne_eq] at g2
 refine aW 5 rfl Zb4 (h:=aT 6 rfl (Zag fun D=>Zn rfl rfl lk9 rfl (atL 0 rfl rfl rfl) r4) (h:=Zqg 7 rfl (h:=aPF 8 rfl (h:=aM 9 rfl (h:=Zav (d:=24) rfl (fun g3=>?_) (fun g3=>?_))))))
 try simp only [sQ,ne_eq] at g3
 refine aZ 10 rfl (h:=aZ 11 rfl (h:=aZ 12 rfl (h:=aZ 13 rfl (h:=aPT 14 rfl (h:=aM 15 rfl (h:=aZ 16 rfl (h:=aZ 17 rfl (h:=aZ 18 rfl (h:=aZ 19 rfl (h:=aPT 20 rfl (h:=aM 21 rfl (h:=aZ 22 rfl (h:=aZ 23 rfl (h:=aZ 24 rfl (h:=aZ 25 rfl (h:=aZ 26 rfl (h:=aZ 27 rfl (h:=aZ 28 rfl (h:=aZ 29 rfl (h:=aZ 30 rfl (h:=aZ 31 rfl (h:=aZ 32 rfl (h:=aZ 33 rfl (h:=aZ 34 rfl (h:=aPT 35 rfl (h:=Zx kr kr ?_))))))))))))))))))))))))))
 refine Zo (Zb (t:=true) rfl (fun _=>Za (xA (h:=Zd (Zy (Zl (ZO (Zy (Zl ?_)))))))) (fun h=>Bool.noConfusion h))
 exact eR t1 ⟨Ze (Zc0 hm hs (by simp [Zeg,ZcE,anyone,g1,g2,g3])).symm,rfl,rfl⟩
 try simp only [sQ,ne_eq] at g3
 refine aW 10 rfl Zhv (h:=aT 11 rfl (Zag fun D=>Zn rfl rfl lk9 rfl (atL 0 rfl rfl rfl) r4) (h:=aT 12 rfl (Zag fun D=>Zaf rfl rfl Zsy rfl (ZbP _ om2 _) r4) (h:=?_)))
 refine aN 13 rfl (h:=aPF 14 rfl (h:=aM 15 rfl (h:=Zav (d:=30) rfl (fun g4=>?_) (fun g4=>?_))))
 try simp only [sQ,ne_eq] at g4
 refine aZ 16 rfl (h:=aZ 17 rfl (h:=aZ 18 rfl (h:=aZ 19 rfl (h:=aPT 20 rfl (h:=aM 21 rfl (h:=aZ 22 rfl (h:=aZ 23 rfl (h:=aZ 24 rfl (h:=aZ 25 rfl (h:=aZ 26 rfl (h:=aZ 27 rfl (h:=aZ 28 rfl (h:=aZ 29 rfl (h:=aZ 30 rfl (h:=aZ 31 rfl (h:=aZ 32 rfl (h:=aZ 33 rfl (h:=aZ 34 rfl (h:=aPT 35 rfl (h:=Zx kr kr ?_))))))))))))))))))))
 refine Zo (Zb (t:=true) rfl (fun _=>Za (xA (h:=Zd (Zy (Zl (ZO (Zy (Zl ?_)))))))) (fun h=>Bool.noConfusion h))
 exact eR t1 ⟨Ze (Zc0 hm hs (by simp [Zeg,ZcE,anyone,g1,g2,g3,g4])).symm,rfl,rfl⟩
 try simp only [sQ,ne_eq] at g4
 refine aW 16 rfl Ze5 (h:=aT 17 rfl (Zag fun D=>Zn rfl rfl lk3 rfl (atL 0 rfl rfl rfl) r4) (h:=aT 18 rfl (Zag fun D=>Zaf rfl rfl Zqm rfl (Ze4 _ _ _ _) r4) (h:=aN 19 rfl (h:=aPF 20 rfl (h:=aM 21 rfl (h:=Zav (d:=36) rfl (fun g5=>?_) (fun g5=>?_)))))))
 try simp only [sQ,ne_eq] at g5
 refine aZ 22 rfl (h:=aZ 23 rfl (h:=aZ 24 rfl (h:=aZ 25 rfl (h:=aZ 26 rfl (h:=aZ 27 rfl (h:=aZ 28 rfl (h:=aZ 29 rfl (h:=aZ 30 rfl (h:=aZ 31 rfl (h:=aZ 32 rfl (h:=aZ 33 rfl (h:=aZ 34 rfl (h:=aPT 35 rfl (h:=Zx kr kr ?_))))))))))))))
 refine Zo (Zb (t:=true) rfl (fun _=>Za (xA (h:=Zd (Zy (Zl (ZO (Zy (Zl ?_)))))))) (fun h=>Bool.noConfusion h))
 exact eR t1 ⟨Ze (Zc0 hm hs (by simp [Zeg,ZcE,anyone,g1,g2,g3,g4,g5])).symm,rfl,rfl⟩
 try simp only [sQ,ne_eq] at g5
 refine aM 22 rfl (h:=ZnR 23 rfl (h:=aM 24 rfl (h:=Zav (d:=39) rfl (fun g6=>?_) (fun g6=>?_))))
 try simp only [sQ,ne_eq] at g6
 refine aM 25 rfl (h:=aM 26 rfl (h:=aU 27 rfl (h:=?_)))
 obtain ⟨y,hy⟩:=Zsk (xs:=us) (i:=(↑g.1 - 1)) om om
 obtain ⟨_,⟨rfl,hb10,hb10b⟩,hc10⟩:=hu.elem hy
 refine aIx 28 rfl Tryz.underlying30 Zek (h:=?_)
 have hpe:=hp.at hy oz
 refine aW 29 rfl Zb4 (h:=aT 30 rfl (Zag fun D=>Zn rfl rfl lk9 rfl (hc10 _ 0 _ rfl) r4) (h:=aW 31 rfl Zb4 (h:=aT 32 rfl (Zag fun D=>Zn rfl rfl lk9 rfl (atL 0 rfl rfl rfl) r4) (h:=aT 33 rfl (Zag fun D=>Zn8 rfl rfl rfl rfl r4) (h:=aPT 34 rfl (h:=aPF 35 rfl (h:=Zx kr kr ?_)))))))
 refine Zo (Zb rfl (fun g7=>?_) (fun g7=>?_))
 try simp only [sQ,ne_eq] at g7
 refine Za (xA (h:=Zd (Zy (Zl (ZO (Zy (Zl ?_)))))))
 exact eR t1 ⟨Ze (Zc0 hm hs (by simp [Zeg,ZcE,anyone,g1,g2,g3,g4,g5,g6,g7,hpe])).symm,rfl,rfl⟩
 try simp only [sQ,ne_eq] at g7
 refine ZT (ZM (Zo (Zf (xM (h:=xD (h:=xA (h:=?_)))))))
 exact ZA (g.1+1,m.name) [] so2 ⟨rfl,oz,Zcn hm hs (by rw [hpe];simp [Zeg,ZcE,anyone,g2,g3,g4,g7];simp at g5;omega),.succ hm⟩ t2 rfl
 try simp only [sQ,ne_eq] at g6
 refine aZ 25 rfl (h:=aZ 26 rfl (h:=aZ 27 rfl (h:=aZ 28 rfl (h:=aZ 29 rfl (h:=aZ 30 rfl (h:=aZ 31 rfl (h:=aZ 32 rfl (h:=aZ 33 rfl (h:=aPF 34 rfl (h:=aPF 35 rfl (h:=Zx kr kr ?_)))))))))))
 refine Zo (Zb (t:=false) rfl (fun h=>Bool.noConfusion h) (fun _=>ZT (ZM (Zo (Zf (xM (h:=xD (h:=xA (h:=?_)))))))))
 exact ZA (g.1+1,m.name) [] so2 ⟨rfl,oz,Zcn hm hs (by rw [hp.at0 oz];simp [Zeg,ZcE,anyone,g2,g3,g4,ZiM (Zgf g2)];simp at g5;omega),.succ hm⟩ t2 rfl
 try simp only [sQ,ne_eq] at g1
 refine ZC (ZV (ZG (Zu (Zo (Za (xM (h:=xV Tryz.underlying30 (h:=xR Zqm rfl (Ze4 _ _ _ _) (h:=xA (h:=Zd ?_))))))))))
 exact eR t1 ⟨Ze (by rw [Zg3 (ZdX hs oz),Bool.eq_iff_iff];simp;omega),rfl,rfl⟩

theorem ZfJ (q:Option Addr) (cp:Nat) (gs:List DGrant) (B:Kn) (hg:SlK B q cp 2 ZD gs):Z6 (pj J) 63 [.slice q gs.length cp] B (.bool (ZaF gs)):=by
 refine cB 47 Tryz.func63 (h:=?_)
 have hgn:=hg.len
 refine Za (xA (h:=Zc (Za (xA (h:=Zi (Zw (α:=Nat × Str) [0] (fun g=>[(3,.int .i64 g.1)]) [] (fun g=>[]) (fun g Bx=>Bx=B∧g.1≤gs.length∧Zb1 (gs.take g.1)=(true,g.2)∧Prev (fun y=>y.user) ([]:Str) gs g.1 g.2) (fun g=>gs.length - g.1) (0,[]) t1 rfl (⟨rfl,Nat.zero_le _,Zfi,.zero⟩) (fun g B1 hle1 hI=>?_)))))))
 obtain ⟨rfl,hk,hs,hp⟩:=hI
 refine ZB [(0,_),(3,_)] [] t2 rfl (Zc (Za (xM (h:=xM (h:=xV Tryz.underlying54 (h:=ZE (h:=Zb rfl (fun g1=>?_) (fun g1=>?_))))))))
 try simp only [sQ,ne_eq] at g1
 refine wSk (Zc (Zi (Zc (Z2 (same _ _) mo kr ⟨rfl,rfl⟩ (fun _ _=>?_)))))
 refine aM 0 rfl (h:=aM 1 rfl (h:=?_))
 obtain ⟨m,hm⟩:=ZU (xs:=gs) (i:=g.1) om
 obtain ⟨bb3,oo3,rfl⟩:=hg.base hm
 obtain ⟨_,⟨rfl,hb4⟩,hc4⟩:=hg.elem hm
 refine aIx 2 rfl Tryz.underlying54 ZaQ (h:=aW 3 rfl Za7 (h:=aT 4 rfl (Zag fun D=>Zn rfl rfl lk9 rfl (hc4 _ 0 _ rfl) r4) (h:=aT 5 rfl (Zag fun D=>Zaf rfl rfl Zsy rfl (ZbP _ om2 _) r4) (h:=?_))))
 refine aN 6 rfl (h:=aM 7 rfl (h:=Zav (d:=17) rfl (fun g2=>?_) (fun g2=>?_)))
 try simp only [sQ,ne_eq] at g2
 refine aZ 8 rfl (h:=aZ 9 rfl (h:=aZ 10 rfl (h:=aZ 11 rfl (h:=aZ 12 rfl (h:=aZ 13 rfl (h:=aZ 14 rfl (h:=aPT 15 rfl (h:=aM 16 rfl (h:=aZ 17 rfl (h:=aZ 18 rfl (h:=aZ 19 rfl (h:=aZ 20 rfl (h:=aZ 21 rfl (h:=aZ 22 rfl (h:=aZ 23 rfl (h:=aZ 24 rfl (h:=aZ 25 rfl (h:=aZ 26 rfl (h:=aZ 27 rfl (h:=aZ 28 rfl (h:=aZ 29 rfl (h:=aZ 30 rfl (h:=aZ 31 rfl (h:=aZ 32 rfl (h:=aPT 33 rfl (h:=Zx kr kr ?_))))))))))))))))))))))))))
 refine Zo (Zb (t:=true) rfl (fun _=>Za (xA (h:=Zd (Zy (Zl (ZO (Zy (Zl ?_)))))))) (fun h=>Bool.noConfusion h))
 exact eR t1 ⟨Ze (Zdh hm hs (by simp [Za1,g1,g2])).symm,rfl,rfl⟩
 try simp only [sQ,ne_eq] at g2
 refine aM 8 rfl (h:=aM 9 rfl (h:=aIx 10 rfl Tryz.underlying54 ZaQ (h:=aW 11 rfl Zdb (h:=aT 12 rfl (Zag fun D=>Zn rfl rfl lk3 rfl (hc4 _ 1 _ rfl) r4) (h:=aT 13 rfl (Zag fun D=>Zaf rfl rfl Zqm rfl (Ze4 _ _ _ _) r4) (h:=aN 14 rfl (h:=aPF 15 rfl (h:=aM 16 rfl (h:=Zav (d:=26) rfl (fun g4=>?_) (fun g4=>?_))))))))))
 try simp only [sQ,ne_eq] at g4
 refine aZ 17 rfl (h:=aZ 18 rfl (h:=aZ 19 rfl (h:=aZ 20 rfl (h:=aZ 21 rfl (h:=aZ 22 rfl (h:=aZ 23 rfl (h:=aZ 24 rfl (h:=aZ 25 rfl (h:=aZ 26 rfl (h:=aZ 27 rfl (h:=aZ 28 rfl (h:=aZ 29 rfl (h:=aZ 30 rfl (h:=aZ 31 rfl (h:=aZ 32 rfl (h:=aPT 33 rfl (h:=Zx kr kr ?_)))))))))))))))))
 refine Zo (Zb (t:=true) rfl (fun _=>Za (xA (h:=Zd (Zy (Zl (ZO (Zy (Zl ?_)))))))) (fun h=>Bool.noConfusion h))
 exact eR t1 ⟨Ze (Zdh hm hs (by simp [Za1,g1,g2,g4])).symm,rfl,rfl⟩
 try simp only [sQ,ne_eq] at g4
 refine aM 17 rfl (h:=ZnR 18 rfl (h:=aM 19 rfl (h:=Zav (d:=29) rfl (fun g6=>?_) (fun g6=>?_))))
 try simp only [sQ,ne_eq] at g6
 refine aM 20 rfl (h:=aM 21 rfl (h:=aU 22 rfl (h:=?_)))
 obtain ⟨y,hy⟩:=Zsk (xs:=gs) (i:=(↑g.1 - 1)) om om
 obtain ⟨_,⟨rfl,hb8⟩,hc8⟩:=hg.elem hy
 refine aIx 23 rfl Tryz.underlying54 ZaQ (h:=?_)
 have hpe:=hp.at hy oz
 refine aW 24 rfl Za7 (h:=aT 25 rfl (Zag fun D=>Zn rfl rfl lk9 rfl (hc8 _ 0 _ rfl) r4) (h:=aM 26 rfl (h:=aM 27 rfl (h:=aIx 28 rfl Tryz.underlying54 ZaQ (h:=aW 29 rfl Za7 (h:=aT 30 rfl (Zag fun D=>Zn rfl rfl lk9 rfl (hc4 _ 0 _ rfl) r4) (h:=aT 31 rfl (Zag fun D=>Zn8 rfl rfl rfl rfl r4) (h:=aPT 32 rfl (h:=aPF 33 rfl (h:=Zx kr kr ?_))))))))))
 refine Zo (Zb rfl (fun g7=>?_) (fun g7=>?_))
 try simp only [sQ,ne_eq] at g7
 refine Za (xA (h:=Zd (Zy (Zl (ZO (Zy (Zl ?_)))))))
 exact eR t1 ⟨Ze (Zdh hm hs (by simp [Za1,g1,g2,g4,g6,g7,hpe])).symm,rfl,rfl⟩
 try simp only [sQ,ne_eq] at g7
 refine ZT (ZM (Zo (Zf (xM (h:=xD (h:=xA (h:=?_)))))))
 exact ZA (g.1+1,m.user) [] so2 ⟨rfl,oz,Zcn hm hs (by rw [hpe];simp [Za1,g2,g7];simp at g4;omega),.succ hm⟩ t2 rfl
 try simp only [sQ,ne_eq] at g6
 refine aZ 20 rfl (h:=aZ 21 rfl (h:=aZ 22 rfl (h:=aZ 23 rfl (h:=aZ 24 rfl (h:=aZ 25 rfl (h:=aZ 26 rfl (h:=aZ 27 rfl (h:=aZ 28 rfl (h:=aZ 29 rfl (h:=aZ 30 rfl (h:=aZ 31 rfl (h:=aPF 32 rfl (h:=aPF 33 rfl (h:=Zx kr kr ?_))))))))))))))
 refine Zo (Zb (t:=false) rfl (fun h=>Bool.noConfusion h) (fun _=>ZT (ZM (Zo (Zf (xM (h:=xD (h:=xA (h:=?_)))))))))
 exact ZA (g.1+1,m.user) [] so2 ⟨rfl,oz,Zcn hm hs (by rw [hp.at0 oz];simp [Za1,g2,ZiM (Zgf g2)];simp at g4;omega),.succ hm⟩ t2 rfl
 try simp only [sQ,ne_eq] at g1
 refine ZC (ZV (ZG (Zu (Zo (Za (xM (h:=xV Tryz.underlying54 (h:=Zb7 (h:=xA (h:=Zd ?_))))))))))
 exact eR t1 ⟨Ze (by rw [ZkD (ZdX hs oz),Bool.eq_iff_iff];simp;try omega),rfl,rfl⟩

theorem Zni (q1 q2 q3:Option Addr) (c1 c2 c3:Nat) (x:DHost) (q:Option Addr) (cp:Nat) (ns:List Str) (B:Kn) (hu:SlK B q1 c1 3 Zr x.users) (hn:SlK B q cp 1 ZbU ns):Z6 (pj J) 58 [.agg #[str x.domain,.slice q1 x.users.length c1,.slice q2 x.folders.length c2,.int .i64 x.queue.next,.slice q3 x.queue.items.length c3],.slice q ns.length cp] B (.bool (Zke x.users ns)):=by
 refine cB 20 Tryz.func58 (h:=?_)
 have hnn:=hn.len
 have hun:=hu.len
 refine Za (xBx [_,_,_,_,_] (h:=fun b1=>xA (h:=tL1 (Zc (Za (xA (h:=Zi (Zw (α:=Nat) [0,1,2] (fun k=>[(5,.int .i64 k)]) [] (fun k=>[]) (fun k Bx=>Bx=B∧k≤ns.length∧∀z,z∈ns.take k→decide (0≤Zei x.users z)=true) (fun k=>ns.length - k) 0 t1 rfl (⟨rfl,Nat.zero_le _,by simp⟩) (fun k B2 hle2 hI=>?_)))))))))
 obtain ⟨rfl,hk,ha⟩:=hI
 refine ZB [(0,_),(1,_),(2,_),(5,_)] [_] t4 rfl (Zc (Za (xM (h:=xM (h:=xV Tryz.underlying99 (h:=ZE (h:=Zb rfl (fun g1=>?_) (fun g1=>?_))))))))
 try simp only [sQ,ne_eq] at g1
 refine wSk (Zc (Zi (Zc (Z2 (same _ _) mo kr ⟨rfl,rfl⟩ (fun _ _=>?_)))))
 refine aW 0 rfl ZbC (h:=aT 1 rfl (Zag fun D=>Zn rfl rfl Zib rfl (atL 0 rfl rfl rfl) r4) (h:=aM 2 rfl (h:=aM 3 rfl (h:=?_))))
 obtain ⟨z,hz⟩:=ZU (xs:=ns) (i:=k) om
 obtain ⟨bb4,oo4,rfl⟩:=hn.base hz
 obtain ⟨_,⟨rfl,hb5⟩,hc5⟩:=hn.elem hz
 refine aIx 4 rfl Tryz.underlying99 sz9 (h:=aT 5 rfl (Zag fun D=>Zn rfl rfl lk9 rfl (hc5 _ 0 _ rfl) r4) (h:=aT 6 rfl (Zag fun D=>Zaf rfl rfl Zve rfl (Zer _ _ _ _ _ hu) r4) (h:=ZrY 7 rfl (h:=Zx kr kr ?_))))
 refine Zo (Zb rfl (fun g2=>?_) (fun g2=>?_))
 try simp only [sQ,ne_eq] at g2
 refine Za (xA (h:=Zd (Zy (Zl (ZO (Zy (Zl ?_)))))))
 exact eR t1 ⟨Ze (Zdq hz (by simp;omega)).symm,rfl,rfl⟩
 try simp only [sQ,ne_eq] at g2
 refine ZT (ZM (Zo (Zf (xM (h:=xD (h:=xA (h:=?_)))))))
 exact ZA (k+1) [0] so2 ⟨rfl,oz,Zba hz ha (by simp;omega)⟩ t4 rfl
 try simp only [sQ,ne_eq] at g1
 refine ZC (ZV (ZG (Zu (Zo (Za (xA (h:=Zd ?_)))))))
 exact eR t1 ⟨Ze (ZeS (Zbk oz ha)).symm,rfl,rfl⟩

theorem Zo6 (q1 q2 q3:Option Addr) (c1 c2 c3:Nat) (x:DHost) (u:Str) (B:Kn) (hf:SlK B q2 c2 5 Zs x.folders):Z6 (pj J) 57 [.agg #[str x.domain,.slice q1 x.users.length c1,.slice q2 x.folders.length c2,.int .i64 x.queue.next,.slice q3 x.queue.items.length c3],str u] B (.int .i64 (Zdt x.folders u)):=by
 refine cB 32 Tryz.func57 (h:=?_)
 have hfn:=hf.len
 refine Za (xBx [_,_,_,_,_] (h:=fun b1=>xA (h:=tL1 (Za (xA (h:=Zc (Za (xA (h:=Zi (Zw (α:=Nat × Nat) [0,1,2,4] (fun g=>[(5,.int .i64 g.2),(6,.int .i64 g.1)]) [] (fun g=>[]) (fun g Bx=>Bx=B∧g.1≤x.folders.length∧g.2=Zdt (x.folders.take g.1) u∧g.2≤g.1*4000000000000) (fun g=>x.folders.length - g.1) (0,0) t2 rfl (⟨rfl,Nat.zero_le _,by simp [Zdt],oz⟩) (fun g B2 hle2 hI=>?_)))))))))))
 obtain ⟨rfl,hk,hs,hl⟩:=hI
 refine ZB [(0,_),(1,_),(2,_),(4,_),(5,_),(6,_)] [_] t6 rfl (Zc (Za (xM (h:=xW Zal (h:=x1 Zec 0 (h:=xV Tryz.underlying31 (h:=ZE (h:=Zb rfl (fun g1=>?_) (fun g1=>?_)))))))))
 try simp only [sQ,ne_eq] at g1
 refine wSk (Zc (Zi (Za (xW Zal (h:=x1 Zec 0 (h:=xM (h:=?_)))))))
 obtain ⟨m,hm⟩:=ZU (xs:=x.folders) (i:=g.1) om
 obtain ⟨bb4,oo4,rfl⟩:=hf.base hm
 obtain ⟨_,⟨qg5,cg5,qm5,cm5,rfl,hg5,hm5,hb5,hb5b⟩,hc5⟩:=hf.elem hm
 have hg5n:=hg5.len
 have hm5n:=hm5.len
 have hm5s:=Zad hm5
 refine xIx Tryz.underlying31 Zbw (h:=xW Zb5 (h:=y1 lk9 hc5 0 (h:=xM (h:=Zdz (h:=Zb rfl (fun g2=>?_) (fun g2=>?_))))))
 try simp only [sQ,ne_eq] at g2
 refine Zf (xM (h:=xW Zal (h:=x1 Zec 0 (h:=xM (h:=xIx Tryz.underlying31 Zbw (h:=xW Zda (h:=yL [_,_] Zmr hc5 3 (h:=xR Zyx rfl (Zo9 _ _ (⟨m.next,m.mail⟩:DBox) _ hm5) (h:=xD (h:=xA (h:=ZM (Zo (Zf (xM (h:=xD (h:=xA (h:=?_)))))))))))))))))
 exact ZA (g.1+1,g.2+ZaS m.mail) [0] so2 ⟨rfl,so,by rw [Zh1 hm,← hs,if_pos g2],so⟩ t6 rfl
 try simp only [sQ,ne_eq] at g2
 refine ZT (ZM (Zo (Zf (xM (h:=xD (h:=xA (h:=?_)))))))
 exact ZA (g.1+1,g.2) [0] so2 ⟨rfl,so,by rw [Zh1 hm,← hs,if_neg g2];simp only [Nat.add_zero],Nat.le_trans hl (Nat.mul_le_mul_right _ (Nat.le_succ _))⟩ t6 rfl
 try simp only [sQ,ne_eq] at g1
 refine ZC (ZV (ZG (Zu (Zo (Za (xM (h:=xA (h:=Zd ?_))))))))
 exact eR t1 ⟨ZF (by rw [← Zog hs oz]),rfl,rfl⟩

end Go.Proofs.YtgbaglnnkikkgaaGreatDoor
