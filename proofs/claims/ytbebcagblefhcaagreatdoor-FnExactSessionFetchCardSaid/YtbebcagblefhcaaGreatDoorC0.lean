/-
  WHAT THE FUNCTIONS THAT THE LAWS REACH COMPUTE: each function's contract, proved off its printed body (the text is written by program). No condition beyond those that each theorem states.
-/
import Derived.Test.YtbebcagblefhcaaGreatDoorRows
import Derived.Test.YtbebcagblefhcaaGreatDoorL0
import Derived.KernelRfl
namespace Go.Proofs.YtbebcagblefhcaaGreatDoor
open Go Go.BL
set_option linter.unusedVariables false
set_option linter.unusedSimpArgs false
noncomputable abbrev pj (J : JoinT) : PJ := ⟨Tryz.prog, J⟩
noncomputable abbrev wgL : Go.Conc.Lib.WgLink := { add := 180, done := 182, wait := 185, relMerge := 224, disable := 225, enable := 226, inBubble := 227, associate := 228, fatal := 229, uOr := 230, uAdd := 231, raceRead := 232, uLoad := 233, uStore := 234, disassociate := 235, semrelease := 236, acquire := 237, isAssociated := 238, uCas := 239, raceWrite := 240, semacquire := 241, orU64 := 269, addU64 := 270, loadU64 := 271, storeU64 := 272, casU64 := 273, tWg := 260, tUP := 301, tAssoc := 302, tAU := 258, tU64 := 256, tUint := 306, tU32 := 158, tNoCopy := 157, tANoCopy := 254, tAlign64 := 255, tWgP := 299, tPU32 := 307, tPAU := 359, tPU64 := 361 }
theorem ZkA : Go.Conc.Lib.WgLib Tryz.prog wgL :=
  ⟨Tryz.func180, Tryz.func182, Tryz.func185, Tryz.func224, Tryz.func225, Tryz.func226, Tryz.func227, Tryz.func228, Tryz.func229, Tryz.func230, Tryz.func231, Tryz.func232, Tryz.func233, Tryz.func234, Tryz.func235, Tryz.func236, Tryz.func237, Tryz.func238, Tryz.func239, Tryz.func240, Tryz.func241, Tryz.func269, Tryz.func270, Tryz.func271, Tryz.func272, Tryz.func273, Tryz.underlying299, Tryz.runUnderlying299, Tryz.sizeOf299, Tryz.isAgg299, Tryz.zeroValue299, Tryz.underlying301, Tryz.runUnderlying301, Tryz.sizeOf301, Tryz.isAgg301, Tryz.zeroValue301, Tryz.underlying302, Tryz.runUnderlying302, Tryz.sizeOf302, Tryz.isAgg302, Tryz.zeroValue302, Tryz.underlying260, Tryz.runUnderlying260, Tryz.sizeOf260, Tryz.isAgg260, Tryz.zeroValue260, Tryz.underlying258, Tryz.runUnderlying258, Tryz.sizeOf258, Tryz.isAgg258, Tryz.zeroValue258, Tryz.underlying256, Tryz.runUnderlying256, Tryz.sizeOf256, Tryz.isAgg256, Tryz.zeroValue256, Tryz.underlying306, Tryz.runUnderlying306, Tryz.sizeOf306, Tryz.isAgg306, Tryz.zeroValue306, Tryz.underlying158, Tryz.runUnderlying158, Tryz.sizeOf158, Tryz.isAgg158, Tryz.zeroValue158, Tryz.underlying307, Tryz.runUnderlying307, Tryz.sizeOf307, Tryz.isAgg307, Tryz.zeroValue307, Tryz.underlying359, Tryz.runUnderlying359, Tryz.sizeOf359, Tryz.isAgg359, Tryz.zeroValue359, Tryz.underlying361, Tryz.runUnderlying361, Tryz.sizeOf361, Tryz.isAgg361, Tryz.zeroValue361, Tryz.underlying0, Tryz.runUnderlying0, Tryz.sizeOf0, Tryz.isAgg0, Tryz.zeroValue0, Tryz.underlying3, Tryz.runUnderlying3, Tryz.sizeOf3, Tryz.isAgg3, Tryz.zeroValue3, Tryz.underlying4, Tryz.runUnderlying4, Tryz.sizeOf4, Tryz.isAgg4, Tryz.zeroValue4, Tryz.underlying9, Tryz.runUnderlying9, Tryz.sizeOf9, Tryz.isAgg9, Tryz.zeroValue9, Tryz.underlying20, Tryz.runUnderlying20, Tryz.sizeOf20, Tryz.isAgg20, Tryz.zeroValue20, Tryz.underlying21, Tryz.runUnderlying21, Tryz.sizeOf21, Tryz.isAgg21, Tryz.zeroValue21, (by kernel_rfl), (by kernel_rfl)⟩
abbrev muL : Go.Conc.Locks.MuLink := { lock := 145, unlock := 146, ilock := 199, iunlock := 200, lockSlow := 249, unlockSlow := 251, disable := 225, enable := 226, acquire := 237, relMerge := 224, cas32 := 248, add32 := 250, tMutex := 162, tIMutex := 160, tPMutex := 277, tPIMutex := 337, tPI32 := 339, tUP := 301, tNoCopy := 157, tU32 := 158 }
theorem Zrj : Go.Conc.Locks.MuLib Tryz.prog muL :=
  ⟨Tryz.func145, Tryz.func146, Tryz.func199, Tryz.func200, Tryz.func225, Tryz.func226, Tryz.func237, Tryz.func224, Tryz.func248, Tryz.func250, Tryz.underlying160, Tryz.runUnderlying160, Tryz.sizeOf160, Tryz.isAgg160, Tryz.zeroValue160, Tryz.underlying162, Tryz.runUnderlying162, Tryz.sizeOf162, Tryz.isAgg162, Tryz.zeroValue162, Tryz.underlying277, Tryz.runUnderlying277, Tryz.sizeOf277, Tryz.isAgg277, Tryz.zeroValue277, Tryz.underlying337, Tryz.runUnderlying337, Tryz.sizeOf337, Tryz.isAgg337, Tryz.zeroValue337, Tryz.underlying339, Tryz.runUnderlying339, Tryz.sizeOf339, Tryz.isAgg339, Tryz.zeroValue339, Tryz.underlying301, Tryz.runUnderlying301, Tryz.sizeOf301, Tryz.isAgg301, Tryz.zeroValue301, Tryz.underlying157, Tryz.runUnderlying157, Tryz.sizeOf157, Tryz.isAgg157, Tryz.zeroValue157, Tryz.underlying21, Tryz.runUnderlying21, Tryz.sizeOf21, Tryz.isAgg21, Tryz.zeroValue21, (by kernel_rfl)⟩
theorem Zky : enters Tryz.prog 86 = true := by kernel_rfl
theorem mo : Tryz.prog.follows .mixedOrders = true := by kernel_rfl
theorem Zbw : Zq Tryz.prog 248 1 = some 1 := by kernel_rfl
theorem lk3 : lk Tryz.prog 3 = some none := by kernel_rfl
theorem ZfZ : Zq Tryz.prog 248 0 = some 0 := by kernel_rfl
theorem lk9 : lk Tryz.prog 9 = some none := by kernel_rfl
theorem ZrT : enters Tryz.prog 175 = true := by kernel_rfl
theorem sz3 : ZH Tryz.prog 3 = some 1 := by kernel_rfl
theorem Zw6 : enters Tryz.prog 264 = true := by kernel_rfl
theorem Zt3 : enters Tryz.prog 218 = true := by kernel_rfl
theorem Zxj : enters Tryz.prog 219 = true := by kernel_rfl
theorem Zu0 : Za2 Tryz.prog 248 = some [(0, 1), (1, 1)] := by kernel_rfl
theorem Zqo : Z3 Tryz.prog 248 = some (.agg #[.string ⟨#[]⟩, .int .i64 0]) := by kernel_rfl
theorem ZuT : ZH Tryz.prog 248 = some 2 := by kernel_rfl
theorem sz5 : ZH Tryz.prog 5 = some 1 := by kernel_rfl
theorem sz9 : ZH Tryz.prog 9 = some 1 := by kernel_rfl
theorem zo9 : Z3 Tryz.prog 9 = some (.string ⟨#[]⟩) := by kernel_rfl
theorem ZrS : ZbN Tryz.prog 144 9 1 16 = true := by kernel_rfl
theorem Ztb : (match Program.underlying Tryz.prog 144 with | some (.slice _) => true | _ => false) = true := by kernel_rfl
theorem Zya : enters Tryz.prog 133 = true := by kernel_rfl
theorem Zlw : enters Tryz.prog 134 = true := by kernel_rfl
theorem ZbQ : ZH Tryz.prog 142 = some 3 := by kernel_rfl
theorem ZaZ : Zq Tryz.prog 142 0 = some 0 := by kernel_rfl
theorem Zxc : enters Tryz.prog 244 = true := by kernel_rfl
theorem Zpo : Zq Tryz.prog 211 0 = some 0 := by kernel_rfl
theorem Zlt : Zq Tryz.prog 211 1 = some 1 := by kernel_rfl
theorem ZfV : lk Tryz.prog 144 = some none := by kernel_rfl
theorem Zxy : enters Tryz.prog 192 = true := by kernel_rfl
theorem Zpn : Zq Tryz.prog 211 2 = some 2 := by kernel_rfl
theorem Zw1 : enters Tryz.prog 284 = true := by kernel_rfl
theorem Zke : enters Tryz.prog 183 = true := by kernel_rfl
theorem Zw5 : enters Tryz.prog 265 = true := by kernel_rfl
theorem Zxi : enters Tryz.prog 220 = true := by kernel_rfl
theorem Zcq : Zq Tryz.prog 42 1 = some 1 := by kernel_rfl
theorem Zkx : lk Tryz.prog 40 = some none := by kernel_rfl
theorem Zcc : ZH Tryz.prog 146 = some 4 := by kernel_rfl
theorem Ze4 : lk Tryz.prog 146 = some (some 4) := by kernel_rfl
theorem ZfF : Z3 Tryz.prog 146 = some (.agg #[.int .i64 0, .string ⟨#[]⟩, .string ⟨#[]⟩, .slice none 0 0]) := by kernel_rfl
theorem Zej : Zq Tryz.prog 146 0 = some 0 := by kernel_rfl
theorem Zei : Zq Tryz.prog 146 1 = some 1 := by kernel_rfl
theorem Zda : Zq Tryz.prog 146 3 = some 3 := by kernel_rfl
theorem Zf1 : Zq Tryz.prog 146 2 = some 2 := by kernel_rfl
theorem Zu1 : Za2 Tryz.prog 211 = some [(0, 1), (1, 1), (2, 1)] := by kernel_rfl
theorem Zul : Z3 Tryz.prog 211 = some (.agg #[.string ⟨#[]⟩, .slice none 0 0, .string ⟨#[]⟩]) := by kernel_rfl
theorem Zx9 : enters Tryz.prog 135 = true := by kernel_rfl
theorem Zgr : Zq Tryz.prog 42 0 = some 0 := by kernel_rfl
theorem Zui : Z3 Tryz.prog 42 = some (.agg #[.int .i64 0, .slice none 0 0]) := by kernel_rfl
theorem Zzf : Za2 Tryz.prog 42 = some [(0, 1), (1, 1)] := by kernel_rfl
theorem ZuO : ZH Tryz.prog 42 = some 2 := by kernel_rfl
theorem ZuV : ZH Tryz.prog 144 = some 1 := by kernel_rfl
theorem ZyH : ZbN Tryz.prog 40 146 4 64 = true := by kernel_rfl
theorem Zy9 : (match Program.underlying Tryz.prog 40 with | some (.slice _) => true | _ => false) = true := by kernel_rfl
theorem Zyt : ZH Tryz.prog 40 = some 1 := by kernel_rfl
theorem ZnC : lk Tryz.prog 42 = some (some 2) := by kernel_rfl
theorem Zzz : enters Tryz.prog 81 = true := by kernel_rfl
theorem zo3 : Z3 Tryz.prog 3 = some (.int .i64 0) := by kernel_rfl
theorem Zwe : Z3 Tryz.prog 275 = some (.pointer none) := by kernel_rfl
theorem Zxa : enters Tryz.prog 246 = true := by kernel_rfl
theorem Zw2 : enters Tryz.prog 274 = true := by kernel_rfl
theorem Ztw : lk Tryz.prog 275 = some none := by kernel_rfl
theorem Zw9 : enters Tryz.prog 247 = true := by kernel_rfl
theorem ZwB : Za2 Tryz.prog 332 = some [(0, 4), (4, 1)] := by kernel_rfl
theorem Zwa : Z3 Tryz.prog 332 = some (.agg #[.int .i64 0, .string ⟨#[]⟩, .string ⟨#[]⟩, .slice none 0 0, .pointer none]) := by kernel_rfl
theorem Zwx : ZH Tryz.prog 275 = some 1 := by kernel_rfl
theorem ZtL : Zq Tryz.prog 332 0 = some 0 := by kernel_rfl
theorem ZtK : Zq Tryz.prog 332 1 = some 4 := by kernel_rfl
theorem Zxs : enters Tryz.prog 198 = true := by kernel_rfl
theorem Zxt : enters Tryz.prog 197 = true := by kernel_rfl
theorem ZeE : lk Tryz.prog 296 = some none := by kernel_rfl
theorem ZwS : ZbN Tryz.prog 296 3 1 8 = true := by kernel_rfl
theorem Zwz : (match Program.underlying Tryz.prog 296 with | some (.slice _) => true | _ => false) = true := by kernel_rfl
theorem ZuR : ZH Tryz.prog 296 = some 1 := by kernel_rfl
theorem Zdk : Ziv Tryz.prog 295 "Less" 306 false = true := by kernel_rfl
theorem ZpT : enters Tryz.prog 306 = true := by kernel_rfl
theorem Zdj : Ziv Tryz.prog 295 "Swap" 309 false = true := by kernel_rfl
theorem ZpS : enters Tryz.prog 309 = true := by kernel_rfl
theorem Zm2 : Ziv Tryz.prog 295 "Push" 308 true = true := by kernel_rfl
theorem ZwZ : enters Tryz.prog 308 = true := by kernel_rfl
theorem ZjK : Ziv Tryz.prog 295 "Len" 305 false = true := by kernel_rfl
theorem ZvB : enters Tryz.prog 305 = true := by kernel_rfl
theorem Zw4 : enters Tryz.prog 266 = true := by kernel_rfl
theorem Zw3 : enters Tryz.prog 267 = true := by kernel_rfl
theorem ZoN : Ziv Tryz.prog 295 "Pop" 307 true = true := by kernel_rfl
theorem Zw0 : enters Tryz.prog 307 = true := by kernel_rfl
theorem Zxh : enters Tryz.prog 221 = true := by kernel_rfl
theorem Zxg : enters Tryz.prog 222 = true := by kernel_rfl
theorem ZxI : enters Tryz.prog 177 = true := by kernel_rfl
theorem ZxH : enters Tryz.prog 178 = true := by kernel_rfl
theorem Zdm : Zq Tryz.prog 89 0 = some 0 := by kernel_rfl
theorem Zgn : Zq Tryz.prog 89 1 = some 1 := by kernel_rfl
theorem Zxn : enters Tryz.prog 204 = true := by kernel_rfl
theorem ZeL : Zq Tryz.prog 89 2 = some 2 := by kernel_rfl
theorem ZxR : enters Tryz.prog 155 = true := by kernel_rfl
theorem ZbT : Zq Tryz.prog 85 1 = some 1 := by kernel_rfl
theorem ZjV : lk Tryz.prog 83 = some none := by kernel_rfl
theorem ZhA : ZH Tryz.prog 89 = some 3 := by kernel_rfl
theorem Zqn : lk Tryz.prog 89 = some (some 3) := by kernel_rfl
theorem ZxT : enters Tryz.prog 152 = true := by kernel_rfl
theorem Zgo : Zq Tryz.prog 85 0 = some 0 := by kernel_rfl
theorem Zsi : Z3 Tryz.prog 89 = some (.agg #[.int .i64 0, .int .i64 0, .string ⟨#[]⟩]) := by kernel_rfl
theorem ZxS : enters Tryz.prog 153 = true := by kernel_rfl
theorem ZnB : lk Tryz.prog 85 = some (some 2) := by kernel_rfl
theorem ZvJ : enters Tryz.prog 104 = true := by kernel_rfl
theorem Zf2 : Zq Tryz.prog 142 1 = some 1 := by kernel_rfl
theorem ZdL : Zq Tryz.prog 142 2 = some 2 := by kernel_rfl
theorem ZeF : lk Tryz.prog 142 = some (some 3) := by kernel_rfl
theorem Zfc : Z3 Tryz.prog 142 = some (.agg #[.string ⟨#[]⟩, .string ⟨#[]⟩, .int .i64 0]) := by kernel_rfl
theorem ZxJ : enters Tryz.prog 176 = true := by kernel_rfl
theorem ZvF : enters Tryz.prog 123 = true := by kernel_rfl
theorem ZwD : Za2 Tryz.prog 142 = some [(0, 1), (1, 1), (2, 1)] := by kernel_rfl
theorem Zxm : enters Tryz.prog 207 = true := by kernel_rfl
theorem Zxl : enters Tryz.prog 208 = true := by kernel_rfl
theorem ZbU : Zq Tryz.prog 44 1 = some 1 := by kernel_rfl
theorem ZjW : lk Tryz.prog 38 = some none := by kernel_rfl
theorem ZvE : enters Tryz.prog 162 = true := by kernel_rfl
theorem ZaB : Zq Tryz.prog 44 2 = some 2 := by kernel_rfl
theorem Zfs : lk Tryz.prog 39 = some none := by kernel_rfl
theorem ZdS : ZH Tryz.prog 87 = some 5 := by kernel_rfl
theorem ZbS : Zq Tryz.prog 87 0 = some 0 := by kernel_rfl
theorem ZdW : Zq Tryz.prog 87 1 = some 1 := by kernel_rfl
theorem ZiA : lk Tryz.prog 87 = some (some 5) := by kernel_rfl
theorem ZxP : enters Tryz.prog 158 = true := by kernel_rfl
theorem ZxO : enters Tryz.prog 159 = true := by kernel_rfl
theorem ZeN : Zq Tryz.prog 44 3 = some 3 := by kernel_rfl
theorem ZrU : enters Tryz.prog 161 = true := by kernel_rfl
theorem Zd0 : ZH Tryz.prog 224 = some 2 := by kernel_rfl
theorem Zb3 : Zq Tryz.prog 224 0 = some 0 := by kernel_rfl
theorem Zc9 : Zq Tryz.prog 224 1 = some 1 := by kernel_rfl
theorem Zv6 : enters Tryz.prog 84 = true := by kernel_rfl
theorem Zc1 : Zq Tryz.prog 87 3 = some 3 := by kernel_rfl
theorem Zx6 : enters Tryz.prog 138 = true := by kernel_rfl
theorem Zny : Z3 Tryz.prog 87 = some (.agg #[.string ⟨#[]⟩, .string ⟨#[]⟩, .slice none 0 0, .int .i64 0, .slice none 0 0]) := by kernel_rfl
theorem ZeM : Zq Tryz.prog 87 2 = some 2 := by kernel_rfl
theorem ZsB : lk Tryz.prog 82 = some none := by kernel_rfl
theorem Zx8 : enters Tryz.prog 136 = true := by kernel_rfl
theorem Zym : enters Tryz.prog 103 = true := by kernel_rfl
theorem Zx7 : enters Tryz.prog 137 = true := by kernel_rfl
theorem Zh5 : Zq Tryz.prog 44 0 = some 0 := by kernel_rfl
theorem ZzB : enters Tryz.prog 79 = true := by kernel_rfl
theorem ZzA : enters Tryz.prog 80 = true := by kernel_rfl
theorem ZfE : lk Tryz.prog 44 = some (some 5) := by kernel_rfl
theorem Zzy : enters Tryz.prog 82 = true := by kernel_rfl
theorem ZyP : enters Tryz.prog 64 = true := by kernel_rfl
theorem Zzx : enters Tryz.prog 83 = true := by kernel_rfl
theorem Zzw : enters Tryz.prog 85 = true := by kernel_rfl
theorem ZoX : lk Tryz.prog 224 = some (some 2) := by kernel_rfl
theorem ZnF : Z3 Tryz.prog 224 = some (.agg #[.string ⟨#[]⟩, .int .i64 0]) := by kernel_rfl
theorem Zw7 : enters Tryz.prog 253 = true := by kernel_rfl
theorem ZvC : enters Tryz.prog 206 = true := by kernel_rfl
theorem Zvu : Extern.findNext Tryz.f268 = none := by kernel_rfl
theorem Zvv : Extern.find Tryz.f268 = some Extern.BytealgCompare.compare := by kernel_rfl
theorem Zxf : enters Tryz.prog 223 = true := by kernel_rfl
theorem ZvD : enters Tryz.prog 179 = true := by kernel_rfl
theorem Zxk : enters Tryz.prog 209 = true := by kernel_rfl
theorem ZxM : enters Tryz.prog 163 = true := by kernel_rfl
theorem ZvH : enters Tryz.prog 113 = true := by kernel_rfl
theorem Zyl : enters Tryz.prog 115 = true := by kernel_rfl
theorem sz4 : ZH Tryz.prog 4 = some 1 := by kernel_rfl
theorem lk4 : lk Tryz.prog 4 = some none := by kernel_rfl
theorem Zxe : enters Tryz.prog 242 = true := by kernel_rfl
theorem ZxK : enters Tryz.prog 174 = true := by kernel_rfl
theorem Zvd : lk Tryz.prog 253 = some none := by kernel_rfl
theorem ZwH : lk Tryz.prog 98 = some none := by kernel_rfl
theorem ZxF : enters Tryz.prog 184 = true := by kernel_rfl
theorem Zwf : Z3 Tryz.prog 260 = some (.agg #[.int .u64 0, .int .u32 0]) := by kernel_rfl
theorem ZwT : ZbN Tryz.prog 253 4 1 1 = true := by kernel_rfl
theorem zo4 : Z3 Tryz.prog 4 = some (.bool false) := by kernel_rfl
theorem Zwg : Z3 Tryz.prog 253 = some (.slice none 0 0) := by kernel_rfl
theorem Zwy : ZH Tryz.prog 253 = some 1 := by kernel_rfl
theorem ZxG : enters Tryz.prog 180 = true := by kernel_rfl
theorem ZxE : enters Tryz.prog 185 = true := by kernel_rfl
theorem ZxD : enters Tryz.prog 186 = true := by kernel_rfl
theorem Zyj : enters Tryz.prog 122 = true := by kernel_rfl
theorem Zyi : enters Tryz.prog 124 = true := by kernel_rfl
theorem Zyh : enters Tryz.prog 125 = true := by kernel_rfl
theorem Zyg : enters Tryz.prog 126 = true := by kernel_rfl
theorem Zyf : enters Tryz.prog 127 = true := by kernel_rfl
theorem Zye : enters Tryz.prog 128 = true := by kernel_rfl
theorem ZpC : Zq Tryz.prog 130 0 = some 0 := by kernel_rfl
theorem ZpB : Zq Tryz.prog 130 1 = some 1 := by kernel_rfl
theorem Zpm : Zq Tryz.prog 268 0 = some 0 := by kernel_rfl
theorem Zpl : Zq Tryz.prog 328 2 = some 2 := by kernel_rfl
theorem ZuX : ZH Tryz.prog 130 = some 3 := by kernel_rfl
theorem Zvj : lk Tryz.prog 130 = some (some 3) := by kernel_rfl
theorem ZzE : enters Tryz.prog 76 = true := by kernel_rfl
theorem ZuS : ZH Tryz.prog 268 = some 2 := by kernel_rfl
theorem Zvc : lk Tryz.prog 268 = some (some 2) := by kernel_rfl
theorem ZxB : enters Tryz.prog 189 = true := by kernel_rfl
theorem ZuQ : ZH Tryz.prog 328 = some 3 := by kernel_rfl
theorem Zva : lk Tryz.prog 328 = some (some 3) := by kernel_rfl
theorem Zxd : enters Tryz.prog 243 = true := by kernel_rfl
theorem Zpr : Zq Tryz.prog 207 1 = some 1 := by kernel_rfl
theorem Zpq : Zq Tryz.prog 207 2 = some 2 := by kernel_rfl
theorem Zpp : Zq Tryz.prog 207 3 = some 3 := by kernel_rfl
theorem Zxz : enters Tryz.prog 191 = true := by kernel_rfl
theorem ZuU : ZH Tryz.prog 207 = some 4 := by kernel_rfl
theorem Zve : lk Tryz.prog 207 = some (some 4) := by kernel_rfl
theorem Zyb : enters Tryz.prog 132 = true := by kernel_rfl
theorem ZpA : Zq Tryz.prog 135 1 = some 1 := by kernel_rfl
theorem Zvh : lk Tryz.prog 133 = some none := by kernel_rfl
theorem ZxA : enters Tryz.prog 190 = true := by kernel_rfl
theorem ZsN : Zq Tryz.prog 26 1 = some 1 := by kernel_rfl
theorem ZyB : lk Tryz.prog 24 = some none := by kernel_rfl
theorem ZzC : enters Tryz.prog 78 = true := by kernel_rfl
theorem Zpz : Zq Tryz.prog 137 0 = some 0 := by kernel_rfl
theorem Zpy : Zq Tryz.prog 137 1 = some 1 := by kernel_rfl
theorem Zpx : Zq Tryz.prog 137 2 = some 2 := by kernel_rfl
theorem Zvi : lk Tryz.prog 132 = some none := by kernel_rfl
theorem Zyd : enters Tryz.prog 130 = true := by kernel_rfl
theorem Zpw : Zq Tryz.prog 137 3 = some 3 := by kernel_rfl
theorem Zvg : lk Tryz.prog 135 = some (some 2) := by kernel_rfl
theorem Zyc : enters Tryz.prog 131 = true := by kernel_rfl
theorem ZuW : ZH Tryz.prog 137 = some 5 := by kernel_rfl
theorem Zvf : lk Tryz.prog 137 = some (some 5) := by kernel_rfl
theorem ZzD : enters Tryz.prog 77 = true := by kernel_rfl
theorem ZsM : Zq Tryz.prog 28 0 = some 0 := by kernel_rfl
theorem ZsL : Zq Tryz.prog 28 1 = some 1 := by kernel_rfl
theorem ZyD : lk Tryz.prog 22 = some none := by kernel_rfl
theorem ZzY : enters Tryz.prog 33 = true := by kernel_rfl
theorem ZsK : Zq Tryz.prog 28 2 = some 2 := by kernel_rfl
theorem ZyC : lk Tryz.prog 23 = some none := by kernel_rfl
theorem ZzX : enters Tryz.prog 34 = true := by kernel_rfl
theorem ZsJ : Zq Tryz.prog 28 3 = some 3 := by kernel_rfl
theorem ZyA : lk Tryz.prog 26 = some (some 2) := by kernel_rfl
theorem ZzW : enters Tryz.prog 35 = true := by kernel_rfl
theorem ZtR : Zq Tryz.prog 130 2 = some 2 := by kernel_rfl
theorem ZtO : Zq Tryz.prog 268 1 = some 1 := by kernel_rfl
theorem ZtN : Zq Tryz.prog 328 0 = some 0 := by kernel_rfl
theorem ZtM : Zq Tryz.prog 328 1 = some 1 := by kernel_rfl
theorem ZyI : ZbN Tryz.prog 38 142 3 40 = true := by kernel_rfl
theorem Zzu : enters Tryz.prog 88 = true := by kernel_rfl
theorem ZyF : ZbN Tryz.prog 82 224 2 24 = true := by kernel_rfl
theorem Zxx : enters Tryz.prog 193 = true := by kernel_rfl
theorem Zuk : Z3 Tryz.prog 72 = some (.agg #[.int .i64 0, .int .i64 0]) := by kernel_rfl
theorem Zvs : Zq Tryz.prog 96 0 = some 0 := by kernel_rfl
theorem Zgq : Zq Tryz.prog 72 0 = some 0 := by kernel_rfl
theorem Zvr : Zq Tryz.prog 96 1 = some 1 := by kernel_rfl
theorem Zgp : Zq Tryz.prog 72 1 = some 1 := by kernel_rfl
theorem Zuj : lk Tryz.prog 72 = some (some 2) := by kernel_rfl
theorem ZkM : ZH Tryz.prog 72 = some 2 := by kernel_rfl
theorem Zzl : ZbN Tryz.prog 48 72 2 16 = true := by kernel_rfl
theorem Zy2 : ZH Tryz.prog 96 = some 2 := by kernel_rfl
theorem Zzj : lk Tryz.prog 96 = some (some 2) := by kernel_rfl
theorem ZzP : enters Tryz.prog 43 = true := by kernel_rfl
theorem ZyE : ZbN Tryz.prog 83 89 3 32 = true := by kernel_rfl
theorem Zxb : enters Tryz.prog 245 = true := by kernel_rfl
theorem ZtP : Zq Tryz.prog 207 0 = some 0 := by kernel_rfl
theorem Zxv : enters Tryz.prog 195 = true := by kernel_rfl
theorem Zx2 : enters Tryz.prog 142 = true := by kernel_rfl
theorem Zvt : Zq Tryz.prog 26 0 = some 0 := by kernel_rfl
theorem Zzs : enters Tryz.prog 90 = true := by kernel_rfl
theorem ZvY : Z3 Tryz.prog 85 = some (.agg #[.int .i64 0, .slice none 0 0]) := by kernel_rfl
theorem ZtQ : Zq Tryz.prog 135 0 = some 0 := by kernel_rfl
theorem Zxw : enters Tryz.prog 194 = true := by kernel_rfl
theorem Zy3 : ZH Tryz.prog 83 = some 1 := by kernel_rfl
theorem ZvZ : ZH Tryz.prog 85 = some 2 := by kernel_rfl
theorem Zx4 : enters Tryz.prog 140 = true := by kernel_rfl
theorem Zys : ZH Tryz.prog 82 = some 1 := by kernel_rfl
theorem Zx3 : enters Tryz.prog 141 = true := by kernel_rfl
theorem ZwR : ZbN Tryz.prog 39 87 5 88 = true := by kernel_rfl
theorem Zzt : enters Tryz.prog 89 = true := by kernel_rfl
theorem ZnE : Z3 Tryz.prog 44 = some (.agg #[.string ⟨#[]⟩, .slice none 0 0, .slice none 0 0, .int .i64 0, .slice none 0 0]) := by kernel_rfl
theorem ZzS : enters Tryz.prog 40 = true := by kernel_rfl
theorem Zy6 : ZH Tryz.prog 38 = some 1 := by kernel_rfl
theorem ZzR : enters Tryz.prog 41 = true := by kernel_rfl
theorem Zy5 : ZH Tryz.prog 39 = some 1 := by kernel_rfl
theorem ZzQ : enters Tryz.prog 42 = true := by kernel_rfl
theorem Zoh : ZH Tryz.prog 44 = some 5 := by kernel_rfl
theorem ZzJ : enters Tryz.prog 52 = true := by kernel_rfl
theorem Zml : Zq Tryz.prog 91 0 = some 0 := by kernel_rfl
theorem Zmk : Zq Tryz.prog 91 1 = some 1 := by kernel_rfl
theorem Zmj : Zq Tryz.prog 91 2 = some 2 := by kernel_rfl
theorem Zmi : Zq Tryz.prog 91 3 = some 3 := by kernel_rfl
theorem ZlW : ZH Tryz.prog 91 = some 4 := by kernel_rfl
theorem Zyy : lk Tryz.prog 91 = some (some 4) := by kernel_rfl
theorem ZzN : enters Tryz.prog 48 = true := by kernel_rfl
theorem Zzr : enters Tryz.prog 95 = true := by kernel_rfl
theorem Zxq : enters Tryz.prog 201 = true := by kernel_rfl
theorem Zw8 : enters Tryz.prog 252 = true := by kernel_rfl
theorem Zxo : enters Tryz.prog 203 = true := by kernel_rfl
theorem ZxW : enters Tryz.prog 149 = true := by kernel_rfl
theorem Zzp : enters Tryz.prog 97 = true := by kernel_rfl
theorem Zxp : enters Tryz.prog 202 = true := by kernel_rfl
theorem ZxY : enters Tryz.prog 147 = true := by kernel_rfl
theorem ZxX : enters Tryz.prog 148 = true := by kernel_rfl
theorem Zzq : enters Tryz.prog 96 = true := by kernel_rfl
theorem ZzM : enters Tryz.prog 49 = true := by kernel_rfl
theorem ZzL : enters Tryz.prog 50 = true := by kernel_rfl
theorem ZzK : enters Tryz.prog 51 = true := by kernel_rfl
theorem Zzb : (match Program.underlying Tryz.prog 38 with | some (.slice _) => true | _ => false) = true := by kernel_rfl
theorem Zy7 : (match Program.underlying Tryz.prog 83 with | some (.slice _) => true | _ => false) = true := by kernel_rfl
theorem Zze : Za2 Tryz.prog 85 = some [(0, 1), (1, 1)] := by kernel_rfl
theorem Zy8 : (match Program.underlying Tryz.prog 82 with | some (.slice _) => true | _ => false) = true := by kernel_rfl
theorem ZxL : enters Tryz.prog 164 = true := by kernel_rfl
theorem ZwA : Za2 Tryz.prog 44 = some [(0, 1), (1, 1), (2, 1), (3, 2)] := by kernel_rfl
theorem Zza : (match Program.underlying Tryz.prog 39 with | some (.slice _) => true | _ => false) = true := by kernel_rfl
theorem ZzV : enters Tryz.prog 36 = true := by kernel_rfl
theorem zo5 : Z3 Tryz.prog 5 = some (.int .u8 0) := by kernel_rfl
theorem ZpR : enters Tryz.prog 56 = true := by kernel_rfl
theorem Zt4 : enters Tryz.prog 205 = true := by kernel_rfl
theorem ZxQ : enters Tryz.prog 157 = true := by kernel_rfl
theorem ZvI : enters Tryz.prog 111 = true := by kernel_rfl
theorem ZyO : enters Tryz.prog 65 = true := by kernel_rfl
theorem ZyG : ZbN Tryz.prog 57 3 1 8 = true := by kernel_rfl
theorem Zyv : (match Program.underlying Tryz.prog 57 with | some (.slice _) => true | _ => false) = true := by kernel_rfl
theorem ZyR : enters Tryz.prog 37 = true := by kernel_rfl
theorem Zx5 : enters Tryz.prog 139 = true := by kernel_rfl
theorem Zpk : Zq Tryz.prog 46 1 = some 1 := by kernel_rfl
theorem Zpj : Zq Tryz.prog 46 2 = some 2 := by kernel_rfl
theorem Zmm : Zq Tryz.prog 46 0 = some 0 := by kernel_rfl
theorem Zzv : enters Tryz.prog 87 = true := by kernel_rfl
theorem Zv2 : lk Tryz.prog 46 = some (some 3) := by kernel_rfl
theorem ZzU : enters Tryz.prog 38 = true := by kernel_rfl
theorem ZzT : enters Tryz.prog 39 = true := by kernel_rfl
theorem Zyq : Z3 Tryz.prog 46 = some (.agg #[.string ⟨#[]⟩, .string ⟨#[]⟩, .string ⟨#[]⟩]) := by kernel_rfl
theorem Zy4 : ZH Tryz.prog 46 = some 3 := by kernel_rfl
theorem ZxN : enters Tryz.prog 160 = true := by kernel_rfl
theorem ZsI : Zq Tryz.prog 30 0 = some 0 := by kernel_rfl
theorem ZsH : Zq Tryz.prog 30 1 = some 1 := by kernel_rfl
theorem ZsG : Zq Tryz.prog 30 2 = some 2 := by kernel_rfl
theorem Zzo : enters Tryz.prog 98 = true := by kernel_rfl
theorem Zzn : enters Tryz.prog 99 = true := by kernel_rfl
theorem ZxU : enters Tryz.prog 150 = true := by kernel_rfl
theorem Zyn : enters Tryz.prog 100 = true := by kernel_rfl
theorem ZzI : enters Tryz.prog 53 = true := by kernel_rfl
theorem ZzH : enters Tryz.prog 54 = true := by kernel_rfl
theorem ZzG : enters Tryz.prog 55 = true := by kernel_rfl
theorem ZyU : (Tryz.prog.info? 372).map (·.comparable) = some true := by kernel_rfl
theorem ZuP : ZH Tryz.prog 397 = some 1 := by kernel_rfl
theorem Zwd : Z3 Tryz.prog 319 = some (.nilIface) := by kernel_rfl
theorem Zwc : Z3 Tryz.prog 322 = some (.nilIface) := by kernel_rfl
theorem Zwb : Z3 Tryz.prog 324 = some (.nilIface) := by kernel_rfl
theorem ZxC : enters Tryz.prog 188 = true := by kernel_rfl
theorem Zle : lk Tryz.prog 100 = some none := by kernel_rfl
theorem ZrV : enters Tryz.prog 129 = true := by kernel_rfl
theorem ZvG : enters Tryz.prog 114 = true := by kernel_rfl
theorem ZzF : enters Tryz.prog 74 = true := by kernel_rfl
theorem ZyN : enters Tryz.prog 68 = true := by kernel_rfl
theorem ZwW : enters Tryz.prog 75 = true := by kernel_rfl
theorem Zxu : enters Tryz.prog 196 = true := by kernel_rfl
theorem Zx1 : enters Tryz.prog 143 = true := by kernel_rfl
theorem Zx0 : enters Tryz.prog 144 = true := by kernel_rfl
theorem ZiQ : Zq Tryz.prog 160 0 = some 0 := by kernel_rfl
theorem ZiP : Zq Tryz.prog 162 1 = some 0 := by kernel_rfl
theorem ZwI : lk Tryz.prog 21 = some none := by kernel_rfl
theorem Zxr : enters Tryz.prog 199 = true := by kernel_rfl
theorem Zt5 : enters Tryz.prog 200 = true := by kernel_rfl
theorem ZyL : enters Tryz.prog 93 = true := by kernel_rfl
theorem Zwh : Z3 Tryz.prog 169 = some (.agg #[.bool false, .bool false, .bool false, .bool false, .bool false, .bool false, .bool false, .bool false, .bool false, .bool false, .bool false, .bool false, .bool false, .bool false, .bool false, .bool false, .bool false, .bool false, .bool false, .bool false, .bool false, .bool false, .bool false, .bool false, .bool false, .bool false, .bool false, .bool false, .bool false, .bool false, .bool false, .bool false, .bool false, .bool false, .bool false, .bool false, .bool false, .bool false, .bool false, .bool false, .bool false, .bool false, .bool false, .bool false, .bool false, .bool false, .bool false, .bool false, .bool false, .bool false, .bool false, .bool false, .bool false, .bool false, .bool false, .bool false, .bool false, .bool false, .bool false, .bool false, .bool false, .bool false, .bool false, .bool false, .bool false, .bool false, .bool false, .bool false, .bool false, .bool false, .bool false, .bool false, .bool false, .bool false, .bool false, .bool false, .bool false, .bool false, .bool false, .bool false, .bool false, .bool false, .bool false, .bool false, .bool false, .bool false, .bool false, .bool false, .bool false, .bool false, .bool false, .bool false, .bool false, .bool false, .bool false, .bool false, .bool false, .bool false, .bool false, .bool false]) := by kernel_rfl
theorem ZwJ : lk Tryz.prog 169 = some (some 100) := by kernel_rfl
theorem ZyQ : enters Tryz.prog 45 = true := by kernel_rfl
theorem ZyK : enters Tryz.prog 94 = true := by kernel_rfl
theorem Zeh : Zq Tryz.prog 166 2 = some 3 := by kernel_rfl
theorem ZjX : lk Tryz.prog 155 = some none := by kernel_rfl
theorem Zpt : Zq Tryz.prog 164 0 = some 0 := by kernel_rfl
theorem ZxZ : enters Tryz.prog 145 = true := by kernel_rfl
theorem Zf0 : Zq Tryz.prog 164 1 = some 2 := by kernel_rfl
theorem Zps : Zq Tryz.prog 166 1 = some 2 := by kernel_rfl
theorem ZiO : Zq Tryz.prog 166 0 = some 0 := by kernel_rfl
theorem Zpv : Zq Tryz.prog 154 0 = some 0 := by kernel_rfl
theorem Zpu : Zq Tryz.prog 154 1 = some 1 := by kernel_rfl
theorem ZwC : Za2 Tryz.prog 154 = some [(0, 1), (1, 1)] := by kernel_rfl
theorem Zwi : Z3 Tryz.prog 154 = some (.agg #[.string ⟨#[]⟩, .string ⟨#[]⟩]) := by kernel_rfl
theorem ZyM : enters Tryz.prog 91 = true := by kernel_rfl
theorem Zu2 : Za2 Tryz.prog 164 = some [(0, 2), (2, 5)] := by kernel_rfl
theorem Zum : Z3 Tryz.prog 164 = some (.agg #[.int .i32 0, .int .u32 0, .string ⟨#[]⟩, .slice none 0 0, .slice none 0 0, .int .i64 0, .slice none 0 0]) := by kernel_rfl
theorem Zti : Za2 Tryz.prog 166 = some [(0, 2), (2, 1), (3, 1)] := by kernel_rfl
theorem Zmy : Z3 Tryz.prog 166 = some (.agg #[.string ⟨#[]⟩, .string ⟨#[]⟩, .string ⟨#[]⟩, .pointer none]) := by kernel_rfl
theorem Zta : ZH Tryz.prog 166 = some 4 := by kernel_rfl
theorem ZwV : enters Tryz.prog 92 = true := by kernel_rfl
theorem Zuh : Z3 Tryz.prog 91 = some (.agg #[.int .i64 0, .int .i64 0, .int .i64 0, .string ⟨#[]⟩]) := by kernel_rfl
theorem ZyY : Z3 Tryz.prog 35 = some (.slice none 0 0) := by kernel_rfl
theorem Zyu : ZH Tryz.prog 35 = some 1 := by kernel_rfl
theorem Zyz : lk Tryz.prog 48 = some none := by kernel_rfl
theorem ZwX : enters Tryz.prog 46 = true := by kernel_rfl
theorem ZwY : enters Tryz.prog 44 = true := by kernel_rfl
theorem Zv3 : lk Tryz.prog 35 = some none := by kernel_rfl
theorem ZzO : enters Tryz.prog 47 = true := by kernel_rfl
theorem Zyx : Za2 Tryz.prog 91 = some [(0, 1), (1, 1), (2, 1), (3, 1)] := by kernel_rfl
theorem ZyJ : ZbN Tryz.prog 35 91 4 40 = true := by kernel_rfl
theorem Zyw : (match Program.underlying Tryz.prog 35 with | some (.slice _) => true | _ => false) = true := by kernel_rfl
theorem ZyT : enters Tryz.prog 14 = true := by kernel_rfl
theorem Zvb : lk Tryz.prog 28 = some (some 5) := by kernel_rfl
theorem en7 : enters Tryz.prog 7 = true := by kernel_rfl
theorem Zv4 : lk Tryz.prog 30 = some (some 3) := by kernel_rfl
theorem en8 : enters Tryz.prog 8 = true := by kernel_rfl
theorem en9 : enters Tryz.prog 9 = true := by kernel_rfl
theorem Zv8 : enters Tryz.prog 11 = true := by kernel_rfl
theorem Zyk : enters Tryz.prog 12 = true := by kernel_rfl
theorem Zv7 : enters Tryz.prog 13 = true := by kernel_rfl
theorem Zz4 : enters Tryz.prog 10 = true := by kernel_rfl
theorem ZxV : enters Tryz.prog 15 = true := by kernel_rfl
theorem Zz3 : enters Tryz.prog 16 = true := by kernel_rfl
theorem Zz2 : enters Tryz.prog 17 = true := by kernel_rfl
theorem Zz1 : enters Tryz.prog 18 = true := by kernel_rfl
theorem Zz0 : enters Tryz.prog 19 = true := by kernel_rfl
theorem ZzZ : enters Tryz.prog 20 = true := by kernel_rfl
theorem ZyS : enters Tryz.prog 21 = true := by kernel_rfl
set_option maxRecDepth 4000
set_option maxHeartbeats 6400000
variable {J : JoinT}
abbrev cur (b : Nat) (l : List UInt8) (i : Nat) : Cells := ZN b [str l, .int .i64 i] 248
theorem Zcp (n lo hi:Int) (B:Kn):Z0 (pj J) 86 [.int .i64 n,.int .i64 lo,.int .i64 hi] B (.bool (decide (lo≤n) && decide (n≤hi))):=by
 refine cB 15 Tryz.func86 (h:=?_)
 refine Za (xA (h:=ZT [(0,_),(1,_),(2,_),(6,_)] t4 (Za (xM (h:=xM (h:=ZdY (h:=xM (h:=Zt (d:=10) rfl (fun g1=>?_) (fun g1=>?_)))))))))
 try simp only [sQ,ne_eq] at g1
 refine xM (h:=xM (h:=Zbs (h:=xT (h:=xA (h:=ZT [(0,_),(1,_),(2,_),(6,_)] t4 (Ze ?_))))))
 exact eR t1 ⟨by exact Zc (by rw [Bool.eq_iff_iff];simp [];omega),rfl,rfl⟩
 try simp only [sQ,ne_eq] at g1
 refine xP (h:=xP (h:=xP (h:=xF (h:=xA (h:=ZT [(0,_),(1,_),(2,_),(6,_)] t4 (Ze ?_))))))
 exact eR t1 ⟨by exact Zc (by rw [Bool.eq_iff_iff];simp [];omega),rfl,rfl⟩

theorem Zm1 (c:UInt8) (B:Kn):Z0 (pj J) 264 [.int .u8 c.toNat] B (.bool (ZaY c)):=by
 refine cB 17 Tryz.func264 (h:=?_)
 refine Za (xA (h:=ZT [(0,_),(2,_)] t2 (Za (xM (h:=ZdY (h:=xM (h:=Zt (d:=5) rfl (fun g1=>?_) (fun g1=>?_))))))))
 try simp only [sQ,ne_eq] at g1
 refine xM (h:=Zbs (h:=xT (h:=xM (h:=Zt (d:=9) rfl (fun g2=>?_) (fun g2=>?_)))))
 try simp only [sQ,ne_eq] at g2
 refine xP (h:=xP (h:=xP (h:=xP (h:=xP (h:=xP (h:=xT (h:=xA (h:=ZT [(0,_),(2,_)] t2 (Ze ?_)))))))))
 exact eR t1 ⟨by exact Zc (by rw [Bool.eq_iff_iff];simp [ZaY];omega),rfl,rfl⟩
 try simp only [sQ,ne_eq] at g2
 refine xM (h:=ZdY (h:=xM (h:=Zt (d:=12) rfl (fun g3=>?_) (fun g3=>?_))))
 try simp only [sQ,ne_eq] at g3
 refine xM (h:=Zbs (h:=xT (h:=xF (h:=xA (h:=ZT [(0,_),(2,_)] t2 (Ze ?_))))))
 exact eR t1 ⟨by exact Zc (by rw [Bool.eq_iff_iff];simp [ZaY];omega),rfl,rfl⟩
 try simp only [sQ,ne_eq] at g3
 refine xP (h:=xP (h:=xF (h:=xF (h:=xA (h:=ZT [(0,_),(2,_)] t2 (Ze ?_))))))
 exact eR t1 ⟨by exact Zc (by rw [Bool.eq_iff_iff];simp [ZaY];omega),rfl,rfl⟩
 try simp only [sQ,ne_eq] at g1
 refine xP (h:=xP (h:=xF (h:=xM (h:=xM (h:=ZdY (h:=xM (h:=Zt (d:=12) rfl (fun g4=>?_) (fun g4=>?_))))))))
 try simp only [sQ,ne_eq] at g4
 refine xM (h:=Zbs (h:=xT (h:=xF (h:=xA (h:=ZT [(0,_),(2,_)] t2 (Ze ?_))))))
 exact eR t1 ⟨by exact Zc (by rw [Bool.eq_iff_iff];simp [ZaY];omega),rfl,rfl⟩
 try simp only [sQ,ne_eq] at g4
 refine xP (h:=xP (h:=xF (h:=xF (h:=xA (h:=ZT [(0,_),(2,_)] t2 (Ze ?_))))))
 exact eR t1 ⟨by exact Zc (by rw [Bool.eq_iff_iff];simp [ZaY];omega),rfl,rfl⟩

theorem ZbX (l:List UInt8) (hl:l.length≤2000000) (B:Kn):Z0 (pj J) 134 [str l] B (.bool (Zag l)):=by
 refine cB 37 Tryz.func134 (h:=?_)
 refine Za (xA (h:=ZT [(0,_),(2,_)] t2 (Zd (Za (xA (h:=ZT [(0,_),(2,_),(3,_)] t3 (Zh (Zje (α:=Nat) (fun k=>[(0,str l),(3,.int .i64 k)]) (fun k=>[]) (fun k Bx=>Bx=B∧k≤l.length∧(l.take k).all ZaY=true) (fun k=>l.length - k) 0 t2 rfl (⟨rfl,Nat.zero_le _,by simp⟩) (fun k B1 hle1 hI=>?_)))))))))
 obtain ⟨rfl,hk,ha⟩:=hI
 refine Zd (Za (xM (h:=xM (h:=xVs Tryz.underlying9 (h:=ZB (h:=ZT [(0,_),(3,_),(7,_)] t3 (Zb rfl (fun g1=>?_) (fun g1=>?_))))))))
 try simp only [sQ,ne_eq] at g1
 obtain ⟨c,hc⟩ :∃c,l[k]? = some c:=⟨_,List.getElem?_eq_getElem oz⟩
 refine wSk (Zd (Zh (ZmB 33 (!(ZaY c)) [0,3,7] ?_ ?_)))
 refine xM (h:=xM (h:=Zk (Zdv rfl rfl Tryz.underlying9 rfl rfl oz (by simpa using hc) ?_)))
 refine ZdY (h:=xM (h:=Zt (d:=14) rfl (fun g1=>?_) (fun g1=>?_)))
 try simp only [sQ,ne_eq] at g1
 refine xM (h:=xM (h:=Zk (Zdv rfl rfl Tryz.underlying9 rfl rfl oz (by simpa using hc) ?_)))
 refine Zbs (h:=xT (h:=xN (h:=xM (h:=Zt (d:=21) rfl (fun g2=>?_) (fun g2=>?_)))))
 try simp only [sQ,ne_eq] at g2
 refine xM (h:=xM (h:=Zk (Zdv rfl rfl Tryz.underlying9 rfl rfl oz (by simpa using hc) ?_)))
 refine ZdY (h:=xM (h:=Zt (d:=26) rfl (fun g3=>?_) (fun g3=>?_)))
 try simp only [sQ,ne_eq] at g3
 refine xM (h:=xM (h:=Zk (Zdv rfl rfl Tryz.underlying9 rfl rfl oz (by simpa using hc) ?_)))
 refine Zbs (h:=xT (h:=xN (h:=xT (h:=?_))))
 exact ⟨rfl,rfl,rfl,ZiC rfl (by rw [Bool.eq_iff_iff];simp [ZaY,];omega),t3⟩
 try simp only [sQ,ne_eq] at g3
 refine xP (h:=xP (h:=xP (h:=xP (h:=xF (h:=xN (h:=xT (h:=?_)))))))
 exact ⟨rfl,rfl,rfl,ZiC rfl (by rw [Bool.eq_iff_iff];simp [ZaY,];omega),t3⟩
 try simp only [sQ,ne_eq] at g2
 refine xP (h:=xP (h:=xP (h:=xP (h:=xP (h:=xP (h:=xP (h:=xP (h:=xP (h:=xP (h:=xP (h:=xF (h:=?_))))))))))))
 exact ⟨rfl,rfl,rfl,ZiC rfl (by rw [Bool.eq_iff_iff];simp [ZaY,];omega),t3⟩
 try simp only [sQ,ne_eq] at g1
 refine xP (h:=xP (h:=xP (h:=xP (h:=xF (h:=xN (h:=xM (h:=xM (h:=xM (h:=Zk (Zdv rfl rfl Tryz.underlying9 rfl rfl oz (by simpa using hc) ?_))))))))))
 refine ZdY (h:=xM (h:=Zt (d:=26) rfl (fun g4=>?_) (fun g4=>?_)))
 try simp only [sQ,ne_eq] at g4
 refine xM (h:=xM (h:=Zk (Zdv rfl rfl Tryz.underlying9 rfl rfl oz (by simpa using hc) ?_)))
 refine Zbs (h:=xT (h:=xN (h:=xT (h:=?_))))
 exact ⟨rfl,rfl,rfl,ZiC rfl (by rw [Bool.eq_iff_iff];simp [ZaY,];omega),t3⟩
 try simp only [sQ,ne_eq] at g4
 refine xP (h:=xP (h:=xP (h:=xP (h:=xF (h:=xN (h:=xT (h:=?_)))))))
 exact ⟨rfl,rfl,rfl,ZiC rfl (by rw [Bool.eq_iff_iff];simp [ZaY,];omega),t3⟩
 refine ZT [(0,_),(3,_),(7,_),(33,_)] t4 (Zb rfl (fun g9=>?_) (fun g9=>?_))
 try simp only [sQ,ne_eq] at g9
 refine Za (xA (h:=ZT [(0,_),(2,_),(3,_),(7,_),(33,_)] t5 (Ze (Zu (Zl (Ztg (Zu (Zl ?_))))))))
 exact eR t1 ⟨Zc (by simp [Zag,Zr9 hc g9]),rfl,rfl⟩
 try simp only [sQ,ne_eq] at g9
 refine ZL (ZI (Zm (Zf (xM (h:=Zk (ZfG rfl rfl rfl rfl (by first | exact ZbP oz oz | rfl) ?_))))))
 refine xA (h:=?_)
 exact ZmR (k+1) oz ⟨rfl,oz,Zmv hc g9 ha⟩ t2 rfl
 try simp only [sQ,ne_eq] at g1
 refine ZA (ZP (ZmQ (Zs (Zm (Za (xM (h:=xVs Tryz.underlying9 (h:=xR Zky rfl (Zcp _ _ _ _) (h:=xA (h:=ZT [(0,_),(2,_),(3,_),(7,_)] t4 (Ze ?_)))))))))))
 exact eR t1 ⟨Zc (by (obtain rfl:k=l.length:=oz);rw [List.take_length] at ha;rw [Bool.eq_iff_iff];simp [Zag,ha];omega),rfl,rfl⟩

theorem Zmr (b:Nat) (l:List UInt8) (i:Nat) (hi:i≤l.length) (hl:l.length≤2000000) (B:Kn):ZsT (pj J) 175 [ptr ⟨b,0,none⟩] B (cur b l i) (.bool (decide (i=l.length))) (cur b l i):=by
 refine cB 13 Tryz.func175 (h:=?_)
 refine Za (xA (h:=ZT [(0,_),(2,_)] t2 (Zd (ZY (same _ _) mo kr ⟨rfl,rfl⟩ (fun _ _=>?_)))))
 refine aM 0 rfl (h:=aNc 1 rfl (h:=aW 2 rfl Zbw (h:=aT 3 rfl (Z9 fun D=>Zn rfl rfl lk3 rfl (atL 0 rfl rfl rfl) r4) (h:=aM 4 rfl (h:=aNc 5 rfl (h:=aW 6 rfl ZfZ (h:=aT 7 rfl (Z9 fun D=>Zn rfl rfl lk9 rfl (atL 0 rfl rfl rfl) r4) (h:=aT 8 rfl (Z9 fun D=>Zsq rfl rfl Tryz.underlying9 rfl r4) (h:=Zqh 9 rfl (h:=aA 10 rfl (h:=Zw kr kr ?_)))))))))))
 refine Zm (ZT [(0,_),(2,_)] t2 (Ze ?_))
 exact e1 0 rfl t1 ⟨Zc (by rw [Bool.eq_iff_iff];simp;omega),rfl,rfl⟩

theorem ZuL (b:Nat) (l:List UInt8) (i:Nat) (hi:i≤l.length) (hl:l.length≤2000000) (x:UInt8) (B:Kn):ZsT (pj J) 219 [ptr ⟨b,0,none⟩,.int .u8 x.toNat] B (cur b l i) (.bool (decide (l[i]? = some x))) (cur b l (if l[i]? = some x then i+1 else i)):=by
 refine cB 27 Tryz.func219 (h:=?_)
 refine Za (xA (h:=ZT [(0,_),(1,_),(4,_)] t3 (Zd (ZgL 19 (decide (l[i]?≠some x)) [0,1,4] (same _ _) mo kr ⟨rfl,rfl⟩ (fun _ _=>?_) ?_))))
 refine aM 0 rfl (h:=aT 1 rfl (Z9 fun D=>Zd6 0 rfl rfl rfl ZrT rfl (Zmr _ _ _ oz oz _) r4) (h:=?_))
 refine aM 2 rfl (h:=Zaq (d:=7) rfl (fun g1=>?_) (fun g1=>?_))
 try simp only [sQ,ne_eq] at g1
 refine aZ 3 rfl (h:=aZ 4 rfl (h:=aZ 5 rfl (h:=aZ 6 rfl (h:=aZ 7 rfl (h:=aZ 8 rfl (h:=aZ 9 rfl (h:=aZ 10 rfl (h:=aZ 11 rfl (h:=aZ 12 rfl (h:=aZ 13 rfl (h:=aPT 14 rfl (h:=Zw kr kr ?_))))))))))))
 exact ⟨rfl,rfl,rfl,ZiC rfl (by first | (simp [g1];done) | (rw [Bool.eq_iff_iff];simp [hc,← UInt8.toNat_inj];omega)),t3⟩
 try simp only [sQ,ne_eq] at g1
 obtain ⟨c,hc⟩ :∃c,l[i]? = some c:=⟨_,List.getElem?_eq_getElem oz⟩
 refine aM 3 rfl (h:=aNc 4 rfl (h:=aW 5 rfl ZfZ (h:=aT 6 rfl (Z9 fun D=>Zn rfl rfl lk9 rfl (atL 0 rfl rfl rfl) r4) (h:=aM 7 rfl (h:=aNc 8 rfl (h:=aW 9 rfl Zbw (h:=aT 10 rfl (Z9 fun D=>Zn rfl rfl lk3 rfl (atL 0 rfl rfl rfl) r4) (h:=aT 11 rfl (Z9 fun D=>Zdv rfl rfl Tryz.underlying9 rfl rfl oz (by simpa using hc) r4) (h:=?_)))))))))
 refine aM 12 rfl (h:=ZvW 13 rfl (h:=aPF 14 rfl (h:=Zw kr kr ?_)))
 exact ⟨rfl,rfl,rfl,ZiC rfl (by first | (simp [g1];done) | (rw [Bool.eq_iff_iff];simp [hc,← UInt8.toNat_inj];omega)),t3⟩
 refine ZT [(0,_),(1,_),(4,_),(19,_)] t4 (Zb rfl (fun g2=>?_) (fun g2=>?_))
 try simp only [sQ,ne_eq] at g2
 refine Za (xA (h:=ZT [(0,_),(1,_),(4,_),(19,_)] t4 (Ze (Zl ?_))))
 exact e1 0 rfl t1 ⟨Zc (by simp [g2]),rfl,by rw [if_neg g2]⟩
 try simp only [sQ,ne_eq] at g2
 refine wSk (Za (xM (h:=xNc (h:=xW Zbw (h:=x1 lk3 0 (h:=Zk (ZfG rfl rfl rfl rfl (by first | exact ZbP oz oz | rfl) ?_)))))))
 refine xNc (h:=xW Zbw (h:=xS [_] 0 [_,_] sz3 (h:=Zz [(0,_),(1,_),(4,_),(19,_)] [_] t4 rfl (Za (xA (h:=ZT [(0,_),(1,_),(4,_),(19,_)] t4 (Ze ?_)))))))
 exact e1 0 rfl t1 ⟨Zc (by simp [g2]),rfl,by rw [if_pos g2];rfl⟩

theorem ZoK (b:Nat) (l:List UInt8) (i:Nat) (hi:i≤l.length) (hl:l.length≤2000000) (B:Kn):ZsT (pj J) 218 [ptr ⟨b,0,none⟩] B (cur b l i) (.tuple #[str (word l i),.bool (ZcV (word l i))]) (cur b l (i+(word l i).length)):=by
 refine cB 54 Tryz.func218 (h:=?_)
 refine Za (xA (h:=xA (h:=ZT [(0,_),(2,_),(3,_)] t3 (Za (xM (h:=xNc (h:=xW Zbw (h:=x1 lk3 0 (h:=xA (h:=ZT [(0,_),(2,_),(3,_),(4,_)] t4 (Zd (Zh (Zje (α:=Nat) (fun k=>[(0,ptr ⟨b,0,none⟩),(4,.int .i64 i)]) (fun k=>[cur b l (i+k)]) (fun k Bx=>Bx=B∧i+k≤l.length∧((l.drop i).take k).all ZaY=true) (fun k=>l.length - i - k) 0 t2 rfl (⟨rfl,oz,by simp⟩) (fun k B1 hle1 hI=>?_))))))))))))))
 obtain ⟨rfl,hk,ha⟩:=hI
 refine Zd (ZgL 24 (match l[i+k]? with | some c=>ZaY c | none=>false) [0,4] (same _ _) mo kr ⟨rfl,rfl⟩ (fun _ _=>?_) ?_)
 refine aM 0 rfl (h:=aT 1 rfl (Z9 fun D=>Zd6 0 rfl rfl rfl ZrT rfl (Zmr _ _ _ oz oz _) r4) (h:=?_))
 refine aN 2 rfl (h:=aM 3 rfl (h:=Zaq (d:=13) rfl (fun g1=>?_) (fun g1=>?_)))
 try simp only [sQ,ne_eq] at g1
 obtain ⟨c,hc⟩ :∃c,l[i+k]? = some c:=⟨_,List.getElem?_eq_getElem oz⟩
 refine aM 4 rfl (h:=aNc 5 rfl (h:=aW 6 rfl ZfZ (h:=aT 7 rfl (Z9 fun D=>Zn rfl rfl lk9 rfl (atL 0 rfl rfl rfl) r4) (h:=aM 8 rfl (h:=aNc 9 rfl (h:=aW 10 rfl Zbw (h:=aT 11 rfl (Z9 fun D=>Zn rfl rfl lk3 rfl (atL 0 rfl rfl rfl) r4) (h:=aT 12 rfl (Z9 fun D=>Zdv rfl rfl Tryz.underlying9 rfl rfl oz hc r4) (h:=?_)))))))))
 refine aT 13 rfl (Z9 fun D=>Zaa rfl rfl Zw6 rfl (Zm1 _ _) r4) (h:=aPT 14 rfl (h:=Zw kr kr ?_))
 exact ⟨rfl,rfl,rfl,ZiC rfl (by first | (rw [hc];done) | (rw [List.getElem?_eq_none oz])),t2⟩
 try simp only [sQ,ne_eq] at g1
 refine aZ 4 rfl (h:=aZ 5 rfl (h:=aZ 6 rfl (h:=aZ 7 rfl (h:=aZ 8 rfl (h:=aZ 9 rfl (h:=aZ 10 rfl (h:=aZ 11 rfl (h:=aZ 12 rfl (h:=aZ 13 rfl (h:=aPF 14 rfl (h:=Zw kr kr ?_)))))))))))
 exact ⟨rfl,rfl,rfl,ZiC rfl (by first | (rw [hc];done) | (rw [List.getElem?_eq_none oz])),t2⟩
 refine ZT [(0,_),(4,_),(24,_)] t3 (Zb rfl (fun g2=>?_) (fun g2=>?_))
 try simp only [sQ,ne_eq] at g2
 refine wSk (Zh (Zf (xM (h:=xNc (h:=xW Zbw (h:=x1 lk3 0 (h:=Zk (ZfG rfl rfl rfl rfl (by first | exact ZbP oz oz | rfl) ?_))))))))
 refine xNc (h:=xW Zbw (h:=xS [_] 0 [_,_] sz3 (h:=ZI ?_)))
 obtain ⟨c,hc,hn⟩:=Zop g2
 exact ZmR (k+1) (by have:=Zbm hc;omega) ⟨rfl,by have:=Zbm hc;omega,Zmv (by simpa using hc) hn ha⟩ t2 rfl
 try simp only [sQ,ne_eq] at g2
 have hw:word l i=(l.drop i).take k:=ZqB ha (fun c hc=>by rw [hc] at g2;exact g2)
 have hwl:(word l i).length=k:=by rw [hw,List.length_take,List.length_drop];omega
 refine ZA (ZP (ZmQ (Zs (Zm (Za (xM (h:=xNc (h:=xW Zbw (h:=x1 lk3 0 (h:=xM (h:=Zk (Zii rfl rfl rfl rfl (by first | exact ZbP oz oz | rfl) ?_))))))))))))
 refine xA (h:=ZT [(0,_),(4,_),(5,_),(24,_)] t4 (Zd (ZY (same _ _) mo kr ⟨rfl,rfl⟩ (fun _ _=>?_))))
 refine aM 0 rfl (h:=aNc 1 rfl (h:=aW 2 rfl ZfZ (h:=aT 3 rfl (Z9 fun D=>Zn rfl rfl lk9 rfl (atL 0 rfl rfl rfl) r4) (h:=aM 4 rfl (h:=aM 5 rfl (h:=aNc 6 rfl (h:=aW 7 rfl Zbw (h:=aT 8 rfl (Z9 fun D=>Zn rfl rfl lk3 rfl (atL 0 rfl rfl rfl) r4) (h:=aT 9 rfl (Z9 fun D=>Zff rfl rfl Tryz.underlying9 rfl (a:=i) (b:=i+k) ⟨_,_,rfl,rfl⟩ ⟨_,_,rfl,oz⟩ oz oz r4) (h:=?_))))))))))
 refine aM 10 rfl (h:=Zyp 11 rfl (h:=aM 12 rfl (h:=Zaq (d:=50) rfl (fun g1=>?_) (fun g1=>?_))))
 try simp only [sQ,ne_eq] at g1
 refine aM 13 rfl (h:=Zud 14 rfl (h:=aPT 15 rfl (h:=aA 16 rfl (h:=aA 17 rfl (h:=Zw kr kr ?_)))))
 refine Zm (ZT [(0,_),(2,_),(3,_),(4,_),(5,_),(24,_)] t6 (Ze ?_))
 exact Zt2 .ret (.inl rfl) [_,_] 0 rfl t2 ⟨ZhK (by rw [ZeP,hw]) (Zc (by rw [Bool.eq_iff_iff];simp [ZcV,hwl];omega)),rfl,by rw [hwl]⟩
 try simp only [sQ,ne_eq] at g1
 refine aZ 13 rfl (h:=aZ 14 rfl (h:=aPF 15 rfl (h:=aA 16 rfl (h:=aA 17 rfl (h:=Zw kr kr ?_)))))
 refine Zm (ZT [(0,_),(2,_),(3,_),(4,_),(5,_),(24,_)] t6 (Ze ?_))
 exact Zt2 .ret (.inl rfl) [_,_] 0 rfl t2 ⟨ZhK (by rw [ZeP,hw]) (Zc (by rw [Bool.eq_iff_iff];simp [ZcV,hwl];omega)),rfl,by rw [hwl]⟩

theorem ZrW (b:Nat) (l:List UInt8) (i:Nat) (hi:i≤l.length) (hl:l.length≤2000000) (B:Kn):ZsT (pj J) 174 [ptr ⟨b,0,none⟩] B (cur b l i) (.tuple #[str (Zhm l i),.bool (Zly l i)]) (cur b l (dom l i).2):=by
 refine cB 53 Tryz.func174 (h:=?_)
 refine Za (xA (h:=xA (h:=ZT [(0,_),(2,_),(3,_)] t3 (Za (xM (h:=xNc (h:=xW Zbw (h:=x1 lk3 0 (h:=xA (h:=ZT [(0,_),(2,_),(3,_),(4,_)] t4 (Zd (Za (xM (h:=Zk (ZhG 0 rfl rfl rfl Zt3 rfl (ZoK _ _ _ oz oz _) ?_)))))))))))))))
 refine xM (h:=xE (h:=xE (h:=xA (h:=xA (h:=Zz [(0,_),(2,_),(3,_),(4,_),(6,_)] [_] t5 rfl (Za (xM (h:=xN (h:=ZT [(0,_),(2,_),(3,_),(4,_),(6,_),(20,_)] t6 (Zb rfl (fun g1=>?_) (fun g1=>?_)))))))))))
 try simp only [sQ,ne_eq] at g1
 refine Za (xA (h:=xA (h:=ZT [(0,_),(2,_),(3,_),(4,_),(6,_),(20,_)] t6 (Ze (Zl ?_)))))
 exact Zt2 .ret (.inl rfl) [_,_] 0 rfl t2 ⟨ZhK (by simp [Zhm,Zlx g1]) (Zc (by simp [Zly,Zlx g1])),rfl,by rw [Zlx g1]⟩
 try simp only [sQ,ne_eq] at g1
 refine wSk (Zd (Za (xA (h:=ZT [(0,_),(2,_),(3,_),(4,_),(6,_),(7,_),(20,_)] t7 (Zh (Zje (α:=Nat × Nat) (fun x=>[(0,ptr ⟨b,0,none⟩),(4,.int .i64 i),(7,.int .i64 x.1)]) (fun x=>[cur b l x.2]) (fun x Bx=>Bx=B∧1≤x.1∧x.1≤3∧i≤x.2∧x.2≤l.length∧dom l i=more (3 - x.1) l x.2) (fun x=>3 - x.1) (1,i+(word l i).length) t3 rfl (⟨rfl,oz,oz,oz,ZgJ hi,ZrX g1⟩) (fun x B1 hle1 hI=>?_)))))))
 obtain ⟨rfl,hk1,hk3,hix,hxl,hd⟩:=hI
 refine Zd (Za (xM (h:=ZB (h:=xM (h:=Zt (d:=23) rfl (fun g2=>?_) (fun g2=>?_))))))
 try simp only [sQ,ne_eq] at g2
 refine xM (h:=Zk (ZhG 0 rfl rfl rfl Zxj rfl (ZuL _ _ _ oz oz 46 _) ?_))
 refine xT (h:=Zz [(0,_),(4,_),(7,_),(26,_)] [_] t4 rfl (Zb rfl (fun g3=>?_) (fun g3=>?_)))
 try simp only [sQ,ne_eq] at g3
 rw [if_pos g3]
 have hx2:=Zbm g3
 refine wSk (Zd (Zh (Za (xM (h:=Zk (ZhG 0 rfl rfl rfl Zt3 rfl (ZoK _ _ _ oz oz _) ?_))))))
 refine xM (h:=xE (h:=xE (h:=xA (h:=xA (h:=Zz [(0,_),(4,_),(7,_),(9,_),(26,_)] [_] t5 rfl (Za (xM (h:=xN (h:=ZT [(0,_),(4,_),(7,_),(9,_),(26,_),(35,_)] t6 (Zb rfl (fun g4=>?_) (fun g4=>?_)))))))))))
 try simp only [sQ,ne_eq] at g4
 refine Za (xA (h:=xA (h:=ZT [(0,_),(2,_),(3,_),(4,_),(7,_),(9,_),(26,_),(35,_)] t8 (Ze (Zu (Zl (Ztg (Zu (Zl ?_)))))))))
 have hdd:=hd.trans (Zrl oz g3 g4)
 exact Zt2 .ret (.inl rfl) [_,_] 0 rfl t2 ⟨ZhK (by simp [Zhm,hdd]) (Zc (by simp [Zly,hdd])),rfl,by rw [hdd]⟩
 try simp only [sQ,ne_eq] at g4
 refine ZL (ZI (Zm (Zf (xM (h:=Zk (ZfG rfl rfl rfl rfl (by first | exact ZbP oz oz | rfl) ?_))))))
 refine xA (h:=?_)
 exact ZmR (x.1+1,x.2+1+(word l (x.2+1)).length) (so) ⟨rfl,so,so,so,ZgJ oz,by rw [hd,ZoP oz g3 g4];rw [show 3 - (x.1+1)=3 - x.1 - 1 from by omega]⟩ t3 rfl
 try simp only [sQ,ne_eq] at g3
 rw [if_neg g3]
 replace hd:=hd.trans (ZgZ g3)
 refine ZA (ZP (ZmQ (Zs (Zm (Zd (ZY (same _ _) mo kr ⟨rfl,rfl⟩ (fun _ _=>?_)))))))
 refine aM 0 rfl (h:=aNc 1 rfl (h:=aW 2 rfl ZfZ (h:=aT 3 rfl (Z9 fun D=>Zn rfl rfl lk9 rfl (atL 0 rfl rfl rfl) r4) (h:=aM 4 rfl (h:=aM 5 rfl (h:=aNc 6 rfl (h:=aW 7 rfl Zbw (h:=aT 8 rfl (Z9 fun D=>Zn rfl rfl lk3 rfl (atL 0 rfl rfl rfl) r4) (h:=aT 9 rfl (Z9 fun D=>Zff rfl rfl Tryz.underlying9 rfl (a:=i) (b:=x.2) ⟨_,_,rfl,rfl⟩ ⟨_,_,rfl,rfl⟩ oz oz r4) (h:=?_))))))))))
 refine aM 10 rfl (h:=aNc 11 rfl (h:=aW 12 rfl Zbw (h:=aT 13 rfl (Z9 fun D=>Zn rfl rfl lk3 rfl (atL 0 rfl rfl rfl) r4) (h:=aM 14 rfl (h:=aT 15 rfl (Z9 fun D=>Zii rfl rfl rfl rfl (by first | exact ZbP oz oz | rfl) r4) (h:=?_))))))
 refine Zud 16 rfl (h:=aA 17 rfl (h:=aA 18 rfl (h:=Zw kr kr ?_)))
 refine Zm (ZT [(0,_),(2,_),(3,_),(4,_),(7,_),(26,_)] t6 (Ze ?_))
 exact Zt2 .ret (.inl rfl) [_,_] 0 rfl t2 ⟨ZhK (by simp [Zhm,hd]) (Zc (by rw [Bool.eq_iff_iff];simp [Zly,hd];omega)),rfl,by rw [hd]⟩
 try simp only [sQ,ne_eq] at g2
 replace hd:dom l i=(true,x.2):=hd.trans (by rw [show 3 - x.1=0 from by omega];rfl)
 refine xP (h:=xP (h:=xF (h:=ZT [(0,_),(4,_),(7,_),(26,_)] t4 (Zb (t:=false) rfl (fun h=>Bool.noConfusion h) (fun _=>ZA (ZP (ZmQ (Zs (Zm (Zd (ZY (same _ _) mo kr ⟨rfl,rfl⟩ (fun _ _=>?_))))))))))))
 refine aM 0 rfl (h:=aNc 1 rfl (h:=aW 2 rfl ZfZ (h:=aT 3 rfl (Z9 fun D=>Zn rfl rfl lk9 rfl (atL 0 rfl rfl rfl) r4) (h:=aM 4 rfl (h:=aM 5 rfl (h:=aNc 6 rfl (h:=aW 7 rfl Zbw (h:=aT 8 rfl (Z9 fun D=>Zn rfl rfl lk3 rfl (atL 0 rfl rfl rfl) r4) (h:=aT 9 rfl (Z9 fun D=>Zff rfl rfl Tryz.underlying9 rfl (a:=i) (b:=x.2) ⟨_,_,rfl,rfl⟩ ⟨_,_,rfl,rfl⟩ oz oz r4) (h:=?_))))))))))
 refine aM 10 rfl (h:=aNc 11 rfl (h:=aW 12 rfl Zbw (h:=aT 13 rfl (Z9 fun D=>Zn rfl rfl lk3 rfl (atL 0 rfl rfl rfl) r4) (h:=aM 14 rfl (h:=aT 15 rfl (Z9 fun D=>Zii rfl rfl rfl rfl (by first | exact ZbP oz oz | rfl) r4) (h:=?_))))))
 refine Zud 16 rfl (h:=aA 17 rfl (h:=aA 18 rfl (h:=Zw kr kr ?_)))
 refine Zm (ZT [(0,_),(2,_),(3,_),(4,_),(7,_),(26,_)] t6 (Ze ?_))
 exact Zt2 .ret (.inl rfl) [_,_] 0 rfl t2 ⟨ZhK (by simp [Zhm,hd]) (Zc (by rw [Bool.eq_iff_iff];simp [Zly,hd];omega)),rfl,by rw [hd]⟩

theorem ZbB (l:List UInt8) (hl:l.length≤2000000) (B:Kn):Z0 (pj J) 183 [str l] B (.bool (Zag l)):=by
 refine cB 16 Tryz.func183 (h:=?_)
 refine Za (xA (h:=ZT [(0,_),(2,_)] t2 (Za (xM (h:=xB [(0,_)] [_,_] [_,_] Zu0 Zqo (h:=xAl [_,_] Zqo (h:=fun b0=>xS [_,_] 0 [_,_] ZuT (h:=Zz [(0,_),(2,_),(3,_)] [_] t3 rfl (Za (Zk (ZhG 0 rfl rfl rfl Zt3 rfl (ZoK _ _ 0 oz hl _) ?_)))))))))))
 refine xM (h:=xE (h:=xE (h:=xA (h:=xA (h:=Zz [(0,_),(2,_),(3,_),(5,_)] [_] t4 rfl (Za (xM (h:=xM (h:=Zt (d:=13) rfl (fun g1=>?_) (fun g1=>?_))))))))))
 refine Zk (Zd6 0 rfl rfl rfl ZrT rfl (Zmr _ _ (0+(word l 0).length) (ZgJ (Nat.zero_le _)) oz _) ?_)
 refine xT (h:=xA (h:=ZT [(0,_),(2,_),(3,_),(5,_)] t4 (Ze ?_)))
 exact eR t1 ⟨Zc (by rw [ZcJ];simp [g1];try omega),rfl,rfl⟩
 refine xP (h:=xF (h:=xA (h:=ZT [(0,_),(2,_),(3,_),(5,_)] t4 (Ze ?_))))
 exact eR t1 ⟨Zc (by rw [ZcJ];simp [g1];try omega),rfl,rfl⟩

abbrev Zv9 (s : Cells) (q : Option Addr) (m cp : Nat) (ls : List (List UInt8)) : Prop := Zhx s q m cp 9 1 (ls.map str)
theorem Zji {s:Cells} {q:Option Addr} {m cp:Nat} {ls:List (List UInt8)} {a:List UInt8} (h:Zhx s q m cp 9 1 (ls.map str ++ [str a])):Zv9 s q m cp (ls ++ [a]):=by
 unfold Zv9
 rw [List.map_append]
 exact h
theorem Ztz (l:List UInt8) (hl:l.length≤2000000) (x0:UInt8) (B:Kn):ZyX (pj J) 133 [str l,.int .u8 x0.toNat] B (fun v s=>∃q cp,v = .slice q (cut x0 l).length cp∧Zv9 s q (cut x0 l).length cp (cut x0 l)):=by
 refine cB 35 Tryz.func133 (h:=?_)
 refine Za (xA (h:=ZT [(0,_),(1,_),(4,_)] t3 (Za (xBs [] [] Tryz.underlying144 sz9 zo9 (h:=fun b0=>xA (h:=Zz [(0,_),(1,_),(4,_),(5,_)] [_] t4 rfl (Za (xA (h:=ZT [(0,_),(1,_),(4,_),(5,_),(6,_)] t5 (Zd (Za (xA (h:=ZT [(0,_),(1,_),(4,_),(5,_),(6,_),(7,_)] t6 (Zh (Zje (α:=CutSt) (fun x=>[(0,str l),(1,.int .u8 x0.toNat),(5,.slice x.q x.m x.cp),(6,.int .i64 x.f),(7,.int .i64 x.i)]) (fun x=>[x.s]) (fun x Bx=>Bx=B∧x.f≤x.i∧x.i≤l.length∧x.m≤x.i∧x.m=x.ps.length∧Zv9 x.s x.q x.m x.cp x.ps∧cut x0 l=x.ps ++ glue ((l.take x.i).drop x.f) (cut x0 (l.drop x.i))) (fun x=>l.length - x.i) ⟨0,0,0,[],some ⟨b0,0,none⟩,0,ZN b0 [] 9⟩ t5 rfl (⟨rfl,Nat.le_refl _,Nat.zero_le _,Nat.le_refl _,rfl,Zhx.lit rfl,by simp [Zmg (Zmu x0 l)]⟩) (fun x B1 hle1 hI=>?_))))))))))))))))
 obtain ⟨rfl,hf,hi,hn,hm,hv,hc⟩:=hI
 refine Zd (Za (xM (h:=xM (h:=xVs Tryz.underlying9 (h:=ZB (h:=ZT [(0,_),(1,_),(5,_),(6,_),(7,_),(12,_)] t6 (Zb rfl (fun g1=>?_) (fun g1=>?_))))))))
 try simp only [sQ,ne_eq] at g1
 obtain ⟨c,hx⟩ :∃c,l[x.i]? = some c:=⟨_,List.getElem?_eq_getElem oz⟩
 refine wSk (Zd (Zh (Za (xM (h:=xM (h:=Zk (Zdv rfl rfl Tryz.underlying9 rfl rfl oz hx ?_)))))))
 refine xM (h:=ZgI (h:=ZT [(0,_),(1,_),(5,_),(6,_),(7,_),(12,_),(19,_)] t7 (Zb rfl (fun g2=>?_) (fun g2=>?_))))
 try simp only [sQ,ne_eq] at g2
 refine Za (xM (h:=xM (h:=xM (h:=xM (h:=Zk (Zff rfl rfl Tryz.underlying9 rfl (a:=x.f) (b:=x.i) ⟨_,_,rfl,rfl⟩ ⟨_,_,rfl,rfl⟩ oz oz ?_))))))
 refine xBs [(0,_)] [_] Tryz.underlying144 sz9 zo9 (h:=fun b1=>Zk (Zeq 0 rfl (hv) rfl rfl ZrS Ztb rfl rfl (Zcy.box 1 rfl) rfl rfl oz (fun l1 p1 c1 hv1=>?_)))
 refine xA (h:=Zz [(0,_),(1,_),(5,_),(6,_),(7,_),(12,_),(19,_)] [_,_] t7 rfl (ZqE [0] rfl (Zf (xM (h:=Zk (ZfG rfl rfl rfl rfl (by first | exact ZbP oz oz | rfl) ?_))))))
 refine xA (h:=ZI (Zm (Zf (xM (h:=Zk (ZfG rfl rfl rfl rfl (by first | exact ZbP oz oz | rfl) ?_))))))
 refine xA (h:=?_)
 exact ZmR ⟨x.i+1,x.i+1,x.m+1,x.ps ++ [(l.take x.i).drop x.f],p1,c1,l1⟩ (so) ⟨rfl,Nat.le_refl _,so,so,by simp [hm],Zji hv1,by rw [hc,Zt8 hx (Zwr g2),List.append_assoc];simp [ZrJ,Zmg (Zmu x0 _)]⟩ t5 rfl
 try simp only [sQ,ne_eq] at g2
 refine ZL (ZI (Zm (Zf (xM (h:=Zk (ZfG rfl rfl rfl rfl (by first | exact ZbP oz oz | rfl) ?_))))))
 refine xA (h:=?_)
 exact ZmR ⟨x.i+1,x.f,x.m,x.ps,x.q,x.cp,x.s⟩ (so) ⟨rfl,so,so,so,hm,hv,by rw [hc,ZrZ hx (Zwq g2),Zpg,Zn9 hx hf]⟩ t5 rfl
 try simp only [sQ,ne_eq] at g1
 obtain hie:x.i=l.length:=by omega
 rw [hie,List.take_length,List.drop_length] at hc
 refine ZA (ZP (ZmQ (Zs (Zm (Za (xM (h:=xM (h:=xM (h:=Zk (Zff rfl rfl Tryz.underlying9 rfl (a:=x.f) (b:=l.length) ⟨_,_,rfl,rfl⟩ rfl oz oz ?_))))))))))
 refine xBs [(0,_)] [_] Tryz.underlying144 sz9 zo9 (h:=fun b1=>Zk (Zeq 0 rfl (hv) rfl rfl ZrS Ztb rfl rfl (Zcy.box 1 rfl) rfl rfl oz (fun l2 p2 c2 hv2=>?_)))
 refine xA (h:=Zz [(0,_),(1,_),(4,_),(5,_),(6,_),(7,_),(12,_)] [_,_] t7 rfl (Ze ?_))
 have he:cut x0 l=x.ps ++ [l.drop x.f]:=by rw [hc];simp [cut,glue]
 have hlen:(cut x0 l).length=x.m+1:=by rw [he];simp [hm]
 exact ZeG .ret (.inl rfl) [_] [0] rfl ⟨rfl,trivial⟩ ⟨rfl,_,rfl,p2,c2,by rw [hlen];rfl,by rw [hlen,he];rw [List.take_length] at hv2;exact Zji hv2⟩

theorem Zjw (l:List UInt8) (hl:l.length≤2000000) (B:Kn):Z0 (pj J) 79 [str l] B (.bool (Zch l)):=by
 refine cB 27 Tryz.func79 (h:=?_)
 refine Za (xA (h:=ZT [(0,_),(2,_)] t2 (Za (xM (h:=Zk (Zur rfl rfl Zya rfl (Ztz _ hl 46 _) ?_))))))
 rintro _ s ⟨q,cp,rfl,hv⟩
 refine xA (h:=Zz [(0,_),(2,_),(3,_)] [_] t3 rfl (Zd (Za (xA (h:=ZT [(0,_),(2,_),(3,_),(4,_)] t4 (Zh (Zje (α:=Nat) (fun k=>[(0,str l),(3,.slice q (cut 46 l).length cp),(4,.int .i64 k)]) (fun k=>[s]) (fun k Bx=>Bx=B∧k≤(cut 46 l).length∧((cut 46 l).take k).all Zag=true) (fun k=>(cut 46 l).length - k) 0 t3 rfl (⟨rfl,Nat.zero_le _,by simp⟩) (fun k B1 hle1 hI=>?_))))))))
 obtain ⟨rfl,hk,ha⟩:=hI
 have hcc:=Zki 46 l
 refine Zd (Za (xM (h:=xM (h:=xV Tryz.underlying144 (h:=ZB (h:=ZT [(0,_),(3,_),(4,_),(10,_)] t4 (Zb rfl (fun g1=>?_) (fun g1=>?_))))))))
 try simp only [sQ,ne_eq] at g1
 obtain ⟨y,hy⟩ :∃y,(cut 46 l)[k]? = some y:=⟨_,List.getElem?_eq_getElem oz⟩
 have hyl:=Zlz 46 l y (List.mem_of_getElem? hy)
 obtain ⟨a,rfl,hsp,hat⟩:=hv.at (B:=B1) (L:=[s]) (i:=k) (v:=str y) 0 rfl (by rw [List.getElem?_map,hy];rfl)
 refine wSk (Zd (Zh (Za (xM (h:=xM (h:=Zk (Zbt rfl rfl Tryz.underlying144 sz9 rfl rfl oz oz ?_)))))))
 refine Zk (Zn rfl rfl lk9 rfl (ZvP hat) (xR Zlw rfl (ZbX _ oz _) (h:=?_)))
 refine xN (h:=ZT [(0,_),(3,_),(4,_),(10,_),(18,_)] t5 (Zb rfl (fun g2=>?_) (fun g2=>?_)))
 try simp only [sQ,ne_eq] at g2
 refine Za (xA (h:=ZT [(0,_),(2,_),(3,_),(4,_),(10,_),(18,_)] t6 (Ze (Zu (Zl (Ztg (Zu (Zl ?_))))))))
 exact eR t1 ⟨Zc (by simp [Zch,Zks hy g2]),rfl,rfl⟩
 try simp only [sQ,ne_eq] at g2
 refine ZL (ZI (Zm (Zf (xM (h:=Zk (ZfG rfl rfl rfl rfl (by first | exact ZbP oz oz | rfl) ?_))))))
 refine xA (h:=?_)
 exact ZmR (k+1) oz ⟨rfl,oz,Zht hy g2 ha⟩ t3 rfl
 try simp only [sQ,ne_eq] at g1
 obtain hke:k=(cut 46 l).length:=by omega
 rw [hke,List.take_length] at ha
 refine ZA (ZP (ZmQ (Zs (Zm (Za (xM (h:=xV Tryz.underlying144 (h:=Zbs (h:=xM (h:=Zt (d:=22) rfl (fun g3=>?_) (fun g3=>?_)))))))))))
 try simp only [sQ,ne_eq] at g3
 refine xM (h:=xVs Tryz.underlying9 (h:=Zbs (h:=xT (h:=xA (h:=ZT [(0,_),(2,_),(3,_),(4,_),(10,_)] t5 (Ze ?_))))))
 exact eR t1 ⟨Zc (by rw [Bool.eq_iff_iff];simp [Zch,ha];omega),rfl,rfl⟩
 try simp only [sQ,ne_eq] at g3
 refine xP (h:=xP (h:=xP (h:=xF (h:=xA (h:=ZT [(0,_),(2,_),(3,_),(4,_),(10,_)] t5 (Ze ?_))))))
 exact eR t1 ⟨Zc (by rw [Bool.eq_iff_iff];simp [Zch,ha];omega),rfl,rfl⟩

theorem Zfu (q:Option Addr) (cp:Nat) (us:List DUser) (u:Str) (B:Kn) (hu:SlK B q cp 3 ZJ us):Z0 (pj J) 84 [.slice q us.length cp,str u] B (.int .i64 (Zgi us u)):=by
 refine cB 20 Tryz.func84 (h:=?_)
 have hun:=hu.len
 refine Za (xA (h:=Zd (Za (xA (h:=Zh (Zv (α:=Nat) [0,1] (fun k=>[(5,.int .i64 k)]) [] (fun k=>[]) (fun k Bx=>Bx=B∧k≤us.length∧∀x,x∈us.take k→x.name≠u) (fun k=>us.length - k) 0 t1 rfl (⟨rfl,Nat.zero_le _,by simp⟩) (fun k B1 hle1 hI=>?_)))))))
 obtain ⟨rfl,hk,ha⟩:=hI
 refine Zz [(0,_),(1,_),(5,_)] [] t3 rfl (Zd (Za (xM (h:=xM (h:=xV Tryz.underlying38 (h:=ZB (h:=Zb rfl (fun g1=>?_) (fun g1=>?_))))))))
 try simp only [sQ,ne_eq] at g1
 refine wSk (Zd (Zh (Za (xM (h:=xM (h:=?_))))))
 obtain ⟨x,hx⟩:=ZM (xs:=us) (i:=k) om
 obtain ⟨bb3,oo3,rfl⟩:=hu.base hx
 obtain ⟨_,⟨rfl,hb4,hb4b⟩,hc4⟩:=hu.elem hx
 refine xIx Tryz.underlying38 ZbQ (h:=xW ZaZ (h:=y1 lk9 hc4 0 (h:=xM (h:=Zdc (h:=Zb rfl (fun g2=>?_) (fun g2=>?_))))))
 try simp only [sQ,ne_eq] at g2
 refine Za (xM (h:=xA (h:=Ze (Zu (Zl (ZF (Zu (Zl ?_))))))))
 exact eR t1 ⟨ZE (Zrv hx g2 ha).symm,rfl,rfl⟩
 try simp only [sQ,ne_eq] at g2
 refine ZL (ZI (Zm (Zf (xM (h:=xD (h:=xA (h:=?_)))))))
 exact Zy (k+1) [] so2 ⟨rfl,oz,ZaJ hx ha g2⟩ t3 rfl
 try simp only [sQ,ne_eq] at g1
 refine ZA (ZP (ZC (Zs (Zm (Za (xA (h:=Ze ?_)))))))
 exact eR t1 ⟨ZE (Zo8 (ZaR oz ha)).symm,rfl,rfl⟩

theorem Zlu (q q':Option Addr) (cp cp':Nat) (xs ys:List Str) (B:Kn) (ha:SlK B q cp 1 Zdt xs) (hb:SlK B q' cp' 1 Zdt ys):Z0 (pj J) 203 [.slice q xs.length cp,.slice q' ys.length cp'] B (.bool (decide (xs=ys))):=by
 refine cB 26 Tryz.func203 (h:=?_)
 have han:=ha.len
 have hbn:=hb.len
 refine Za (xA (h:=Zd (Za (xM (h:=xV Tryz.underlying144 (h:=xM (h:=xV Tryz.underlying144 (h:=Zar (h:=Zb rfl (fun g1=>?_) (fun g1=>?_))))))))))
 try simp only [sQ,ne_eq] at g1
 refine Za (xA (h:=Ze (Zl ?_)))
 exact eR t1 ⟨Zc (Zek g1),rfl,rfl⟩
 try simp only [sQ,ne_eq] at g1
 refine wSk (Zd (Za (xA (h:=Zh (Zv (α:=Nat) [0,1,10] (fun k=>[(5,.int .i64 k)]) [] (fun k=>[]) (fun k Bx=>Bx=B∧k≤xs.length∧xs.take k=ys.take k) (fun k=>xs.length - k) 0 t1 rfl (⟨rfl,Nat.zero_le _,by simp⟩) (fun k B1 hle1 hI=>?_))))))
 obtain ⟨rfl,hk,he⟩:=hI
 refine Zz [(0,_),(1,_),(5,_),(10,_)] [] t4 rfl (Zd (Za (xM (h:=xM (h:=xV Tryz.underlying144 (h:=ZB (h:=Zb rfl (fun g2=>?_) (fun g2=>?_))))))))
 try simp only [sQ,ne_eq] at g2
 refine wSk (Zd (Zh (Zd (ZY (same _ _) mo kr ⟨rfl,rfl⟩ (fun _ _=>?_)))))
 refine aM 0 rfl (h:=aM 1 rfl (h:=?_))
 obtain ⟨x,hx⟩:=ZM (xs:=xs) (i:=k) om
 obtain ⟨bb3,oo3,rfl⟩:=ha.base hx
 obtain ⟨_,⟨rfl,hb4⟩,hc4⟩:=ha.elem hx
 refine aIx 2 rfl Tryz.underlying144 sz9 (h:=aT 3 rfl (Z9 fun D=>Zn rfl rfl lk9 rfl (hc4 _ 0 _ rfl) r4) (h:=aM 4 rfl (h:=aM 5 rfl (h:=?_))))
 obtain ⟨y,hy⟩:=ZM (xs:=ys) (i:=k) om
 obtain ⟨bb6,oo6,rfl⟩:=hb.base hy
 obtain ⟨_,⟨rfl,hb7⟩,hc7⟩:=hb.elem hy
 refine aIx 6 rfl Tryz.underlying144 sz9 (h:=aT 7 rfl (Z9 fun D=>Zn rfl rfl lk9 rfl (hc7 _ 0 _ rfl) r4) (h:=ZsS 8 rfl (h:=Zw kr kr ?_)))
 refine Zm (Zb rfl (fun g3=>?_) (fun g3=>?_))
 try simp only [sQ,ne_eq] at g3
 refine Za (xA (h:=Ze (Zu (Zl (ZF (Zu (Zl ?_)))))))
 exact eR t1 ⟨Zc (Zc3 hx hy g3),rfl,rfl⟩
 try simp only [sQ,ne_eq] at g3
 refine ZL (ZI (Zm (Zf (xM (h:=xD (h:=xA (h:=?_)))))))
 exact Zy (k+1) [] so2 ⟨rfl,oz,ZaO hx hy g3 he⟩ t4 rfl
 try simp only [sQ,ne_eq] at g2
 refine ZA (ZP (ZC (Zs (Zm (Za (xA (h:=Ze ?_)))))))
 exact eR t1 ⟨Zc (eqT oz oz he),rfl,rfl⟩

theorem Zrr (q:Option Addr) (cp:Nat) (xs:List Str) (u:Str) (B:Kn) (ha:SlK B q cp 1 Zdt xs):Z0 (pj J) 244 [.slice q xs.length cp,str u] B (.bool (decide (u∈xs))):=by
 refine cB 18 Tryz.func244 (h:=?_)
 have han:=ha.len
 refine Za (xA (h:=Zd (Za (xA (h:=Zh (Zv (α:=Nat) [0,1] (fun k=>[(5,.int .i64 k)]) [] (fun k=>[]) (fun k Bx=>Bx=B∧k≤xs.length∧∀x,x∈xs.take k→x≠u) (fun k=>xs.length - k) 0 t1 rfl (⟨rfl,Nat.zero_le _,by simp⟩) (fun k B1 hle1 hI=>?_)))))))
 obtain ⟨rfl,hk,hn⟩:=hI
 refine Zz [(0,_),(1,_),(5,_)] [] t3 rfl (Zd (Za (xM (h:=xM (h:=xV Tryz.underlying144 (h:=ZB (h:=Zb rfl (fun g1=>?_) (fun g1=>?_))))))))
 try simp only [sQ,ne_eq] at g1
 refine wSk (Zd (Zh (Za (xM (h:=xM (h:=?_))))))
 obtain ⟨x,hx⟩:=ZM (xs:=xs) (i:=k) om
 obtain ⟨bb3,oo3,rfl⟩:=ha.base hx
 obtain ⟨_,⟨rfl,hb4⟩,hc4⟩:=ha.elem hx
 refine xIx Tryz.underlying144 sz9 (h:=y1 lk9 hc4 0 (h:=xM (h:=Zdc (h:=Zb rfl (fun g2=>?_) (fun g2=>?_)))))
 try simp only [sQ,ne_eq] at g2
 refine Za (xA (h:=Ze (Zu (Zl (ZF (Zu (Zl ?_)))))))
 exact eR t1 ⟨Zc (Zzh hx g2),rfl,rfl⟩
 try simp only [sQ,ne_eq] at g2
 refine ZL (ZI (Zm (Zf (xM (h:=xD (h:=xA (h:=?_)))))))
 exact Zy (k+1) [] so2 ⟨rfl,oz,ZaJ hx hn g2⟩ t3 rfl
 try simp only [sQ,ne_eq] at g1
 refine ZA (ZP (ZC (Zs (Zm (Za (xA (h:=Ze ?_)))))))
 exact eR t1 ⟨Zc (Zzi (ZaR oz hn)),rfl,rfl⟩

theorem Zm6 (q:Option Addr) (cp:Nat) (xs:List Str) (B:Kn) (ha:SlK B q cp 1 Zdt xs):Z0 (pj J) 192 [.slice q xs.length cp] B (.bool (ZcI xs)):=by
 refine cB 29 Tryz.func192 (h:=?_)
 have han:=ha.len
 refine Za (xA (h:=Zd (Za (xA (h:=Zh (Zv (α:=Nat) [0] (fun k=>[(3,.int .i64 k)]) [] (fun k=>[]) (fun k Bx=>Bx=B∧k≤xs.length∧(xs.take k).all Zag=true∧(xs.take k).Nodup) (fun k=>xs.length - k) 0 t1 rfl (⟨rfl,Nat.zero_le _,by simp,by simp⟩) (fun k B1 hle1 hI=>?_)))))))
 obtain ⟨rfl,hk,hv,hn⟩:=hI
 refine Zz [(0,_),(3,_)] [] t2 rfl (Zd (Za (xM (h:=xM (h:=xV Tryz.underlying144 (h:=ZB (h:=Zb rfl (fun g1=>?_) (fun g1=>?_))))))))
 try simp only [sQ,ne_eq] at g1
 refine wSk (Zd (Zh (Zd (ZY (same _ _) mo kr ⟨rfl,rfl⟩ (fun _ _=>?_)))))
 refine aM 0 rfl (h:=aM 1 rfl (h:=?_))
 obtain ⟨x,hx⟩:=ZM (xs:=xs) (i:=k) om
 obtain ⟨bb3,oo3,rfl⟩:=ha.base hx
 obtain ⟨_,⟨rfl,hb4⟩,hc4⟩:=ha.elem hx
 refine aIx 2 rfl Tryz.underlying144 sz9 (h:=aT 3 rfl (Z9 fun D=>Zn rfl rfl lk9 rfl (hc4 _ 0 _ rfl) r4) (h:=aT 4 rfl (Z9 fun D=>Zaa rfl rfl Zlw rfl (ZbX _ om2 _) r4) (h:=?_)))
 refine aN 5 rfl (h:=aM 6 rfl (h:=Zaq (d:=16) rfl (fun g2=>?_) (fun g2=>?_)))
 try simp only [sQ,ne_eq] at g2
 refine aZ 7 rfl (h:=aZ 8 rfl (h:=aZ 9 rfl (h:=aZ 10 rfl (h:=aZ 11 rfl (h:=aZ 12 rfl (h:=aZ 13 rfl (h:=aZ 14 rfl (h:=aPT 15 rfl (h:=Zw kr kr ?_)))))))))
 refine Zm (Zb (t:=true) rfl (fun _=>Za (xA (h:=Ze (Zu (Zl (ZF (Zu (Zl ?_)))))))) (fun h=>Bool.noConfusion h))
 exact eR t1 ⟨Zc (Zgh hx g2),rfl,rfl⟩
 try simp only [sQ,ne_eq] at g2
 refine aM 7 rfl (h:=aM 8 rfl (h:=?_))
 obtain ⟨hq6,q6,cp6,hv6,hr6⟩:=ha.cutE 0 k om om
 have hr6n:=hr6.len
 refine aT 9 rfl (Z9 fun D=>ZnU (a:=0) (b:=k) hv6 om hq6 rfl rfl Tryz.underlying144 sz9 rfl rfl ⟨_,_,rfl,by first | omega | (simp;done) | (simp;omega)⟩ r4) (h:=?_)
 refine aM 10 rfl (h:=aM 11 rfl (h:=aIx 12 rfl Tryz.underlying144 sz9 (h:=aT 13 rfl (Z9 fun D=>Zn rfl rfl lk9 rfl (hc4 _ 0 _ rfl) r4) (h:=aT 14 rfl (Z9 fun D=>Zaa rfl rfl Zxc rfl (Zrr _ _ _ _ _ hr6) r4) (h:=aPF 15 rfl (h:=Zw kr kr ?_))))))
 refine Zm (Zb rfl (fun g3=>?_) (fun g3=>?_))
 try simp only [sQ,ne_eq] at g3
 refine Za (xA (h:=Ze (Zu (Zl (ZF (Zu (Zl ?_)))))))
 exact eR t1 ⟨Zc (Zgg hx (by simpa using g3)),rfl,rfl⟩
 try simp only [sQ,ne_eq] at g3
 refine ZL (ZI (Zm (Zf (xM (h:=xD (h:=xA (h:=?_)))))))
 exact Zy (k+1) [] so2 ⟨rfl,oz,Zht hx g2 hv,ZoI hx hn (by simpa using g3)⟩ t2 rfl
 try simp only [sQ,ne_eq] at g1
 refine ZA (ZP (ZC (Zs (Zm (Za (xM (h:=xV Tryz.underlying144 (h:=Zbs (h:=xA (h:=Ze ?_))))))))))
 exact eR t1 ⟨Zc (ZgY oz hv hn),rfl,rfl⟩

theorem Zjv (q:Option Addr) (cp:Nat) (x:DLetter) (B:Kn) (ha:SlK B q cp 1 Zdt x.to_) (h1:x.fr.length≤2000000) (h2:x.text.length≤2000000):Z0 (pj J) 135 [.agg #[str x.fr,.slice q x.to_.length cp,str x.text]] B (.bool (Zcv x)):=by
 refine cB 23 Tryz.func135 (h:=?_)
 refine Za (xBx [_,_,_] (h:=fun b1=>xA (h:=tL1 (Za (xW Zpo (h:=x1 lk9 0 (h:=xR Zlw rfl (ZbX _ om2 _) (h:=?_))))))))
 refine xM (h:=Zt (d:=6) rfl (fun g1=>?_) (fun g1=>?_))
 try simp only [sQ,ne_eq] at g1
 refine xW Zlt (h:=x1 ZfV 0 (h:=xR Zxy rfl (Zm6 _ _ _ _ ha) (h:=xT (h:=xM (h:=Zt (d:=11) rfl (fun g2=>?_) (fun g2=>?_))))))
 try simp only [sQ,ne_eq] at g2
 refine xW Zlt (h:=x1 ZfV 0 (h:=xV Tryz.underlying144 (h:=Zd4 (h:=xT (h:=xM (h:=Zt (d:=17) rfl (fun g3=>?_) (fun g3=>?_)))))))
 try simp only [sQ,ne_eq] at g3
 refine xW Zpn (h:=x1 lk9 0 (h:=xVs Tryz.underlying9 (h:=Zbs (h:=xT (h:=xA (h:=Ze ?_))))))
 exact eR t1 ⟨Zc (by rw [Bool.eq_iff_iff];simp [Zcv,g1,g2,g3];try omega),rfl,rfl⟩
 try simp only [sQ,ne_eq] at g3
 refine xP (h:=xP (h:=xP (h:=xP (h:=xF (h:=xA (h:=Ze ?_))))))
 exact eR t1 ⟨Zc (by rw [Bool.eq_iff_iff];simp [Zcv,g1,g2,g3];try omega),rfl,rfl⟩
 try simp only [sQ,ne_eq] at g2
 refine xP (h:=xP (h:=xP (h:=xP (h:=xF (h:=xM (h:=xP (h:=xP (h:=xP (h:=xP (h:=xF (h:=xA (h:=Ze ?_))))))))))))
 exact eR t1 ⟨Zc (by rw [Bool.eq_iff_iff];simp [Zcv,g1,g2];try omega),rfl,rfl⟩
 try simp only [sQ,ne_eq] at g1
 refine xP (h:=xP (h:=xP (h:=xF (h:=xM (h:=xP (h:=xP (h:=xP (h:=xP (h:=xF (h:=xM (h:=xP (h:=xP (h:=xP (h:=xP (h:=xF (h:=xA (h:=Ze ?_)))))))))))))))))
 exact eR t1 ⟨Zc (by rw [Bool.eq_iff_iff];simp [Zcv,g1];try omega),rfl,rfl⟩

theorem ZtE (q:Option Addr) (cp:Nat) (xs:List Str) (v:Str) (B:Kn) (ha:SlK B q cp 1 Zdt xs):Z0 (pj J) 284 [.slice q xs.length cp,str v] B (.int .i64 (ZwO xs v)):=by
 refine cB 19 Tryz.func284 (h:=?_)
 have han:=ha.len
 refine Za (xA (h:=Zd (Za (xM (h:=xV Tryz.underlying144 (h:=xM (h:=Zh (Zv (α:=Nat) [0,1,7] (fun k=>[(8,.int .i64 k)]) [] (fun k=>[]) (fun k Bx=>Bx=B∧k≤xs.length∧∀x,x∈xs.take k→decide (x=v)=false) (fun k=>xs.length - k) 0 t1 rfl (⟨rfl,Nat.zero_le _,by simp⟩) (fun k B1 hle1 hI=>?_)))))))))
 obtain ⟨rfl,hk,hn⟩:=hI
 refine Zz [(0,_),(1,_),(7,_),(8,_)] [] t4 rfl (Za (ZB (h:=Zd (Zb rfl (fun g1=>?_) (fun g1=>?_)))))
 try simp only [sQ,ne_eq] at g1
 refine wSk (Zd (Zh (Za (xM (h:=xA (h:=Za (xM (h:=xM (h:=xM (h:=?_))))))))))
 obtain ⟨x,hx⟩:=ZM (xs:=xs) (i:=k) om
 obtain ⟨bb3,oo3,rfl⟩:=ha.base hx
 obtain ⟨_,⟨rfl,hb4⟩,hc4⟩:=ha.elem hx
 refine xIx Tryz.underlying144 sz9 (h:=y1 lk9 hc4 0 (h:=Zdc (h:=Zb rfl (fun g2=>?_) (fun g2=>?_))))
 try simp only [sQ,ne_eq] at g2
 refine Za (xM (h:=xA (h:=Ze (Zu (Zl (ZF (Zu (Zl ?_))))))))
 exact eR t1 ⟨ZE (Zgz hx (by simp [g2]) hn).symm,rfl,rfl⟩
 try simp only [sQ,ne_eq] at g2
 refine ZL (ZI (Zm (Zf (xD (h:=xM (h:=?_))))))
 exact Zy (k+1) [] so2 ⟨rfl,oz,ZaJ hx hn (by simp [Ne.symm g2])⟩ t4 rfl
 try simp only [sQ,ne_eq] at g1
 refine ZA (ZP (ZC (Zs (Zm (Za (xA (h:=Ze ?_)))))))
 exact eR t1 ⟨ZE (Zee (ZaR oz hn)).symm,rfl,rfl⟩

theorem Zno (q:Option Addr) (cp:Nat) (xs:List Str) (v:Str) (B:Kn) (ha:SlK B q cp 1 Zdt xs):Z0 (pj J) 265 [.slice q xs.length cp,str v] B (.bool (decide (v∈xs))):=by
 refine cB 9 Tryz.func265 (h:=?_)
 refine Za (xA (h:=Za (xM (h:=xM (h:=xR Zw1 rfl (ZtE _ _ _ _ _ ha) (h:=ZdY (h:=xA (h:=Ze ?_))))))))
 exact eR t1 ⟨Zc (by rw [Bool.eq_iff_iff];simp [Zrw]),rfl,rfl⟩

theorem ZkX (q:Option Addr) (cp:Nat) (xs:List Str) (B:Kn) (ha:SlK B q cp 1 Zdt xs):Z0 (pj J) 220 [.slice q xs.length cp] B (.bool (decide (1≤xs.length) && ZcI xs)):=by
 refine cB 31 Tryz.func220 (h:=?_)
 have han:=ha.len
 refine Za (xA (h:=Zd (Za (xM (h:=xV Tryz.underlying144 (h:=ZB (h:=xM (h:=Zt (d:=8) rfl (fun g1=>?_) (fun g1=>?_)))))))))
 try simp only [sQ,ne_eq] at g1
 refine xP (h:=xP (h:=xP (h:=xT (h:=Zb (t:=true) rfl (fun _=>Za (xA (h:=Ze (Zl ?_)))) (fun h=>Bool.noConfusion h)))))
 exact eR t1 ⟨Zc (by simp;omega),rfl,rfl⟩
 try simp only [sQ,ne_eq] at g1
 refine xM (h:=xV Tryz.underlying144 (h:=Zd4 (h:=xF (h:=Zb rfl (fun g2=>?_) (fun g2=>?_)))))
 try simp only [sQ,ne_eq] at g2
 refine Za (xA (h:=Ze (Zl ?_)))
 exact eR t1 ⟨Zc (by simp [ZcI];omega),rfl,rfl⟩
 try simp only [sQ,ne_eq] at g2
 refine wSk (Zd (Za (xM (h:=xV Tryz.underlying144 (h:=xM (h:=Zh (Zv (α:=Nat) [0,12,13,14] (fun k=>[(15,.int .i64 k)]) [] (fun k=>[]) (fun k Bx=>Bx=B∧k≤xs.length∧(xs.take k).all Zag=true∧(xs.take k).Nodup) (fun k=>xs.length - k) 0 t1 rfl (⟨rfl,Nat.zero_le _,by simp,by simp⟩) (fun k B1 hle1 hI=>?_))))))))
 obtain ⟨rfl,hk,hv,hn⟩:=hI
 refine Zz [(0,_),(12,_),(13,_),(14,_),(15,_)] [] t5 rfl (Za (ZB (h:=Zd (Zb rfl (fun g3=>?_) (fun g3=>?_)))))
 try simp only [sQ,ne_eq] at g3
 refine wSk (Zd (Zh (Za (xM (h:=?_)))))
 obtain ⟨x,hx⟩:=ZM (xs:=xs) (i:=k) om
 obtain ⟨bb3,oo3,rfl⟩:=ha.base hx
 obtain ⟨_,⟨rfl,hb4⟩,hc4⟩:=ha.elem hx
 refine xIx Tryz.underlying144 sz9 (h:=y1 lk9 hc4 0 (h:=xA (h:=xA (h:=Za (xM (h:=xR Zke rfl (ZbB _ om2 _) (h:=?_)))))))
 refine xN (h:=xM (h:=Zt (d:=23) rfl (fun g4=>?_) (fun g4=>?_)))
 try simp only [sQ,ne_eq] at g4
 refine xP (h:=xP (h:=xP (h:=xP (h:=xP (h:=xT (h:=Zb (t:=true) rfl (fun _=>Za (xA (h:=Ze (Zu (Zl (ZF (Zu (Zl ?_)))))))) (fun h=>Bool.noConfusion h)))))))
 exact eR t1 ⟨Zc (by rw [← Zgh hx g4,Bool.and_false]),rfl,rfl⟩
 try simp only [sQ,ne_eq] at g4
 refine xM (h:=xM (h:=?_))
 obtain ⟨hq6,q6,cp6,hv6,hr6⟩:=ha.cutE 0 k om om
 have hr6n:=hr6.len
 refine Zk (ZnU (a:=0) (b:=k) hv6 om hq6 rfl rfl Tryz.underlying144 sz9 rfl rfl ⟨_,_,rfl,by first | omega | (simp;done) | (simp;omega)⟩ ?_)
 refine xM (h:=xR Zw5 rfl (Zno _ _ _ _ _ hr6) (h:=xF (h:=Zb rfl (fun g5=>?_) (fun g5=>?_))))
 try simp only [sQ,ne_eq] at g5
 refine Za (xA (h:=Ze (Zu (Zl (ZF (Zu (Zl ?_)))))))
 exact eR t1 ⟨Zc (by rw [← Zgg hx (by simpa using g5),Bool.and_false]),rfl,rfl⟩
 try simp only [sQ,ne_eq] at g5
 refine ZL (ZI (Zm (Zf (xD (h:=xM (h:=?_))))))
 exact Zy (k+1) [] so2 ⟨rfl,oz,Zht hx g4 hv,ZoI hx hn (by simpa using g5)⟩ t5 rfl
 try simp only [sQ,ne_eq] at g3
 refine ZA (ZP (ZC (Zs (Zm (Za (xA (h:=Ze ?_)))))))
 exact eR t1 ⟨Zc (by rw [← ZgY oz hv hn];simp;omega),rfl,rfl⟩

theorem Zj2 (q:Option Addr) (cp:Nat) (x:DLetter) (B:Kn) (ha:SlK B q cp 1 Zdt x.to_) (h1:x.fr.length≤2000000) (h2:x.text.length≤2000000):Z0 (pj J) 177 [.agg #[str x.fr,.slice q x.to_.length cp,str x.text]] B (.bool (Zcv x)):=by
 refine cB 17 Tryz.func177 (h:=?_)
 refine Za (xBx [_,_,_] (h:=fun b1=>xA (h:=tL1 (Za (xW Zpo (h:=x1 lk9 0 (h:=xR Zke rfl (ZbB _ om2 _) (h:=?_))))))))
 refine xM (h:=Zt (d:=6) rfl (fun g1=>?_) (fun g1=>?_))
 refine xW Zlt (h:=x1 ZfV 0 (h:=xR Zxi rfl (ZkX _ _ _ _ ha) (h:=xT (h:=xM (h:=Zt (d:=11) rfl (fun g2=>?_) (fun g2=>?_))))))
 refine xW Zpn (h:=x1 lk9 0 (h:=xVs Tryz.underlying9 (h:=Zbs (h:=xT (h:=xA (h:=Ze ?_))))))
 exact eR t1 ⟨Zc (by rw [Zeb];simp [g1,g2]),rfl,rfl⟩
 refine xP (h:=xP (h:=xP (h:=xP (h:=xF (h:=xA (h:=Ze ?_))))))
 exact eR t1 ⟨Zc (by rw [Zeb];simp [g1,g2]),rfl,rfl⟩
 refine xP (h:=xP (h:=xP (h:=xF (h:=xM (h:=xP (h:=xP (h:=xP (h:=xP (h:=xF (h:=xA (h:=Ze ?_)))))))))))
 exact eR t1 ⟨Zc (by rw [Zeb];simp [g1]),rfl,rfl⟩

theorem ZkT (aq:Option Addr) (cq:Nat) (q:DQueue) (B:Kn) (hq:SlK B aq cq 4 ZaA q.items):Z0 (pj J) 81 [.agg #[.int .i64 q.next,.slice aq q.items.length cq]] B (.bool (ZaU q)):=by
 refine cB 48 Tryz.func81 (h:=?_)
 have hqn:=hq.len
 refine Za (xBx [_,_] (h:=fun b1=>xA (h:=tL1 (Za (xA (h:=Zd (Za (xA (h:=Zh (Zv (α:=Nat × Int) [0,1] (fun p=>[(3,.int .i64 p.2),(4,.int .i64 p.1)]) [] (fun p=>[]) (fun p Bx=>Bx=B∧p.1≤q.items.length∧Zdf 0 q.items=Zdf p.2 (q.items.drop p.1)∧0≤p.2∧p.2≤99) (fun p=>q.items.length - p.1) (0,0) t2 rfl (⟨rfl,Nat.zero_le _,rfl,by decide,by decide⟩) (fun p B2 hle2 hI=>?_)))))))))))
 obtain ⟨rfl,hk,hs,hl0,hl1⟩:=hI
 refine Zz [(0,_),(1,_),(3,_),(4,_)] [_] t4 rfl (Zd (Za (xM (h:=xW Zcq (h:=x1 Zkx 0 (h:=xV Tryz.underlying40 (h:=ZB (h:=Zb rfl (fun g1=>?_) (fun g1=>?_)))))))))
 try simp only [sQ,ne_eq] at g1
 refine wSk (Zd (Zh (Za (xW Zcq (h:=x1 Zkx 0 (h:=xM (h:=?_)))))))
 obtain ⟨x,hx⟩:=ZM (xs:=q.items) (i:=p.1) om
 obtain ⟨bb4,oo4,rfl⟩:=hq.base hx
 obtain ⟨_,⟨qi5,ci5,rfl,hi5,hb5,hb5b⟩,hc5⟩:=hq.elem hx
 have hi5n:=hi5.len
 refine xIx Tryz.underlying40 Zcc (h:=?_)
 replace hs:=Zos hs hx
 refine yL [_,_,_,_] Ze4 hc5 0 (h:=xAl [_,_,_,_] ZfF (h:=fun b6=>xS [_,_,_,_] 1 [_,_,_,_] Zcc (h:=tL2 (Zd (Za (xW Zej (h:=x1 lk3 1 (h:=xM (h:=xD (h:=xR Zky rfl (Zcp _ _ _ _) (h:=xN (h:=xM (h:=Zt (d:=24) rfl (fun g2=>?_) (fun g2=>?_))))))))))))))
 try simp only [sQ,ne_eq] at g2
 refine xP (h:=xP (h:=xP (h:=xP (h:=xP (h:=xP (h:=xP (h:=xP (h:=xP (h:=xT (h:=Zb (t:=true) rfl (fun _=>Za (xA (h:=Ze (Zl (Zu (Zl (ZF (Zu (Zl ?_))))))))) (fun h=>Bool.noConfusion h)))))))))))
 exact eR t1 ⟨Zc (Zl5 (by rw [hs,if_neg];intro h;simp [h.1] at g2)),rfl,rfl⟩
 try simp only [sQ,ne_eq] at g2
 simp only [Bool.and_eq_true,decide_eq_true_eq] at g2
 refine xW Zei (h:=x1 lk9 1 (h:=xW Zda (h:=x1 ZfV 1 (h:=xW Zf1 (h:=x1 lk9 1 (h:=xB [(0,_),(1,_),(2,_)] [_,_,_] [_,_,_] Zu1 Zul (h:=xR Zx9 rfl (Zjv _ _ ⟨x.fr,x.left,x.text⟩ _ hi5 oa oa) (h:=?_))))))))
 refine xN (h:=xF (h:=Zb rfl (fun g3=>?_) (fun g3=>?_)))
 try simp only [sQ,ne_eq] at g3
 refine Za (xA (h:=Ze (Zl (Zu (Zl (ZF (Zu (Zl ?_))))))))
 exact eR t1 ⟨Zc (Zl5 (by rw [hs,if_neg];intro h;rw [Zfv,g3] at h;cases h.2)),rfl,rfl⟩
 try simp only [sQ,ne_eq] at g3
 refine wSk (Zf (xW Zej (h:=x1 lk3 1 (h:=xA (h:=ZI (Zm (Zf (xM (h:=xD (h:=xA (h:=?_)))))))))))
 exact Zy (p.1+1,x.id) [0] so2 ⟨rfl,so,by rw [hs,if_pos ⟨g2,g3⟩],so,so⟩ t4 rfl
 try simp only [sQ,ne_eq] at g1
 rw [ZpW oz,Zdf] at hs
 refine ZA (ZP (ZC (Zs (Zm (Za (xW Zgr (h:=x1 lk3 0 (h:=xM (h:=xD (h:=xR Zky rfl (Zcp _ _ _ _) (h:=xM (h:=Zt (d:=42) rfl (fun g1=>?_) (fun g1=>?_)))))))))))))
 try simp only [sQ,ne_eq] at g1
 refine xW Zcq (h:=x1 Zkx 0 (h:=xV Tryz.underlying40 (h:=Zbs (h:=xT (h:=xA (h:=Ze ?_))))))
 exact eR t1 ⟨Zc (by rw [← Zl4 hs,Bool.eq_iff_iff];simp [g1,g1];try omega),rfl,rfl⟩
 try simp only [sQ,ne_eq] at g1
 refine xP (h:=xP (h:=xP (h:=xP (h:=xF (h:=xA (h:=Ze ?_))))))
 exact eR t1 ⟨Zc (by rw [← Zl4 hs,Bool.eq_iff_iff];simp [g1,g1];try omega),rfl,rfl⟩

theorem Zll (q:Option Addr) (cp:Nat) (x:DItem) (B:Kn) (hx:SlK B q cp 1 Zdt x.left):Zx (pj J) 247 [.agg #[.int .i64 x.id,str x.fr,str x.text,.slice q x.left.length cp]] B [] (fun v B' Ls=>B'=B∧∃ins a c,Ls=[ins]∧v = .agg #[.int .i64 x.id,str x.fr,str x.text,.slice a x.left.length c]∧Zqi 9 ins a c x.left):=by
 refine cB 9 Tryz.func247 (h:=?_)
 have hxn:=hx.len
 refine Za (xBx [_,_,_,_] (h:=fun b1=>xAl [_,_,_,_] ZfF (h:=fun b2=>tL2 (Za (xBs [] [] Tryz.underlying144 sz9 zo9 (h:=fun b3=>xW Zda (h:=x1 ZfV 0 (h:=Zk (ZlQ (R:=Zdt) 2 rfl (ZU.lit0 (R:=Zdt)) rfl rfl rfl ZrS Ztb rfl rfl rfl hx.rows Zdt.one rfl om (fun l4 p4 c4 hv4=>?_))))))))))
 refine xW Zda (h:=xS [_] 0 [_,_,_,_] ZuV (h:=tL3 (Za (xL [_,_,_,_] Ze4 0 (h:=xS [_,_,_,_] 1 [_,_,_,_] Zcc (h:=tL3 (Ze ?_)))))))
 exact eN [2] rfl ⟨⟨_,rfl,.inr ⟨[_,_,_,_],Ze4,Zct 1 rfl rfl rfl,rfl⟩⟩,trivial⟩ ⟨rfl,_,_,_,rfl,rfl,(hv4).anyK Zdt.any⟩

theorem Znt (q:Option Addr) (m cp:Nat) (B:Kn):Zx (pj J) 246 [.slice q m cp] B [] (fun v B' Ls=>B'=B∧∃b,Ls=[ZN b [.slice q m cp] 40]∧v = .func (.func 274) #[] #[ptr ⟨b,0,none⟩]):=by
 refine cB 4 Tryz.func246 (h:=?_)
 refine Za (xBx [_] (h:=fun b1=>xA (h:=tL1 (Za (Zk (Zcz (xs:=[]) (ys:=[_]) rfl rfl rfl rfl (xA (h:=Ze ?_))))))))
 exact eN [0] rfl t1 ⟨rfl,_,rfl,rfl⟩

theorem Zua (l bc:Nat) (q:Option Addr) (cp:Nat) (xs:List DItem) (Inv:Nat→Kn→Cells→Prop) (s0:Cells) (B:Kn) (hq:SlK B q cp 4 ZaA xs) (hcc:Zai B bc 0 [.slice q xs.length cp]) (h0:Inv xs.length B s0) (hround :∀(j:Nat) (i:Int) (x:DItem) (row:List Value) (B':Kn) (s:Cells),B.le B'→Inv (j+1) B' s→xs[j]? = some x→ZaA B' row x→∃lp,(l,Obj.loop lp)∈s∧lp.params.size=2∧Zqk (pj J) l lp.fn (Zkq lp.params lp.tmps [.int .i64 i,.agg row.toArray]) lp.assign lp.body B' s (fun B'' s'=>Inv j B'' s')):Zx (pj J) 274 [.func (.yield l) #[] #[],ptr ⟨bc,0,none⟩] B [s0] (fun v B' Ls=>∃s,Ls=[s]∧Inv 0 B' s):=by
 refine cB 19 Tryz.func274 (h:=?_)
 have hqn:=hq.len
 refine Za (Zk (Zn rfl rfl Zkx rfl (hcc _ 0 _ rfl) (xV Tryz.underlying40 (h:=xU (h:=xA (h:=Zh (Zv (α:=Int × Cells) [0,1] (fun g=>[(3,.int .i64 g.1)]) [0] (fun g=>[g.2]) (fun g Bx=>-1≤g.1∧g.1<xs.length∧Inv (g.1+1).toNat Bx g.2) (fun g=>(g.1+1).toNat) ((xs.length:Int) - 1,s0) t1 rfl (⟨so,so,by rw [show ((xs.length:Int) - 1+1).toNat=xs.length from by omega];exact h0⟩) (fun g B1 hle1 hI=>?_))))))))
 obtain ⟨hk1,hk,hI⟩:=hI
 replace hq:=up1 hle1 hq
 replace hcc:=hcc.mono hle1
 refine Zz [(0,_),(1,_),(3,_)] [_] t3 rfl (Zd (Za (xM (h:=ZdY (h:=Zb rfl (fun g1=>?_) (fun g1=>?_))))))
 try simp only [sQ,ne_eq] at g1
 refine wSk (Zd (Zh (Za (xM (h:=xM (h:=Zk (Zn rfl rfl Zkx rfl (hcc _ 0 _ rfl) (xM (h:=?_)))))))))
 obtain ⟨x,hx⟩:=ZsF (xs:=xs) (i:=g.1) om om
 obtain ⟨bb3,oo3,rfl⟩:=hq.base hx
 obtain ⟨_,⟨qi4,ci4,rfl,hi4,hb4,hb4b⟩,hc4⟩:=hq.elem hx
 have hi4n:=hi4.len
 refine xIx Tryz.underlying40 Zcc (h:=?_)
 obtain ⟨lp,hl,hs,hr⟩:=hround g.1.toNat g.1 x _ _ g.2 (oy) (by rw [show g.1.toNat+1=(g.1+1).toNat from by omega];exact hI) hx ⟨_,_,rfl,oy,oy,oy⟩
 refine yL [_,_,_,_] Ze4 hc4 0 (h:=Zk (ZsZ (j:=0) rfl hl rfl rfl rfl rfl hs.symm hr (fun Bc sc hlec hIc=>xN (h:=tL1 (Zb rfl (fun g2=>by cases g2) (fun g2=>?_))))))
 try simp only [sQ,ne_eq] at g2
 refine ZL (ZI (Zm (Zf (xM (h:=xU (h:=xA (h:=?_)))))))
 exact Zy (g.1 - 1,sc) [0] so2 ⟨so,so,by simp only [];rw [show (g.1 - 1+1).toNat=g.1.toNat from by omega];exact hIc⟩ t3 rfl
 try simp only [sQ,ne_eq] at g1
 refine ZA (ZP (ZC (Zs ?_)))
 exact ZeG .normal (.inr rfl) [] [0] rfl trivial ⟨_,rfl,by rw [show (g.1+1).toNat=0 from by omega] at hI;exact hI⟩

theorem Zk0 (q:Option Addr) (cp:Nat) (x:DQueue) (B:Kn) (hx:SlK B q cp 4 ZaA x.items):Zx (pj J) 198 [.agg #[.int .i64 x.next,.slice q x.items.length cp]] B [] (fun v B' Ls=>∃s,Ls=[s]∧Zf7 9 332 v x.items s):=by
 refine Zkn 17 Tryz.func198 rfl rfl rfl (Nat.le_of_ble_eq_true rfl) ?_
 refine Zd7 (xBx [_,_] (h:=fun b1=>xA (h:=Zoa [(0,_),(1,_),(2,_)] [_] t3 rfl (Zd7 (xAl [_] Zwe (h:=fun b2=>Zoa [(0,_),(1,_),(2,_),(3,_)] [_,_] t4 rfl (ZuM (Zd7 (xW Zcq (h:=x1 Zkx 0 (h:=xC Zxa rfl (Znt _ _ _ _) (h:=?_))))))))))))
 rintro _ B3 _ hle3 ⟨rfl,b3,rfl,rfl⟩
 refine Zoa [(0,_),(1,_),(2,_),(3,_),(8,_)] [_,_,_] t5 rfl (Zs8 (Zww 2 rfl (fun B4 hle4 hm4=>?_)))
 replace hx:=up1 hle4 hx
 have hcc:=Za4 hm4
 refine Zwv [1] rfl (ZqQ (J:=fun B' L'=>∃v s,L'=[ZN b2 [v] 275,s]∧Zf7 9 332 v x.items s) (cap:=[_]) rfl Zw2 (fun lp l hTn hTS hps hasg hbd hst hlp=>?_) (fun r B9 L9 hle9 hJ=>?_))
 refine Zx.mono (Zua l _ _ _ x.items (fun j B9 s9=>∃v cells,s9.Perm ((l,Obj.loop lp) :: (ZN b2 [v] 275 ++ cells))∧Zf7 9 332 v (x.items.drop j) cells) _ _ hx hcc ⟨.pointer none,[],by simp,by rw [List.drop_length];exact ⟨rfl,rfl⟩⟩ ?_) ?_
 rintro j i y row B9 s9 hle9 ⟨v,cells,hp,hl⟩ hy hrow
 obtain ⟨qy,cy,rfl,hy5,hy6,hy7⟩:=hrow
 have hy5n:=hy5.len
 obtain ⟨p9,rfl⟩:=hl.ptr
 obtain ⟨hA,hN⟩:=Zsa (a:=9) (b:=10) (x:=.int .i64 i) (y:=.agg #[.int .i64 y.id,str y.fr,str y.text,.slice qy y.left.length cy]) hTS hTn rfl rfl
 refine ⟨lp,hp.mem_iff.2 (List.mem_cons_self ..),by rw [hps];rfl,?_⟩
 rw [hps,hasg,hbd]
 refine Zou (L:=[ZN b2 [.pointer p9] 275,cells]) (lp:=lp) hN [(3,_),(9,_),(10,_)] (hA.sub t3) (by simpa using hp) hst ?_
 refine Zf (xAl [_,_,_,_] ZfF (h:=fun b4=>xS [_,_,_,_] 3 [_,_,_,_] Zcc (h:=⟨rfl,rfl,rfl,(tL4 (Zh (ZY (keeps _ [1,3] _) mo kr ⟨Kn.le.refl _,Za3.refl _ _⟩ (fun _ _=>?_))))⟩)))
 refine aT 0 rfl (ZW fun D B L hI=>ZR [_,_,_,_] rfl rfl Ze4 rfl (Zct 3 (hI.2.2.1.trans rfl) rfl rfl) r4) (h:=aT 2 rfl (ZW fun D B L hI=>Zn rfl rfl Ztw rfl (atL 1 (hI.2.1.trans rfl) rfl rfl) r4) (h:=ZV 1 kr rfl kr (Zck rfl rfl Zw9 rfl (Zll _ _ y _ hy5) ?_)))
 rintro _ B5 _ hle5 ⟨rfl,ins5,a5,c5,rfl,rfl,hs5⟩
 refine ⟨⟨Kn.le.refl _,t2⟩,(aT 3 rfl (ZW fun D B L hI=>ZcE (parts:=[(0,_),(1,_)]) [_,_,_,_,_] [_,_,_,_,_] rfl rfl ZwB Zwa rfl rfl rfl r4) (h:=ZV 4 kr rfl kr (ZnX (l:=[_,_,_,_,_]) rfl rfl rfl rfl (fun b6=>?_))))⟩
 refine ⟨⟨Kn.le.refl _,t2⟩,(ZcQ 5 kr rfl kr kr kr (ZaC [_] 1 [_] rfl rfl Zwx rfl rfl rfl rfl rfl rfl rfl rfl ?_))⟩
 refine ZI (⟨rfl,rfl,(l,Obj.loop lp) :: (ZN b2 [ptr ⟨b6,0,none⟩] 275 ++ (ZN b6 ([.int .i64 y.id,str y.fr,str y.text,.slice a5 y.left.length c5] ++ [.pointer p9]) 332 ++ (ins5 ++ cells))),ZN b4 [.int .i64 y.id,str y.fr,str y.text,.slice qy y.left.length cy] 146,?_,_,_,.refl _,?_⟩)
 refine (Zaf [0,1,5,4,2] _ _ _ rfl).trans ?_
 rw [hlp]
 simp [ZN]
 rw [ZpV hy]
 exact ⟨_,_,_,_,_,rfl,.refl _,⟨_,_,rfl,hs5,oy,oy,oy⟩,hl⟩
 rintro _ B9 _ hle9 ⟨s9,rfl,v,cells,hp,hl⟩
 exact ⟨[ZN b2 [v] 275,cells],_,rfl,by simpa using hp,v,cells,rfl,by simpa using hl⟩
 obtain ⟨v,s9,rfl,hl⟩:=hJ
 refine ZI (Zm (Za (x1 Ztw 0 (h:=xA (h:=tL3 (Ze ?_))))))
 exact ⟨.inl rfl,r,2,rfl,rfl,[_],[_],t1,⟨_,List.perm_append_comm⟩,_,rfl,hl⟩

theorem Zoz (nx:Int) (v:Value) (xs:List DItem) (cells:Cells) (B:Kn) (hn:xs.length≤2000000) (hv:Zf7 9 332 v xs cells):Zx (pj J) 197 [.int .i64 nx,v] B [cells] (fun v B' Ls=>B'=B∧∃l q c,Ls=[l]∧v = .agg #[.int .i64 nx,.slice q xs.length c]∧ZaM l q c 146 4 (Za8 9) xs):=by
 refine cB 27 Tryz.func197 (h:=?_)
 obtain ⟨p,rfl⟩:=hv.ptr
 refine Za (xAl [_,_] Zui (h:=fun b1=>tL2 (Za (xM (h:=xBs [] [] Tryz.underlying40 Zcc ZfF (h:=fun b2=>xB [(0,_),(1,_)] [_,_] [_,_] Zzf Zui (h:=xAl [_,_] Zui (h:=fun b3=>xS [_,_] 3 [_,_] ZuO (h:=tL4 (Zd (Za (xM (h:=xA (h:=Zh (Zv (α:=QOf) [0,1,4,5] (fun g=>[(6,.pointer g.p)]) [0,2,3] (fun g=>[g.cells,g.l,ZN b3 [.int .i64 nx,.slice g.q g.ys.length g.c] 42]) (fun g Bx=>Bx=B∧g.ys ++ g.xs=xs∧ZaM g.l g.q g.c 146 4 (Za8 9) g.ys∧Zf7 9 332 (.pointer g.p) g.xs g.cells) (fun g=>g.xs.length) ⟨p,[],xs,_,_,_,_⟩ t1 rfl (⟨rfl,rfl,.lit0,hv⟩) (fun g B4 hle4 hI=>?_))))))))))))))))
 obtain ⟨rfl,hxs,hvd,hl⟩:=hI
 refine Zz [(0,_),(1,_),(4,_),(5,_),(6,_)] [_,_,_,_] t5 rfl (Zd (Za (xM (h:=Zk (Zus rfl rfl rfl rfl rfl (ZrN Tryz.underlying275) (Zb rfl (fun g1=>?_) (fun g1=>?_)))))))
 obtain ⟨y,ys,b8,q8,c8,np,ins8,rest8,hp8,hrest,hperm,hy5,hy6,hy7,hy8,hl8⟩:=hl.more (by simpa using g1)
 rw [hp8]
 have hlen:=congrArg List.length hxs
 rw [List.length_append,hrest,List.length_cons] at hlen
 replace hlen:g.ys.length+1≤2000000:=by omega
 refine ZgK 0 rfl hperm (tL6 (wSk (Zd (Zh (ZY (keeps _ [0,3] _) mo kr ⟨Kn.le.refl _,Za3.refl _ _⟩ (fun _ _=>?_))))))
 refine aW 0 rfl Zcq (h:=aT 1 rfl (ZW fun D B L hI=>Zn rfl rfl Zkx rfl (atL 3 (hI.2.2.1.trans rfl) rfl rfl) r4) (h:=aM 2 rfl (h:=aNc 3 rfl (h:=aW 4 rfl ZtL (h:=aT 5 rfl (ZW fun D B L hI=>ZR [_,_,_,_] rfl rfl Ze4 rfl (Zct 0 (hI.2.1.trans rfl) rfl rfl) r4) (h:=ZV 6 kr rfl kr (Zbx (parts:=[(0,_)]) [_,_,_,_] rfl rfl Tryz.underlying40 Zcc ZfF rfl rfl rfl rfl rfl (fun b5=>?_))))))))
 refine ⟨⟨Kn.le.refl _,t2⟩,(ZV 7 kr rfl kr (ZuG (R:=Za8 9) (z:=y) 2 4 rfl rfl rfl hvd rfl rfl rfl ZyH Zy9 rfl rfl (Zcy.box 6 rfl) rfl rfl ⟨_,_,rfl,hy5,hy6,hy7,hy8⟩ oz (fun l9 q9 c9 hv9=>?_)))⟩
 refine ⟨⟨Kn.le.refl _,t2⟩,(aW 8 rfl Zcq (h:=ZcQ 9 kr rfl kr kr kr (ZaC [_] 3 [_,_] rfl rfl Zyt rfl rfl rfl rfl rfl rfl rfl rfl ?_)))⟩
 refine ZI (Zm (Zf (xM (h:=xNc (h:=xW ZtK (h:=x1 Ztw 0 (h:=xA (h:=?_))))))))
 exact Zy ⟨np,g.ys ++ [y],ys,l9,q9,c9,rest8⟩ [5,1,2,3] (by rw [hrest];simp) ⟨rfl,by rw [← hxs,hrest];simp,hv9,hl8⟩ t5 rfl
 rw [hl.done (by simpa using g1),List.append_nil] at hxs
 subst hxs
 refine ZA (ZP (ZC (Zs (Zm (Za (xL [_,_] ZnC 3 (h:=xS [_,_] 1 [_,_] ZuO (h:=tL4 (Ze ?_)))))))))
 exact eN [2] rfl ⟨⟨_,rfl,.inr ⟨[_,_],ZnC,Zct 1 rfl rfl rfl,rfl⟩⟩,trivial⟩ ⟨rfl,_,_,_,rfl,rfl,hvd⟩

theorem ZjC (q:Option Addr) (cp:Nat) (x:DQueue) (B:Kn) (hx:SlK B q cp 4 ZaA x.items):Zx (pj J) 144 [.agg #[.int .i64 x.next,.slice q x.items.length cp]] B [] (fun v B' Ls=>∃l q c,Ls=[l]∧v = .agg #[.int .i64 x.next,.slice q x.items.length c]∧ZaM l q c 146 4 (Za8 9) x.items):=by
 refine cB 8 Tryz.func144 (h:=?_)
 have hxn:=hx.len
 refine Za (xBx [_,_] (h:=fun b1=>xAl [_,_] Zui (h:=fun b2=>tL2 (Zd (ZY (keeps _ [0] _) mo kr ⟨Kn.le.refl _,Za3.refl _ _⟩ (fun _ _=>?_))))))
 refine aW 0 rfl Zgr (h:=aT 1 rfl (ZW fun D B L hI=>Zn rfl rfl lk3 rfl (atL 0 (hI.2.1.trans rfl) rfl rfl) r4) (h:=aT 2 rfl (ZW fun D B L hI=>ZR [_,_] rfl rfl ZnC rfl (Zct 0 (hI.2.1.trans rfl) rfl rfl) r4) (h:=ZV 3 kr rfl kr (Zck rfl rfl Zxs rfl (Zk0 _ _ x _ hx) ?_))))
 rintro _ B3 _ hle3 ⟨sl3,rfl,hl3⟩
 refine ⟨⟨hle3,t1⟩,(ZV 4 kr rfl kr (ZbG [2] rfl rfl rfl rfl Zxt rfl (Zoz _ _ _ _ _ oa hl3) ?_))⟩
 rintro _ B4 _ hle4 ⟨rfl,ld4,ad4,cd4,rfl,rfl,hd4⟩
 refine ⟨⟨hle3,t1⟩,(ZcQ 5 kr rfl kr kr kr (ZaC [_,_] 1 [_,_] rfl rfl ZuO rfl rfl rfl rfl rfl rfl rfl rfl ?_))⟩
 refine Zm (tL3 (Ze ?_))
 exact eN [2] rfl ⟨⟨_,rfl,.inr ⟨[_,_],ZnC,Zct 1 rfl rfl rfl,rfl⟩⟩,trivial⟩ ⟨_,_,_,rfl,rfl,hd4⟩

theorem Zo9 (q:Option Addr) (m cp:Nat) (B:Kn):Z0 (pj J) 305 [.slice q m cp] B (.int .i64 m):=by
 refine cB 5 Tryz.func305 (h:=?_)
 refine Za (xA (h:=Za (xM (h:=xV Tryz.underlying296 (h:=xA (h:=Ze ?_))))))
 exact eR t1 ⟨rfl,rfl,rfl⟩

theorem Zfx (q:Option Addr) (cp:Nat) (xs:List Int) (i j:Nat) (a b:Int) (hi:xs[i]? = some a) (hj:xs[j]? = some b) (B:Kn) (hx:SlK B q cp 1 Zb7 xs):Z0 (pj J) 306 [.slice q xs.length cp,.int .i64 i,.int .i64 j] B (.bool (decide (a<b))):=by
 refine cB 16 Tryz.func306 (h:=?_)
 have hil:=Zbm hi
 have hjl:=Zbm hj
 refine Za (xA (h:=Zd (ZY (same _ _) mo kr ⟨rfl,rfl⟩ (fun _ _=>?_))))
 refine aM 0 rfl (h:=aM 1 rfl (h:=?_))
 obtain ⟨z,hz⟩:=ZM (xs:=xs) (i:=i) om
 obtain ⟨bb2,oo2,rfl⟩:=hx.base hz
 obtain ⟨_,rfl,hc3⟩:=hx.elem hz
 refine aIx 2 rfl Tryz.underlying57 sz3 (h:=aT 3 rfl (Z9 fun D=>Zn rfl rfl lk3 rfl (hc3 _ 0 _ rfl) r4) (h:=aM 4 rfl (h:=aM 5 rfl (h:=?_))))
 obtain ⟨w,hw⟩:=ZM (xs:=xs) (i:=j) om
 obtain ⟨_,rfl,hc5⟩:=hx.elem hw
 refine aIx 6 rfl Tryz.underlying57 sz3 (h:=?_)
 rw [hi] at hz
 cases hz
 rw [hj] at hw
 cases hw
 refine aT 7 rfl (Z9 fun D=>Zn rfl rfl lk3 rfl (hc5 _ 0 _ rfl) r4) (h:=Zse 8 rfl (h:=aA 9 rfl (h:=Zw kr kr ?_)))
 refine Zm (Ze ?_)
 exact eR t1 ⟨rfl,rfl,rfl⟩

theorem Zry (b:Nat) (q:Option Addr) (cp:Nat) (xs:List Int) (l:Cells) (z:Int) (hn:xs.length≤2000000) (B:Kn) (hv:ZU B l q cp 3 1 Zb7 xs):Zx (pj J) 308 [ptr ⟨b,0,none⟩,.iface 3 (.int .i64 z)] B [ZN b [.slice q xs.length cp] 296,l] (fun v B' Ls=>B'=B∧∃q' c' l',Ls=[ZN b [.slice q' (xs ++ [z]).length c'] 296,l']∧ZU B l' q' c' 3 1 Zb7 (xs ++ [z])):=by
 refine cB 13 Tryz.func308 (h:=?_)
 refine ZY (keeps _ [0] _) mo kr ⟨Kn.le.refl _,Za3.refl _ _⟩ (fun _ _=>?_)
 refine aM 0 rfl (h:=aM 1 rfl (h:=aNc 2 rfl (h:=aT 3 rfl (ZW fun D B L hI=>Zn rfl rfl ZeE rfl (atL 0 (hI.2.1.trans rfl) rfl rfl) r4) (h:=aM 4 rfl (h:=aT 5 rfl (ZW fun D B L hI=>Zjg rfl rfl Tryz.underlying3 rfl rfl r4) (h:=ZV 6 kr rfl kr (Zbx (parts:=[(0,_)]) [_] rfl rfl Tryz.underlying57 sz3 zo3 rfl rfl rfl rfl rfl (fun b1=>?_))))))))
 refine ⟨⟨Kn.le.refl _,t1⟩,(ZV 7 kr rfl kr (Zjh (z:=z) (R:=Zb7) 1 rfl hv rfl rfl rfl ZwS Zwz rfl rfl (Zcy.box 2 rfl) rfl rfl (rfl) om (fun l2 p2 c2 hv2=>?_)))⟩
 refine ⟨⟨Kn.le.refl _,t1⟩,(aNc 8 rfl (h:=ZcQ 9 kr rfl kr kr kr (ZaC [_] 0 [_] rfl rfl ZuR rfl rfl rfl rfl rfl rfl rfl rfl ?_)))⟩
 exact ZeG .normal (.inr rfl) [] [0,1] rfl trivial ⟨rfl,_,_,_,rfl,hv2⟩

theorem ZtF (b:Nat) (q:Option Addr) (cp:Nat) (xs:List Int) (l:Cells) (z:Int) (hz:xs[xs.length - 1]? = some z) (hn:xs.length≤2000000) (B:Kn) (hv:ZU B l q cp 3 1 Zb7 xs):Zx (pj J) 307 [ptr ⟨b,0,none⟩] B [ZN b [.slice q xs.length cp] 296,l] (fun v B' Ls=>B'=B∧v = .iface 3 (.int .i64 z)∧Ls=[ZN b [.slice q (xs.length - 1) cp] 296,l]∧ZU B l q cp 3 1 Zb7 (xs.take (xs.length - 1))):=by
 refine cB 25 Tryz.func307 (h:=?_)
 have hl1:=Zbm hz
 have hcp:=hv.cap
 have hv9:=hv.take (k:=xs.length - 1) oz
 have hs0:=hv.slice0 (sz:=1)
 refine Za (xA (h:=Za (xM (h:=xNc (h:=x1 ZeE 0 (h:=xV Tryz.underlying296 (h:=Zk (Zii (r:=((xs.length - 1:Nat):Int)) rfl rfl rfl rfl (by rw [show ((xs.length:Int) - 1)=((xs.length - 1:Nat):Int) from by omega];exact ZbP oz oz) ?_))))))))
 refine xA (h:=Za (xM (h:=xNc (h:=x1 ZeE 0 (h:=xM (h:=?_))))))
 obtain ⟨w,hw⟩:=ZM (xs:=xs) (i:=(xs.length - 1)) om
 obtain ⟨bb2,_,hp2,rfl,hw2,hc2⟩:=hv.row hw
 refine xIp hp2 Tryz.underlying57 sz3 (h:=?_)
 rw [hz] at hw
 cases hw
 refine Zk (Zn rfl rfl lk3 rfl (hc2 _ 1 rfl 0 _ rfl) (xA (h:=Za (xM (h:=xM (h:=xNc (h:=x1 ZeE 0 (h:=xM (h:=Zk (ZlL rfl rfl Tryz.underlying57 sz3 rfl (a:=0) (b:=xs.length - 1) rfl ⟨_,_,rfl,rfl⟩ oz oz ?_))))))))))
 rw [hs0]
 refine xNc (h:=xS [_] 0 [_] ZuR (h:=tL2 (Za (xM (h:=Zk (Zdu rfl rfl Tryz.underlying3 rfl rfl (xA (h:=Ze ?_))))))))
 exact eN [0,1] rfl t1 ⟨rfl,rfl,rfl,hv9⟩

theorem Zfw (q:Option Addr) (cp:Nat) (xs:List Int) (l:Cells) (i j:Nat) (a b:Int) (hi:xs[i]? = some a) (hj:xs[j]? = some b) (hn:xs.length≤2000000) (B:Kn) (hv:ZU B l q cp 3 1 Zb7 xs):Zx (pj J) 309 [.slice q xs.length cp,.int .i64 i,.int .i64 j] B [l] (fun v B' Ls=>B'=B∧∃l',Ls=[l']∧ZU B l' q cp 3 1 Zb7 ((xs.set i b).set j a)):=by
 refine cB 20 Tryz.func309 (h:=?_)
 have hil:=Zbm hi
 have hjl:=Zbm hj
 refine ZY (keeps _ [0] _) mo kr ⟨Kn.le.refl _,Za3.refl _ _⟩ (fun _ _=>?_)
 refine aM 0 rfl (h:=aM 1 rfl (h:=aM 2 rfl (h:=aM 3 rfl (h:=aM 4 rfl (h:=aM 5 rfl (h:=?_))))))
 obtain ⟨y,hy⟩:=ZM (xs:=xs) (i:=j) om
 obtain ⟨bb2,_,hp2,rfl,hw2,hc2⟩:=hv.row hy
 refine aT 6 rfl (ZW fun D B L hI=>ZkC hp2 rfl rfl Tryz.underlying57 sz3 rfl rfl om om r4) (h:=?_)
 refine aT 7 rfl (ZW fun D B L hI=>Zn rfl rfl lk3 rfl (hc2 _ 0 (hI.2.1.trans rfl) 0 _ rfl) r4) (h:=aM 8 rfl (h:=aM 9 rfl (h:=?_)))
 obtain ⟨x,hx⟩:=ZM (xs:=xs) (i:=i) om
 obtain ⟨bb4,_,hp4,rfl,hw4,hc4⟩:=hv.row hx
 refine aT 10 rfl (ZW fun D B L hI=>ZkC hp4 rfl rfl Tryz.underlying57 sz3 rfl rfl om om r4) (h:=?_)
 refine aT 11 rfl (ZW fun D B L hI=>Zn rfl rfl lk3 rfl (hc4 _ 0 (hI.2.1.trans rfl) 0 _ rfl) r4) (h:=?_)
 obtain ⟨bb5,_,hp5,rfl,hw5,hc5⟩:=hv.row hx
 refine aT 12 rfl (ZW fun D B L hI=>ZkC hp5 rfl rfl Tryz.underlying57 sz3 rfl rfl om om r4) (h:=?_)
 refine Zfa 13 kr rfl kr kr (Zd5 (k:=i) (off:=0) (y) [_] 0 hv hp5 hx rfl rfl sz3 rfl rfl rfl rfl rfl rfl ((fun row h=>by cases h;rfl)) (fun l6 hv6=>?_))
 obtain ⟨w,hw⟩:=ZM (xs:=(xs.set i (y))) (i:=j) om
 obtain ⟨bb8,_,hp8,rfl,hw8,hc8⟩:=hv6.row hw
 refine aT 14 rfl (ZW fun D B L hI=>ZkC hp8 rfl rfl Tryz.underlying57 sz3 rfl rfl om om r4) (h:=?_)
 refine ZcQ 15 kr rfl kr kr kr (Zd5 (k:=j) (off:=0) (x) [_] 0 hv6 hp8 hw rfl rfl sz3 rfl rfl rfl rfl rfl rfl ((fun row h=>by cases h;rfl)) (fun l9 hv9=>?_))
 rw [hi] at hx
 cases hx
 rw [hj] at hy
 cases hy
 exact ZeG .normal (.inr rfl) [] [0] rfl trivial ⟨rfl,_,rfl,hv9⟩

theorem ZrB (b:Nat) (q:Option Addr) (cp:Nat) (xs:List Int) (l:Cells) (j:Nat) (hj:j<xs.length) (hn:xs.length≤2000000) (hh:Zfb xs j) (B:Kn) (hv:ZU B l q cp 3 1 Zb7 xs):Zx (pj J) 266 [.iface 295 (ptr ⟨b,0,none⟩),.int .i64 j] B [ZN b [.slice q xs.length cp] 296,l] (fun v B' Ls=>B'=B∧∃ys l',Ls=[ZN b [.slice q ys.length cp] 296,l']∧ZU B l' q cp 3 1 Zb7 ys∧ys.Perm xs∧ZcT ys):=by
 refine cB 23 Tryz.func266 (h:=?_)
 refine Zh (Zv (α:=Nat × List Int × Cells) [0] (fun g=>[(1,.int .i64 g.1)]) [0,1] (fun g=>[ZN b [.slice q g.2.1.length cp] 296,g.2.2]) (fun g Bx=>Bx=B∧g.1<g.2.1.length∧g.2.1.Perm xs∧Zfb g.2.1 g.1∧ZU B g.2.2 q cp 3 1 Zb7 g.2.1) (fun g=>g.1) (j,xs,l) t1 rfl (⟨rfl,hj,.refl _,hh,hv⟩) (fun g B1 hle1 hI=>?_))
 obtain ⟨rfl,hk,hp,hb,hv⟩:=hI
 have hpl:=hp.length_eq
 refine Zz [(0,_),(1,_)] [_,_] t2 rfl (Zh (Za (xM (h:=Zk (Zii rfl rfl rfl rfl (ZbP oz oz) ?_)))))
 refine Zk (ZnM (r:=(((g.1 - 1) / 2:Nat):Int)) rfl rfl rfl rfl oz (by rw [show Int.tdiv ((g.1:Int) - 1) 2=(((g.1 - 1) / 2:Nat):Int) from Zws g.1];exact ZbP oz oz) ?_)
 refine xA (h:=Zd (Za (xM (h:=xM (h:=ZgI (h:=xM (h:=Zt (d:=11) rfl (fun g1=>?_) (fun g1=>?_))))))))
 try simp only [sQ,ne_eq] at g1
 refine xP (h:=xP (h:=xP (h:=xP (h:=xP (h:=xT (h:=Zb (t:=true) rfl (fun _=>ZA (ZP (Zeu rfl (ZC (Zs ?_))))) (fun h=>Bool.noConfusion h)))))))
 exact ZeG .normal (.inr rfl) [] [0,1] rfl trivial ⟨rfl,_,_,rfl,hv,hp,Zs3 (by rw [show g.1=0 from by omega] at hb;exact hb)⟩
 try simp only [sQ,ne_eq] at g1
 refine xM (h:=xM (h:=xM (h:=Zk (ZeS 1 rfl rfl rfl ZpT rfl rfl (ZaW Zdk Tryz.underlying295 ZeE (atL 0 rfl rfl rfl)) (Z0.borrow fun hm2=>Zfx _ _ _ _ _ _ _ (Zax oz) (Zax oz) _ (hv.lend Zb7.mono hm2 om)) ?_))))
 refine xN (h:=xF (h:=Zb rfl (fun g2=>?_) (fun g2=>?_)))
 try simp only [sQ,ne_eq] at g2
 refine ZA (ZP (Zeu rfl (ZC (Zs ?_))))
 exact ZeG .normal (.inr rfl) [] [0,1] rfl trivial ⟨rfl,_,_,rfl,hv,hp,Zs5 hb (by simpa using g2)⟩
 try simp only [sQ,ne_eq] at g2
 refine wSk (Za (xM (h:=xM (h:=xM (h:=Zk (Zge [1] rfl rfl rfl rfl ZpS rfl rfl (ZaW Zdj Tryz.underlying295 ZeE (atL 0 rfl rfl rfl)) (Zfw _ _ _ _ _ _ _ _ (Zax oz) (Zax oz) oz _ hv) ?_))))))
 rintro _ B3 _ hle3 ⟨rfl,l3,rfl,hv3⟩
 refine tL2 (Zf (xM (h:=xA (h:=ZI ?_))))
 rw [← ZcH g.2.1 ((g.1 - 1) / 2) g.1]
 exact Zy ((g.1 - 1) / 2,(swp g.2.1 ((g.1 - 1) / 2) g.1),l3) [0,1] (so) ⟨rfl,by have:=ZcH g.2.1 ((g.1 - 1) / 2) g.1;simp only [];omega,(Zfk oz oz).trans hp,Zs4 oz oz hb (by simpa using g2),hv3⟩ t2 rfl

theorem Znc (b:Nat) (q:Option Addr) (cp:Nat) (xs:List Int) (l:Cells) (z:Int) (hn:xs.length<2000000) (hh:ZcT xs) (B:Kn) (hv:ZU B l q cp 3 1 Zb7 xs):Zx (pj J) 221 [.iface 295 (ptr ⟨b,0,none⟩),.iface 3 (.int .i64 z)] B [ZN b [.slice q xs.length cp] 296,l] (fun v B' Ls=>B'=B∧∃q' c' ys l',Ls=[ZN b [.slice q' ys.length c'] 296,l']∧ZU B l' q' c' 3 1 Zb7 ys∧ys.Perm (xs ++ [z])∧ZcT ys):=by
 refine cB 12 Tryz.func221 (h:=?_)
 refine Za (xM (h:=xM (h:=Zk (Zge [0,1] rfl rfl rfl rfl ZwZ rfl rfl (Zka Zm2 Tryz.underlying295) (Zry _ _ _ _ _ _ oz _ hv) ?_))))
 rintro _ B1 _ hle1 ⟨rfl,q1,c1,l1,rfl,hv1⟩
 refine tL2 (Zf (xM (h:=xM (h:=Zk (ZeS 1 rfl rfl rfl ZvB rfl rfl (ZaW ZjK Tryz.underlying295 ZeE (atL 0 rfl rfl rfl)) (Z0.borrow fun hm2=>Zo9 _ _ _ _) (Zk (Zii (r:=((xs.length:Nat):Int)) rfl rfl rfl rfl ((congrArg _ (show _=((xs.length:Nat):Int) from by rw [List.length_append,List.length_singleton];omega)).trans (ZbP oz oz)) ?_)))))))
 refine xK [0,1] rfl Zw4 rfl (ZrB _ _ _ _ _ _ (by simp) (by simp;omega) (Zq2 hh) _ hv1) (h:=?_)
 rintro _ Bu _ hleu ⟨rfl,ysu,lu,rfl,hvu,hpu,hhu⟩
 exact ZeG .normal (.inr rfl) [] [0,1] rfl trivial ⟨rfl,_,_,_,_,rfl,hvu,hpu,hhu⟩

theorem Zne (b:Nat) (q:Option Addr) (cp:Nat) (xs:List Int) (l:Cells) (m:Nat) (hm:m≤xs.length) (hm0:0<xs.length) (hn:xs.length≤2000000) (hh:Zep xs m 0) (B:Kn) (hv:ZU B l q cp 3 1 Zb7 xs):Zx (pj J) 267 [.iface 295 (ptr ⟨b,0,none⟩),.int .i64 0,.int .i64 m] B [ZN b [.slice q xs.length cp] 296,l] (fun v B' Ls=>B'=B∧∃ys l',Ls=[ZN b [.slice q ys.length cp] 296,l']∧ZU B l' q cp 3 1 Zb7 ys∧ys.Perm xs∧Zsh ys m∧(∀k,m≤k→hat ys k=hat xs k)):=by
 refine cB 48 Tryz.func267 (h:=?_)
 refine Za (xA (h:=Za (xM (h:=xA (h:=Zd (Zh (Zv (α:=Nat × List Int × Cells) [0,1,2,6] (fun g=>[(7,.int .i64 g.1)]) [0,1] (fun g=>[ZN b [.slice q g.2.1.length cp] 296,g.2.2]) (fun g Bx=>Bx=B∧g.1<g.2.1.length∧g.2.1.Perm xs∧Zep g.2.1 m g.1∧(∀k,m≤k→hat g.2.1 k=hat xs k)∧ZU B g.2.2 q cp 3 1 Zb7 g.2.1) (fun g=>xs.length - g.1) (0,xs,l) t1 rfl (⟨rfl,hm0,.refl _,hh,fun _ _=>rfl,hv⟩) (fun g B1 hle1 hI=>?_))))))))
 obtain ⟨rfl,hk,hp,hb,hs,hv⟩:=hI
 have hpl:=hp.length_eq
 refine Zz [(0,_),(1,_),(2,_),(6,_),(7,_)] [_,_] t5 rfl (Zh (Za (xM (h:=Zk (Zwn (r:=((2*g.1:Nat):Int)) rfl rfl rfl rfl ((congrArg _ (show _=((2*g.1:Nat):Int) from by omega)).trans (ZbP oz oz)) ?_)))))
 refine Zk (ZfG (r:=((2*g.1+1:Nat):Int)) rfl rfl rfl rfl ((congrArg _ (show _=((2*g.1+1:Nat):Int) from by omega)).trans (ZbP oz oz)) ?_)
 refine xA (h:=Zd (Za (xM (h:=xM (h:=ZdY (h:=xM (h:=Zt (d:=18) rfl (fun g1=>?_) (fun g1=>?_))))))))
 try simp only [sQ,ne_eq] at g1
 refine xP (h:=xP (h:=xT (h:=Zb (t:=true) rfl (fun _=>ZA (ZP (Zeu rfl (ZC (Zs (Zm (Za (xM (h:=xM (h:=Zd4 (h:=xA (h:=Ze ?_)))))))))))) (fun h=>Bool.noConfusion h))))
 exact eN [0,1] rfl t1 ⟨rfl,_,_,rfl,hv,hp,ZpX hb oz,hs⟩
 try simp only [sQ,ne_eq] at g1
 refine xM (h:=ZB (h:=xF (h:=Zb rfl (fun g2=>by have:=of_decide_eq_true g2;omega) (fun g2=>?_))))
 try simp only [sQ,ne_eq] at g2
 refine wSk (Za (xM (h:=xA (h:=Zd (Za (xM (h:=Zk (ZfG (r:=((2*g.1+1+1:Nat):Int)) rfl rfl rfl rfl ((congrArg _ (show _=((2*g.1+1+1:Nat):Int) from by omega)).trans (ZbP oz oz)) ?_))))))))
 refine xA (h:=Za (xM (h:=xM (h:=ZB (h:=xM (h:=Zt (d:=28) rfl (fun g3=>?_) (fun g3=>?_)))))))
 try simp only [sQ,ne_eq] at g3
 refine xM (h:=xM (h:=xM (h:=Zk (ZeS 1 rfl rfl rfl ZpT rfl rfl (ZaW Zdk Tryz.underlying295 ZeE (atL 0 rfl rfl rfl)) (Z0.borrow fun hm2=>Zfx _ _ _ _ _ _ _ (Zax oz) (Zax oz) _ (hv.lend Zb7.mono hm2 om)) ?_))))
 refine xT (h:=Zb rfl (fun g4=>?_) (fun g4=>?_))
 try simp only [sQ,ne_eq] at g4
 refine Zf (xM (h:=xA (h:=Zm (Zd (Za (xM (h:=xM (h:=xM (h:=Zk (ZeS 1 rfl rfl rfl ZpT rfl rfl (ZaW Zdk Tryz.underlying295 ZeE (atL 0 rfl rfl rfl)) (Z0.borrow fun hm3=>Zfx _ _ _ _ _ _ _ (Zax oz) (Zax oz) _ (hv.lend Zb7.mono hm3 om)) ?_))))))))))
 refine xN (h:=Zb rfl (fun g5=>?_) (fun g5=>?_))
 try simp only [sQ,ne_eq] at g5
 refine ZA (ZP (Zeu rfl (ZC (Zs (Zm (Za (xM (h:=xM (h:=Zd4 (h:=xA (h:=Ze ?_)))))))))))
 exact eN [0,1] rfl t1 ⟨rfl,_,_,rfl,hv,hp,Zhl hb (by intro k h0 hk he;(try simp only [decide_eq_true_eq,decide_eq_false_iff_not,Bool.not_eq_true',Bool.not_eq_false',Int.not_lt] at *);rcases (show k=2*g.1+1∨k=2*g.1+1+1 from by omega) with rfl | rfl <;> omega),hs⟩
 try simp only [sQ,ne_eq] at g5
 refine wSk (Za (xM (h:=xM (h:=xM (h:=Zk (Zge [1] rfl rfl rfl rfl ZpS rfl rfl (ZaW Zdj Tryz.underlying295 ZeE (atL 0 rfl rfl rfl)) (Zfw _ _ _ _ _ _ _ _ (Zax oz) (Zax oz) oz _ hv) ?_))))))
 rintro _ B4 _ hle4 ⟨rfl,l4,rfl,hv4⟩
 refine tL2 (Zf (xM (h:=xA (h:=ZI ?_))))
 rw [← ZcH g.2.1 g.1 (2*g.1+1+1)]
 have h5:hat g.2.1 (2*g.1+1+1)<hat g.2.1 g.1:=by simpa using g5
 exact Zy (2*g.1+1+1,(swp g.2.1 g.1 (2*g.1+1+1)),l4) [0,1] (so) ⟨rfl,by have:=ZcH g.2.1 g.1 (2*g.1+1+1);simp only [];omega,(Zfk oz oz).trans hp,Zhk oz oz oz oz hb (by intro k h0 hk he;(try simp only [decide_eq_true_eq,decide_eq_false_iff_not,Bool.not_eq_true',Bool.not_eq_false',Int.not_lt] at *);rcases (show k=2*g.1+1∨k=2*g.1+1+1 from by omega) with rfl | rfl <;> omega) h5,(fun k hk=>by rw [Zef oz oz,if_neg oz,if_neg oz];exact hs k hk),hv4⟩ t5 rfl
 try simp only [sQ,ne_eq] at g4
 refine wSk (Zd (Za (xM (h:=xM (h:=xM (h:=Zk (ZeS 1 rfl rfl rfl ZpT rfl rfl (ZaW Zdk Tryz.underlying295 ZeE (atL 0 rfl rfl rfl)) (Z0.borrow fun hm5=>Zfx _ _ _ _ _ _ _ (Zax oz) (Zax oz) _ (hv.lend Zb7.mono hm5 om)) ?_)))))))
 refine xN (h:=Zb rfl (fun g5=>?_) (fun g5=>?_))
 try simp only [sQ,ne_eq] at g5
 refine ZA (ZP (Zeu rfl (ZC (Zs (Zm (Za (xM (h:=xM (h:=Zd4 (h:=xA (h:=Ze ?_)))))))))))
 exact eN [0,1] rfl t1 ⟨rfl,_,_,rfl,hv,hp,Zhl hb (by intro k h0 hk he;(try simp only [decide_eq_true_eq,decide_eq_false_iff_not,Bool.not_eq_true',Bool.not_eq_false',Int.not_lt] at *);rcases (show k=2*g.1+1∨k=2*g.1+1+1 from by omega) with rfl | rfl <;> omega),hs⟩
 try simp only [sQ,ne_eq] at g5
 refine wSk (Za (xM (h:=xM (h:=xM (h:=Zk (Zge [1] rfl rfl rfl rfl ZpS rfl rfl (ZaW Zdj Tryz.underlying295 ZeE (atL 0 rfl rfl rfl)) (Zfw _ _ _ _ _ _ _ _ (Zax oz) (Zax oz) oz _ hv) ?_))))))
 rintro _ B6 _ hle6 ⟨rfl,l6,rfl,hv6⟩
 refine tL2 (Zf (xM (h:=xA (h:=ZI ?_))))
 rw [← ZcH g.2.1 g.1 (2*g.1+1)]
 have h5:hat g.2.1 (2*g.1+1)<hat g.2.1 g.1:=by simpa using g5
 exact Zy (2*g.1+1,(swp g.2.1 g.1 (2*g.1+1)),l6) [0,1] (so) ⟨rfl,by have:=ZcH g.2.1 g.1 (2*g.1+1);simp only [];omega,(Zfk oz oz).trans hp,Zhk oz oz oz oz hb (by intro k h0 hk he;(try simp only [decide_eq_true_eq,decide_eq_false_iff_not,Bool.not_eq_true',Bool.not_eq_false',Int.not_lt] at *);rcases (show k=2*g.1+1∨k=2*g.1+1+1 from by omega) with rfl | rfl <;> omega) h5,(fun k hk=>by rw [Zef oz oz,if_neg oz,if_neg oz];exact hs k hk),hv6⟩ t5 rfl
 try simp only [sQ,ne_eq] at g3
 refine xP (h:=xP (h:=xP (h:=xP (h:=xF (h:=Zb (t:=false) rfl (fun h=>Bool.noConfusion h) (fun _=>wSk (Zd (Za (xM (h:=xM (h:=xM (h:=Zk (ZeS 1 rfl rfl rfl ZpT rfl rfl (ZaW Zdk Tryz.underlying295 ZeE (atL 0 rfl rfl rfl)) (Z0.borrow fun hm7=>Zfx _ _ _ _ _ _ _ (Zax oz) (Zax oz) _ (hv.lend Zb7.mono hm7 om)) ?_)))))))))))))
 refine xN (h:=Zb rfl (fun g5=>?_) (fun g5=>?_))
 try simp only [sQ,ne_eq] at g5
 refine ZA (ZP (Zeu rfl (ZC (Zs (Zm (Za (xM (h:=xM (h:=Zd4 (h:=xA (h:=Ze ?_)))))))))))
 exact eN [0,1] rfl t1 ⟨rfl,_,_,rfl,hv,hp,Zhl hb (by intro k h0 hk he;(try simp only [decide_eq_true_eq,decide_eq_false_iff_not,Bool.not_eq_true',Bool.not_eq_false',Int.not_lt] at *);rcases (show k=2*g.1+1∨k=2*g.1+1+1 from by omega) with rfl | rfl <;> omega),hs⟩
 try simp only [sQ,ne_eq] at g5
 refine wSk (Za (xM (h:=xM (h:=xM (h:=Zk (Zge [1] rfl rfl rfl rfl ZpS rfl rfl (ZaW Zdj Tryz.underlying295 ZeE (atL 0 rfl rfl rfl)) (Zfw _ _ _ _ _ _ _ _ (Zax oz) (Zax oz) oz _ hv) ?_))))))
 rintro _ B8 _ hle8 ⟨rfl,l8,rfl,hv8⟩
 refine tL2 (Zf (xM (h:=xA (h:=ZI ?_))))
 rw [← ZcH g.2.1 g.1 (2*g.1+1)]
 have h5:hat g.2.1 (2*g.1+1)<hat g.2.1 g.1:=by simpa using g5
 exact Zy (2*g.1+1,(swp g.2.1 g.1 (2*g.1+1)),l8) [0,1] (so) ⟨rfl,by have:=ZcH g.2.1 g.1 (2*g.1+1);simp only [];omega,(Zfk oz oz).trans hp,Zhk oz oz oz oz hb (by intro k h0 hk he;(try simp only [decide_eq_true_eq,decide_eq_false_iff_not,Bool.not_eq_true',Bool.not_eq_false',Int.not_lt] at *);rcases (show k=2*g.1+1∨k=2*g.1+1+1 from by omega) with rfl | rfl <;> omega) h5,(fun k hk=>by rw [Zef oz oz,if_neg oz,if_neg oz];exact hs k hk),hv8⟩ t5 rfl

theorem Zpb (b:Nat) (q:Option Addr) (cp:Nat) (xs:List Int) (l:Cells) (hm0:0<xs.length) (hn:xs.length≤2000000) (hh:ZcT xs) (B:Kn) (hv:ZU B l q cp 3 1 Zb7 xs):Zx (pj J) 222 [.iface 295 (ptr ⟨b,0,none⟩)] B [ZN b [.slice q xs.length cp] 296,l] (fun v B' Ls=>B'=B∧v = .iface 3 (.int .i64 (hat xs 0))∧∃ys l',Ls=[ZN b [.slice q ys.length cp] 296,l']∧ZU B l' q cp 3 1 Zb7 ys∧(hat xs 0 :: ys).Perm xs∧ZcT ys):=by
 refine cB 15 Tryz.func222 (h:=?_)
 refine Za (xA (h:=Za (xM (h:=Zk (ZeS 1 rfl rfl rfl ZvB rfl rfl (ZaW ZjK Tryz.underlying295 ZeE (atL 0 rfl rfl rfl)) (Z0.borrow fun hm1=>Zo9 _ _ _ _) (Zk (Zii (r:=((xs.length - 1:Nat):Int)) rfl rfl rfl rfl ((congrArg _ (show _=((xs.length - 1:Nat):Int) from by omega)).trans (ZbP oz oz)) ?_)))))))
 refine xA (h:=Za (xM (h:=xM (h:=Zk (Zge [1] rfl rfl rfl rfl ZpS rfl rfl (ZaW Zdj Tryz.underlying295 ZeE (atL 0 rfl rfl rfl)) (Zfw _ _ _ _ _ _ _ _ (Zax oz) (Zax oz) oz _ hv) ?_)))))
 rintro _ Bs _ hles ⟨rfl,ls,rfl,hvs⟩
 refine tL2 ?_
 obtain ⟨zs,hzs,hzl⟩ :∃zs,zs=swp xs 0 (xs.length - 1)∧zs.length=xs.length:=⟨_,rfl,ZcH _ _ _⟩
 have hzz:=hvs
 change ZU _ _ _ _ _ _ _ (swp xs 0 (xs.length - 1)) at hzz
 rw [← hzs] at hzz
 have hdb:Zep zs (zs.length - 1) 0:=by rw [hzl,hzs];exact Zth hh hm0
 have hlz:hat zs (zs.length - 1)=hat xs 0:=by rw [hzl,hzs];exact ZqW hm0
 have hpz:zs.Perm xs:=hzs ▸ Zfk hm0 oz
 rw [← hzl]
 refine Za (xM (h:=xM (h:=xK [0,1] rfl Zw3 rfl (Zne _ _ _ _ _ _ oz oz oz hdb _ hzz) (h:=?_))))
 rintro _ Bd _ hled ⟨rfl,ysd,ld,rfl,hvd,hpd,hhd,hsd⟩
 refine tL2 ?_
 have hdl:=hpd.length_eq
 refine Za (xM (h:=Zk (Zge [0,1] rfl rfl rfl rfl Zw0 rfl rfl (Zka ZoN Tryz.underlying295) (ZtF _ _ _ _ _ _ (Zax oz) oz _ hvd) ?_)))
 rintro _ Bo _ hleo ⟨rfl,rfl,rfl,hvo⟩
 refine xA (h:=tL2 (Ze ?_))
 have hz9:hat ysd (ysd.length - 1)=hat xs 0:=by rw [hsd _ oz,hdl];exact hlz
 exact ZeG .ret (.inl rfl) [_] [0,1] rfl ⟨rfl,trivial⟩ ⟨rfl,by rw [hz9];rfl,_,_,by rw [show (ysd.take (ysd.length - 1)).length=ysd.length - 1 from by simp],hvo,Zq5 (by omega) (hpd.trans hpz) hz9,Znd (by rw [hdl];exact hhd) (by omega)⟩

theorem Zlo (q:Option Addr) (cp:Nat) (xs:List DItem) (last:Int) (B:Kn) (ha:SlK B q cp 4 ZaA xs):Z0 (pj J) 178 [.slice q xs.length cp,.int .i64 last] B (.bool (asc 0 last (xs.map (·.id)))):=by
 refine cB 53 Tryz.func178 (h:=?_)
 have hxn:=ha.len
 refine Za (xA (h:=Za (xBs [] [] Tryz.underlying57 sz3 zo3 (h:=fun b1=>xBx [_] (h:=fun b2=>xA (h:=tL2 (Zd (Za (xM (h:=xV Tryz.underlying40 (h:=xM (h:=Zh (Zv (α:=Gh Int) [0,1,4,5,14,15] (fun g=>[(16,.int .i64 g.k)]) [0,1] (fun g=>[g.l,ZN b2 [.slice g.a g.xs.length g.c] 296]) (fun g Bx=>Bx=B∧g.k≤xs.length∧g.xs.Perm ((xs.take g.k).map (·.id))∧ZcT g.xs∧ZU Bx g.l g.a g.c 3 1 Zb7 g.xs) (fun g=>xs.length - g.k) ⟨0,0,_,_,_,[]⟩ t1 rfl (⟨rfl,Nat.zero_le _,.refl _,Zrz,.lit0⟩) (fun g B3 hle3 hI=>?_))))))))))))))
 obtain ⟨rfl,hk,hp,hh,hv⟩:=hI
 have hpl:=hp.length_eq
 rw [List.length_map,List.length_take] at hpl
 refine Zz [(0,_),(1,_),(4,_),(5,_),(14,_),(15,_),(16,_)] [_,_] t7 rfl (Za (ZB (h:=Zd (Zb rfl (fun g1=>?_) (fun g1=>?_)))))
 try simp only [sQ,ne_eq] at g1
 refine wSk (Zd (Zh (Za ?_)))
 obtain ⟨x,hx⟩:=ZM (xs:=xs) (i:=g.k) om
 obtain ⟨bb5,oo5,rfl⟩:=ha.base hx
 obtain ⟨_,⟨qi6,ci6,rfl,hi6,hb6,hb6b⟩,hc6⟩:=ha.elem hx
 have hi6n:=hi6.len
 refine xIx Tryz.underlying40 Zcc (h:=yL [_,_,_,_] Ze4 hc6 0 (h:=xAl [_,_,_,_] ZfF (h:=fun b7=>xS [_,_,_,_] 2 [_,_,_,_] Zcc (h:=tL3 (Zf (xM (h:=Zk (Zdu rfl rfl Tryz.underlying295 rfl rfl (xW Zej (h:=x1 lk3 2 (h:=Zk (Zdu rfl rfl Tryz.underlying3 rfl rfl (xK [1,0] rfl Zxh rfl (Znc _ _ _ _ _ _ oz hh _ hv) (h:=?_))))))))))))))
 rintro _ Bp _ hlep ⟨rfl,qp,cp,ysp,lp,rfl,hvp,hpp,hhp⟩
 refine ZI (Zm (Zf (xD (h:=xM (h:=?_)))))
 exact Zy ⟨g.k+1,0,lp,_,_,ysp⟩ [0,1] so2 ⟨rfl,so,by simp only [];rw [Zcb hx,List.map_append];exact hpp.trans (hp.append_right _),hhp,hvp⟩ t7 rfl
 try simp only [sQ,ne_eq] at g1
 have hxe:xs.take g.k=xs:=List.take_of_length_le oz
 rw [hxe] at hp
 refine ZA (ZP (ZC (Zs (Zm (Za (xA (h:=Zd (Za (xM (h:=xV Tryz.underlying40 (h:=xM (h:=Zh (Zv (α:=Gh2 Int Int) [0,1,5,14,15,16,17,27,28] (fun h=>[(8,.int .i64 h.e),(29,.int .i64 h.k)]) [0,1] (fun h=>[h.l,ZN b2 [.slice h.a h.xs.length h.c] 296]) (fun h Bx=>Bx=B3∧h.k≤xs.length∧h.xs.Perm ((xs.drop h.k).map (·.id))∧ZcT h.xs∧asc 0 last (xs.map (·.id))=asc h.e last ((xs.drop h.k).map (·.id))∧ZU Bx h.l h.a h.c 3 1 Zb7 h.xs) (fun h=>xs.length - h.k) ⟨0,0,g.l,g.a,g.c,g.xs,0⟩ t2 rfl (⟨rfl,Nat.zero_le _,hp,hh,rfl,hv⟩) (fun h B9 hle9 hI=>?_))))))))))))))
 clear hv hp hpl hh
 obtain ⟨rfl,hk,hp,hh,hs,hv⟩:=hI
 have hpl:=hp.length_eq
 rw [List.length_map,List.length_drop] at hpl
 refine Zz [(0,_),(1,_),(5,_),(8,_),(14,_),(15,_),(16,_),(17,_),(27,_),(28,_),(29,_)] [_,_] t11 rfl (Za (ZB (h:=Zd (Zb rfl (fun g2=>?_) (fun g2=>?_)))))
 try simp only [sQ,ne_eq] at g2
 refine wSk (Zd (Zh (Za ?_)))
 obtain ⟨x,hx⟩:=ZM (xs:=xs) (i:=h.k) om
 obtain ⟨bb11,oo11,rfl⟩:=ha.base hx
 obtain ⟨_,⟨qi12,ci12,rfl,hi12,hb12,hb12b⟩,hc12⟩:=ha.elem hx
 have hi12n:=hi12.len
 refine xIx Tryz.underlying40 Zcc (h:=?_)
 rw [ZiX hx,List.map_cons] at hp hs
 refine yL [_,_,_,_] Ze4 hc12 0 (h:=xAl [_,_,_,_] ZfF (h:=fun b13=>xS [_,_,_,_] 2 [_,_,_,_] Zcc (h:=tL3 (Za (xM (h:=Zk (Zdu rfl rfl Tryz.underlying295 rfl rfl (xK [1,0] rfl Zxg rfl (Zpb _ _ _ _ _ oz oz hh _ hv) (h:=?_)))))))))
 rintro _ Bo _ hleo ⟨rfl,rfl,yso,lo,rfl,hvo,hpo,hho⟩
 refine Zk (Zjg rfl rfl Tryz.underlying3 rfl rfl (xA (h:=tL3 (Zd (Za (xM (h:=xW Zej (h:=x1 lk3 2 (h:=Zar (h:=xM (h:=Zt (d:=41) rfl (fun g3=>?_) (fun g3=>?_))))))))))))
 try simp only [sQ,ne_eq] at g3
 refine xP (h:=xP (h:=xP (h:=xT (h:=xM (h:=xP (h:=xP (h:=xP (h:=xT (h:=Zb (t:=true) rfl (fun _=>Za (xA (h:=Ze (Zl (Zu (Zl (ZF (Zu (Zl ?_))))))))) (fun h=>Bool.noConfusion h))))))))))
 exact eR t1 ⟨Zc (by rw [hs];exact Zr7 hp hh (by simpa using g3)),rfl,rfl⟩
 try simp only [sQ,ne_eq] at g3
 refine xM (h:=xM (h:=Zbs (h:=xF (h:=xM (h:=Zt (d:=46) rfl (fun g4=>?_) (fun g4=>?_))))))
 try simp only [sQ,ne_eq] at g4
 refine xP (h:=xP (h:=xP (h:=xT (h:=Zb (t:=true) rfl (fun _=>Za (xA (h:=Ze (Zl (Zu (Zl (ZF (Zu (Zl ?_))))))))) (fun h=>Bool.noConfusion h)))))
 exact eR t1 ⟨Zc (by rw [hs];exact Zr6 (by rw [← g3];simpa using g4)),rfl,rfl⟩
 try simp only [sQ,ne_eq] at g4
 refine xM (h:=xM (h:=Zd4 (h:=xF (h:=Zb rfl (fun g5=>?_) (fun g5=>?_)))))
 try simp only [sQ,ne_eq] at g5
 refine Za (xA (h:=Ze (Zl (Zu (Zl (ZF (Zu (Zl ?_))))))))
 exact eR t1 ⟨Zc (by rw [hs];exact Zr5 (by rw [← g3];simpa using g5)),rfl,rfl⟩
 try simp only [sQ,ne_eq] at g5
 refine wSk (Zf (xM (h:=xA (h:=ZI (Zm (Zf (xD (h:=xM (h:=?_)))))))))
 exact Zy ⟨h.k+1,0,lo,_,_,yso,hat h.xs 0⟩ [0,1] so2 ⟨rfl,so,List.Perm.cons_inv ((show (x.id :: yso).Perm (hat h.xs 0 :: yso) from by rw [g3]).trans (hpo.trans hp)),hho,by simp only [];rw [hs,g3];exact ZvQ (by rw [← g3];simpa using g4) (by rw [← g3];simpa using g5),hvo⟩ t11 rfl
 try simp only [sQ,ne_eq] at g2
 rw [ZpW oz,List.map_nil,asc] at hs
 refine ZA (ZP (ZC (Zs (Zm (Za (xA (h:=Ze ?_)))))))
 exact eR t1 ⟨Zc hs.symm,rfl,rfl⟩

theorem Zlm (aq:Option Addr) (cq:Nat) (q:DQueue) (B:Kn) (hq:SlK B aq cq 4 ZaA q.items):Z0 (pj J) 124 [.agg #[.int .i64 q.next,.slice aq q.items.length cq]] B (.bool (ZaU q)):=by
 refine cB 42 Tryz.func124 (h:=?_)
 have hqn:=hq.len
 refine Za (xBx [_,_] (h:=fun b1=>xA (h:=tL1 (Zd (Za (xW Zcq (h:=x1 Zkx 0 (h:=xV Tryz.underlying40 (h:=Zd4 (h:=xM (h:=Zt (d:=9) rfl (fun g1=>?_) (fun g1=>?_))))))))))))
 try simp only [sQ,ne_eq] at g1
 refine xP (h:=xP (h:=xP (h:=xT (h:=xM (h:=xP (h:=xP (h:=xP (h:=xT (h:=Zb (t:=true) rfl (fun _=>Za (xA (h:=Ze (Zl ?_)))) (fun h=>Bool.noConfusion h))))))))))
 exact eR t1 ⟨Zc (ZfO oz),rfl,rfl⟩
 try simp only [sQ,ne_eq] at g1
 refine xW Zgr (h:=x1 lk3 0 (h:=ZB (h:=xF (h:=xM (h:=Zt (d:=14) rfl (fun g2=>?_) (fun g2=>?_))))))
 try simp only [sQ,ne_eq] at g2
 refine xP (h:=xP (h:=xP (h:=xT (h:=Zb (t:=true) rfl (fun _=>Za (xA (h:=Ze (Zl ?_)))) (fun h=>Bool.noConfusion h)))))
 exact eR t1 ⟨Zc (ZfO oz),rfl,rfl⟩
 try simp only [sQ,ne_eq] at g2
 refine xW Zgr (h:=x1 lk3 0 (h:=Zd4 (h:=xF (h:=Zb rfl (fun g3=>?_) (fun g3=>?_)))))
 try simp only [sQ,ne_eq] at g3
 refine Za (xA (h:=Ze (Zl ?_)))
 exact eR t1 ⟨Zc (ZfO oz),rfl,rfl⟩
 try simp only [sQ,ne_eq] at g3
 refine wSk (Zd (Za (xW Zcq (h:=x1 Zkx 0 (h:=xV Tryz.underlying40 (h:=xM (h:=Zh (Zv (α:=Nat) [0,1,18,20,21] (fun k=>[(22,.int .i64 k)]) [] (fun k=>[]) (fun k Bx=>Bx=B∧k≤q.items.length∧(q.items.take k).all Zfv=true) (fun k=>q.items.length - k) 0 t1 rfl (⟨rfl,Nat.zero_le _,by simp⟩) (fun k B2 hle2 hI=>?_)))))))))
 obtain ⟨rfl,hk,ha⟩:=hI
 refine Zz [(0,_),(1,_),(18,_),(20,_),(21,_),(22,_)] [_] t6 rfl (Za (ZB (h:=Zd (Zb rfl (fun g4=>?_) (fun g4=>?_)))))
 try simp only [sQ,ne_eq] at g4
 refine wSk (Zd (Zh (Za ?_)))
 obtain ⟨x,hx⟩:=ZM (xs:=q.items) (i:=k) om
 obtain ⟨bb4,oo4,rfl⟩:=hq.base hx
 obtain ⟨_,⟨qi5,ci5,rfl,hi5,hb5,hb5b⟩,hc5⟩:=hq.elem hx
 have hi5n:=hi5.len
 refine xIx Tryz.underlying40 Zcc (h:=yL [_,_,_,_] Ze4 hc5 0 (h:=xAl [_,_,_,_] ZfF (h:=fun b6=>xS [_,_,_,_] 1 [_,_,_,_] Zcc (h:=tL2 (Za (xW Zei (h:=x1 lk9 1 (h:=xW Zda (h:=x1 ZfV 1 (h:=xW Zf1 (h:=x1 lk9 1 (h:=xB [(0,_),(1,_),(2,_)] [_,_,_] [_,_,_] Zu1 Zul (h:=xR ZxI rfl (Zj2 _ _ ⟨x.fr,x.left,x.text⟩ _ hi5 oa oa) (h:=?_))))))))))))))
 refine xN (h:=Zb rfl (fun g5=>?_) (fun g5=>?_))
 try simp only [sQ,ne_eq] at g5
 refine Za (xA (h:=Ze (Zu (Zl (ZF (Zu (Zl ?_)))))))
 exact eR t1 ⟨Zc (ZkZ hx g5),rfl,rfl⟩
 try simp only [sQ,ne_eq] at g5
 refine ZL (ZI (Zm (Zf (xD (h:=xM (h:=?_))))))
 exact Zy (k+1) [0] so2 ⟨rfl,oz,ZvS hx g5 ha⟩ t6 rfl
 try simp only [sQ,ne_eq] at g4
 refine ZA (ZP (ZC (Zs (Zm (Za (xW Zcq (h:=x1 Zkx 0 (h:=xW Zgr (h:=x1 lk3 0 (h:=xU (h:=xR ZxH rfl (Zlo _ _ _ _ _ hq) (h:=xA (h:=Ze ?_)))))))))))))
 exact eR t1 ⟨Zc (ZkY oz ha oz oz oz),rfl,rfl⟩

theorem Zo0 (n:Int) (B:Kn):Z0 (pj J) 204 [.int .i64 n] B (.bool (decide (0≤n) && decide (n≤31))):=by
 refine cB 5 Tryz.func204 (h:=?_)
 refine Za (xA (h:=Za (xM (h:=xR Zky rfl (Zcp _ _ _ _) (h:=xA (h:=Ze ?_))))))
 exact eR t1 ⟨rfl,rfl,rfl⟩

theorem Zln (n:Int) (B:Kn):Z0 (pj J) 155 [.int .i64 n] B (.bool (decide (0≤n) && decide (n≤31))):=by
 refine cB 9 Tryz.func155 (h:=?_)
 refine Za (xA (h:=Za (xM (h:=ZdY (h:=xM (h:=Zt (d:=5) rfl (fun g1=>?_) (fun g1=>?_)))))))
 refine xM (h:=Zbs (h:=xT (h:=xA (h:=Ze ?_))))
 exact eR t1 ⟨Zc (by rw [Bool.eq_iff_iff];simp [g1];try omega),rfl,rfl⟩
 refine xP (h:=xP (h:=xF (h:=xA (h:=Ze ?_))))
 exact eR t1 ⟨Zc (by rw [Bool.eq_iff_iff];simp [g1];try omega),rfl,rfl⟩

theorem Zo4 (m:DMail) (hm:m.text.length≤2000000) (B:Kn):Z0 (pj J) 152 [.agg #[.int .i64 m.uid,.int .i64 m.flags,str m.text]] B (.bool (Zco m)):=by
 refine cB 17 Tryz.func152 (h:=?_)
 refine Za (xBx [_,_,_] (h:=fun b1=>xA (h:=tL1 (Za (xW Zdm (h:=x1 lk3 0 (h:=xR Zky rfl (Zcp _ _ _ _) (h:=xM (h:=Zt (d:=6) rfl (fun g1=>?_) (fun g1=>?_))))))))))
 refine xW Zgn (h:=x1 lk3 0 (h:=xR Zxn rfl (Zo0 _ _) (h:=xT (h:=xM (h:=Zt (d:=11) rfl (fun g2=>?_) (fun g2=>?_))))))
 refine xW ZeL (h:=x1 lk9 0 (h:=xVs Tryz.underlying9 (h:=Zbs (h:=xT (h:=xA (h:=Ze ?_))))))
 exact eR t1 ⟨Zc (by rw [Bool.eq_iff_iff];simp [Zco,g1,g2];try omega),rfl,rfl⟩
 refine xP (h:=xP (h:=xP (h:=xP (h:=xF (h:=xA (h:=Ze ?_))))))
 exact eR t1 ⟨Zc (by rw [Bool.eq_iff_iff];simp [Zco,g1,g2];try omega),rfl,rfl⟩
 refine xP (h:=xP (h:=xP (h:=xF (h:=xM (h:=xP (h:=xP (h:=xP (h:=xP (h:=xF (h:=xA (h:=Ze ?_)))))))))))
 exact eR t1 ⟨Zc (by rw [Bool.eq_iff_iff];simp [Zco,g1];try omega),rfl,rfl⟩

theorem Zm9 (m:DMail) (hm:m.text.length≤2000000) (B:Kn):Z0 (pj J) 153 [.agg #[.int .i64 m.uid,.int .i64 m.flags,str m.text]] B (.bool (Zco m)):=by
 refine cB 22 Tryz.func153 (h:=?_)
 refine Za (xBx [_,_,_] (h:=fun b1=>xA (h:=tL1 (Za (xW Zdm (h:=x1 lk3 0 (h:=ZdY (h:=xM (h:=Zt (d:=6) rfl (fun g1=>?_) (fun g1=>?_))))))))))
 refine xW Zdm (h:=x1 lk3 0 (h:=Zbs (h:=xT (h:=xM (h:=Zt (d:=11) rfl (fun g2=>?_) (fun g2=>?_))))))
 refine xW Zgn (h:=x1 lk3 0 (h:=xR ZxR rfl (Zln _ _) (h:=xT (h:=xM (h:=Zt (d:=16) rfl (fun g3=>?_) (fun g3=>?_))))))
 refine xW ZeL (h:=x1 lk9 0 (h:=xVs Tryz.underlying9 (h:=Zbs (h:=xT (h:=xA (h:=Ze ?_))))))
 exact eR t1 ⟨Zc (by rw [Bool.eq_iff_iff];simp [Zco,g1,g2,g3];try omega),rfl,rfl⟩
 refine xP (h:=xP (h:=xP (h:=xP (h:=xF (h:=xA (h:=Ze ?_))))))
 exact eR t1 ⟨Zc (by rw [Bool.eq_iff_iff];simp [Zco,g1,g2,g3];try omega),rfl,rfl⟩
 refine xP (h:=xP (h:=xP (h:=xF (h:=xM (h:=xP (h:=xP (h:=xP (h:=xP (h:=xF (h:=xA (h:=Ze ?_)))))))))))
 exact eR t1 ⟨Zc (by rw [Bool.eq_iff_iff];simp [Zco,g1,g2];try omega),rfl,rfl⟩
 refine xP (h:=xP (h:=xP (h:=xF (h:=xM (h:=xP (h:=xP (h:=xP (h:=xF (h:=xM (h:=xP (h:=xP (h:=xP (h:=xP (h:=xF (h:=xA (h:=Ze ?_))))))))))))))))
 exact eR t1 ⟨Zc (by rw [Bool.eq_iff_iff];simp [Zco,g1];try omega),rfl,rfl⟩

theorem Zon (q:Option Addr) (cp:Nat) (x:DBox) (B:Kn) (hx:SlK B q cp 3 Zao x.mail):Z0 (pj J) 103 [.agg #[.int .i64 x.next,.slice q x.mail.length cp]] B (.bool (Zd1 x)):=by
 refine cB 46 Tryz.func103 (h:=?_)
 have hxn:=hx.len
 refine Za (xBx [_,_] (h:=fun b1=>xA (h:=tL1 (Za (xA (h:=Zd (Za (xA (h:=Zh (Zv (α:=Nat × Int) [0,1] (fun g=>[(3,.int .i64 g.2),(4,.int .i64 g.1)]) [] (fun g=>[]) (fun g Bx=>Bx=B∧g.1≤x.mail.length∧Zcu (x.mail.take g.1)=(true,g.2)∧0≤g.2∧g.2≤99) (fun g=>x.mail.length - g.1) (0,0) t2 rfl (⟨rfl,Nat.zero_le _,Ze0,oz,oz⟩) (fun g B2 hle2 hI=>?_)))))))))))
 obtain ⟨rfl,hk,hs,hl0,hl1⟩:=hI
 refine Zz [(0,_),(1,_),(3,_),(4,_)] [_] t4 rfl (Zd (Za (xM (h:=xW ZbT (h:=x1 ZjV 0 (h:=xV Tryz.underlying83 (h:=ZB (h:=Zb rfl (fun g1=>?_) (fun g1=>?_)))))))))
 try simp only [sQ,ne_eq] at g1
 refine wSk (Zd (Zh (Zd (Za (xW ZbT (h:=x1 ZjV 0 (h:=xM (h:=?_))))))))
 obtain ⟨m,hm⟩:=ZM (xs:=x.mail) (i:=g.1) om
 obtain ⟨bb4,oo4,rfl⟩:=hx.base hm
 obtain ⟨_,⟨rfl,hb5⟩,hc5⟩:=hx.elem hm
 refine xIx Tryz.underlying83 ZhA (h:=yL [_,_,_] Zqn hc5 0 (h:=xR ZxT rfl (Zo4 m om2 _) (h:=?_)))
 refine xN (h:=xM (h:=Zt (d:=19) rfl (fun g2=>?_) (fun g2=>?_)))
 try simp only [sQ,ne_eq] at g2
 refine xP (h:=xP (h:=xP (h:=xP (h:=xP (h:=xP (h:=xP (h:=xP (h:=xT (h:=Zb (t:=true) rfl (fun _=>Za (xA (h:=Ze (Zl (Zu (Zl (ZF (Zu (Zl ?_))))))))) (fun h=>Bool.noConfusion h))))))))))
 exact eR t1 ⟨Zc (ZfB (Ze1 hm (by rw [show (scn ZdI (fun _ m=>m.uid) 0 (x.mail.take g.1)).2=g.2 from congrArg Prod.snd hs];simp [ZdI,g2]))).symm,rfl,rfl⟩
 try simp only [sQ,ne_eq] at g2
 refine xW ZbT (h:=x1 ZjV 0 (h:=xM (h:=xIx Tryz.underlying83 ZhA (h:=xW Zdm (h:=y1 lk3 hc5 0 (h:=xM (h:=Zbs (h:=xF (h:=Zb rfl (fun g3=>?_) (fun g3=>?_))))))))))
 try simp only [sQ,ne_eq] at g3
 refine Za (xA (h:=Ze (Zl (Zu (Zl (ZF (Zu (Zl ?_))))))))
 exact eR t1 ⟨Zc (ZfB (Ze1 hm (by rw [show (scn ZdI (fun _ m=>m.uid) 0 (x.mail.take g.1)).2=g.2 from congrArg Prod.snd hs];simp [ZdI,g2];omega))).symm,rfl,rfl⟩
 try simp only [sQ,ne_eq] at g3
 refine wSk (Zf (xW ZbT (h:=x1 ZjV 0 (h:=xM (h:=xIx Tryz.underlying83 ZhA (h:=xW Zdm (h:=y1 lk3 hc5 0 (h:=xA (h:=ZI (Zm (Zf (xM (h:=xD (h:=xA (h:=?_)))))))))))))))
 exact Zy (g.1+1,m.uid) [0] so2 ⟨rfl,oz,Zb9 hm hs (by simp [ZdI,g2];omega),ZhY g2⟩ t4 rfl
 try simp only [sQ,ne_eq] at g1
 refine ZA (ZP (ZC (Zs (Zm (Za (xW Zgo (h:=x1 lk3 0 (h:=xM (h:=xD (h:=xR Zky rfl (Zcp _ _ _ _) (h:=xM (h:=Zt (d:=40) rfl (fun g4=>?_) (fun g4=>?_)))))))))))))
 try simp only [sQ,ne_eq] at g4
 refine xW ZbT (h:=x1 ZjV 0 (h:=xV Tryz.underlying83 (h:=Zbs (h:=xT (h:=xA (h:=Ze ?_))))))
 exact eR t1 ⟨Zc (by rw [ZfA (ZdE hs oz),g4,Bool.true_and,Bool.eq_iff_iff];simp;omega),rfl,rfl⟩
 try simp only [sQ,ne_eq] at g4
 refine xP (h:=xP (h:=xP (h:=xP (h:=xF (h:=xA (h:=Ze ?_))))))
 exact eR t1 ⟨Zc (by rw [ZfA (ZdE hs oz),g4,Bool.false_and]),rfl,rfl⟩

theorem Zj4 (q:Option Addr) (cp:Nat) (x:DBox) (B:Kn) (hx:SlK B q cp 3 Zao x.mail):Z0 (pj J) 104 [.agg #[.int .i64 x.next,.slice q x.mail.length cp]] B (.bool (Zd1 x)):=by
 refine cB 38 Tryz.func104 (h:=?_)
 have hxn:=hx.len
 refine Za (xBx [_,_] (h:=fun b1=>xA (h:=tL1 (Zd (Za (xW ZbT (h:=x1 ZjV 0 (h:=xV Tryz.underlying83 (h:=Zd4 (h:=Zb rfl (fun g0=>?_) (fun g0=>?_)))))))))))
 try simp only [sQ,ne_eq] at g0
 refine Za (xA (h:=Ze (Zl ?_)))
 exact eR t1 ⟨Zc (by simp [Zd1];omega),rfl,rfl⟩
 try simp only [sQ,ne_eq] at g0
 refine wSk (Za (xA (h:=Zd (Za (xW ZbT (h:=x1 ZjV 0 (h:=xV Tryz.underlying83 (h:=xM (h:=Zh (Zv (α:=Nat × Int) [0,1,9,11,12] (fun g=>[(3,.int .i64 g.2),(13,.int .i64 g.1)]) [] (fun g=>[]) (fun g Bx=>Bx=B∧g.1≤x.mail.length∧Zcu (x.mail.take g.1)=(true,g.2)∧0≤g.2∧g.2≤99) (fun g=>x.mail.length - g.1) (0,0) t2 rfl (⟨rfl,Nat.zero_le _,Ze0,oz,oz⟩) (fun g B2 hle2 hI=>?_)))))))))))
 obtain ⟨rfl,hk,hs,hl0,hl1⟩:=hI
 refine Zz [(0,_),(1,_),(3,_),(9,_),(11,_),(12,_),(13,_)] [_] t7 rfl (Za (ZB (h:=Zd (Zb rfl (fun g1=>?_) (fun g1=>?_)))))
 try simp only [sQ,ne_eq] at g1
 refine wSk (Zd (Zh (Za ?_)))
 obtain ⟨m,hm⟩:=ZM (xs:=x.mail) (i:=g.1) om
 obtain ⟨bb4,oo4,rfl⟩:=hx.base hm
 obtain ⟨_,⟨rfl,hb5⟩,hc5⟩:=hx.elem hm
 refine xIx Tryz.underlying83 ZhA (h:=yL [_,_,_] Zqn hc5 0 (h:=xAl [_,_,_] Zsi (h:=fun b6=>xS [_,_,_] 1 [_,_,_] ZhA (h:=tL2 (Zd (Za (xL [_,_,_] Zqn 1 (h:=xR ZxS rfl (Zm9 m om2 _) (h:=?_)))))))))
 refine xN (h:=xM (h:=Zt (d:=20) rfl (fun g2=>?_) (fun g2=>?_)))
 try simp only [sQ,ne_eq] at g2
 refine xP (h:=xP (h:=xP (h:=xP (h:=xT (h:=Zb (t:=true) rfl (fun _=>Za (xA (h:=Ze (Zl (Zu (Zl (ZF (Zu (Zl ?_))))))))) (fun h=>Bool.noConfusion h))))))
 exact eR t1 ⟨Zc (ZfB (Ze1 hm (by rw [show (scn ZdI (fun _ m=>m.uid) 0 (x.mail.take g.1)).2=g.2 from congrArg Prod.snd hs];simp [ZdI,g2]))).symm,rfl,rfl⟩
 try simp only [sQ,ne_eq] at g2
 refine xW Zdm (h:=x1 lk3 1 (h:=xM (h:=Zbs (h:=xF (h:=Zb rfl (fun g3=>?_) (fun g3=>?_))))))
 try simp only [sQ,ne_eq] at g3
 refine Za (xA (h:=Ze (Zl (Zu (Zl (ZF (Zu (Zl ?_))))))))
 exact eR t1 ⟨Zc (ZfB (Ze1 hm (by rw [show (scn ZdI (fun _ m=>m.uid) 0 (x.mail.take g.1)).2=g.2 from congrArg Prod.snd hs];simp [ZdI,g2];omega))).symm,rfl,rfl⟩
 try simp only [sQ,ne_eq] at g3
 refine wSk (Zf (xW Zdm (h:=x1 lk3 1 (h:=xA (h:=ZI (Zm (Zf (xD (h:=xM (h:=?_))))))))))
 exact Zy (g.1+1,m.uid) [0] so2 ⟨rfl,oz,Zb9 hm hs (by simp [ZdI,g2];omega),ZhY g2⟩ t7 rfl
 try simp only [sQ,ne_eq] at g1
 refine ZA (ZP (ZC (Zs (Zm (Za (xW Zgo (h:=x1 lk3 0 (h:=xM (h:=Zd4 (h:=xM (h:=Zt (d:=33) rfl (fun g4=>?_) (fun g4=>?_))))))))))))
 try simp only [sQ,ne_eq] at g4
 refine xW Zgo (h:=x1 lk3 0 (h:=Zbs (h:=xT (h:=xA (h:=Ze ?_)))))
 exact eR t1 ⟨Zc (by rw [ZfA (ZdE hs oz),Bool.eq_iff_iff];simp;omega),rfl,rfl⟩
 try simp only [sQ,ne_eq] at g4
 refine xP (h:=xP (h:=xP (h:=xF (h:=xA (h:=Ze ?_)))))
 exact eR t1 ⟨Zc (by rw [ZfA (ZdE hs oz),Bool.eq_iff_iff];simp;omega),rfl,rfl⟩

theorem Zo3 (q:Option Addr) (cp:Nat) (x:DBox) (B:Kn) (hx:SlK B q cp 3 Zao x.mail):Z0 (pj J) 138 [.agg #[.int .i64 x.next,.slice q x.mail.length cp]] B (.int .i64 (Zbh x.mail)):=by
 refine cB 22 Tryz.func138 (h:=?_)
 have hxn:=hx.len
 refine Za (xBx [_,_] (h:=fun b1=>xA (h:=tL1 (Za (xA (h:=Zd (Za (xA (h:=Zh (Zv (α:=Nat × Nat) [0,1,2] (fun g=>[(3,.int .i64 g.2),(4,.int .i64 g.1)]) [] (fun g=>[]) (fun g Bx=>Bx=B∧g.1≤x.mail.length∧g.2=Zbh (x.mail.take g.1)∧g.2≤g.1*2000000) (fun g=>x.mail.length - g.1) (0,0) t2 rfl (⟨rfl,Nat.zero_le _,by simp [Zbh],oz⟩) (fun g B2 hle2 hI=>?_)))))))))))
 obtain ⟨rfl,hk,hs,hl⟩:=hI
 refine Zz [(0,_),(1,_),(2,_),(3,_),(4,_)] [_] t5 rfl (Zd (Za (xM (h:=xW ZbT (h:=x1 ZjV 0 (h:=xV Tryz.underlying83 (h:=ZB (h:=Zb rfl (fun g1=>?_) (fun g1=>?_)))))))))
 try simp only [sQ,ne_eq] at g1
 refine wSk (Zd (Zh (Zf (xM (h:=xW ZbT (h:=x1 ZjV 0 (h:=xM (h:=?_))))))))
 obtain ⟨m,hm⟩:=ZM (xs:=x.mail) (i:=g.1) om
 obtain ⟨bb4,oo4,rfl⟩:=hx.base hm
 obtain ⟨_,⟨rfl,hb5⟩,hc5⟩:=hx.elem hm
 refine xIx Tryz.underlying83 ZhA (h:=xW ZeL (h:=y1 lk9 hc5 2 (h:=xVs Tryz.underlying9 (h:=xD (h:=xA (h:=ZI (Zm (Zf (xM (h:=xD (h:=xA (h:=?_))))))))))))
 exact Zy (g.1+1,g.2+m.text.length) [0] so2 ⟨rfl,oz,by rw [ZgR hm,← hs],oz⟩ t5 rfl
 try simp only [sQ,ne_eq] at g1
 refine ZA (ZP (ZC (Zs (Zm (Za (xM (h:=xA (h:=Ze ?_))))))))
 exact eR t1 ⟨ZE (by rw [← ZhM hs oz]),rfl,rfl⟩

theorem Zp7 (q:Option Addr) (cp:Nat) (x:DBox) (B:Kn) (hx:SlK B q cp 3 Zao x.mail):Z0 (pj J) 209 [.agg #[.int .i64 x.next,.slice q x.mail.length cp]] B (.int .i64 (Zdb x)):=by
 refine cB 23 Tryz.func209 (h:=?_)
 have hxn:=hx.len
 refine Za (xBx [_,_] (h:=fun b1=>xA (h:=tL1 (Zd (Za (xL [_,_] ZnB 0 (h:=xR ZvJ rfl (Zj4 _ _ (⟨x.next,x.mail⟩:DBox) _ hx) (h:=xN (h:=Zb rfl (fun g0=>?_) (fun g0=>?_))))))))))
 try simp only [sQ,ne_eq] at g0
 refine Za (xA (h:=Ze (Zl ?_)))
 exact eR t1 ⟨ZE (by simp [Zdb,g0]),rfl,rfl⟩
 try simp only [sQ,ne_eq] at g0
 refine wSk (Za (xA (h:=Zd (Za (xW ZbT (h:=x1 ZjV 0 (h:=xV Tryz.underlying83 (h:=xM (h:=Zh (Zv (α:=Nat × Nat) [0,1,2,8,10,11] (fun g=>[(3,.int .i64 g.2),(12,.int .i64 g.1)]) [] (fun g=>[]) (fun g Bx=>Bx=B∧g.1≤x.mail.length∧g.2=Zbh (x.mail.take g.1)∧g.2≤g.1*2000000) (fun g=>x.mail.length - g.1) (0,0) t2 rfl (⟨rfl,Nat.zero_le _,by simp [Zbh],oz⟩) (fun g B3 hle3 hI=>?_)))))))))))
 obtain ⟨rfl,hk,hs,hl⟩:=hI
 refine Zz [(0,_),(1,_),(2,_),(3,_),(8,_),(10,_),(11,_),(12,_)] [_] t8 rfl (Za (ZB (h:=Zd (Zb rfl (fun g1=>?_) (fun g1=>?_)))))
 try simp only [sQ,ne_eq] at g1
 refine wSk (Zd (Zh (Za ?_)))
 obtain ⟨m,hm⟩:=ZM (xs:=x.mail) (i:=g.1) om
 obtain ⟨bb5,oo5,rfl⟩:=hx.base hm
 obtain ⟨_,⟨rfl,hb6⟩,hc6⟩:=hx.elem hm
 refine xIx Tryz.underlying83 ZhA (h:=yL [_,_,_] Zqn hc6 0 (h:=xAl [_,_,_] Zsi (h:=fun b7=>xS [_,_,_] 1 [_,_,_] ZhA (h:=tL2 (Zf (xM (h:=xW ZeL (h:=x1 lk9 1 (h:=xVs Tryz.underlying9 (h:=xD (h:=xA (h:=ZI (Zm (Zf (xD (h:=xM (h:=?_)))))))))))))))))
 exact Zy (g.1+1,g.2+m.text.length) [0] so2 ⟨rfl,oz,by rw [ZgR hm,← hs],oz⟩ t8 rfl
 try simp only [sQ,ne_eq] at g1
 refine ZA (ZP (ZC (Zs (Zm (Za (xM (h:=xA (h:=Ze ?_))))))))
 exact eR t1 ⟨ZE (by rw [Zdb,if_pos g0,← ZhM hs oz]),rfl,rfl⟩

theorem Zq0 (n:Int) (B:Kn):Z0 (pj J) 253 [.int .i64 n] B (.bool (decide (0≤n) && decide (n≤63))):=by
 refine cB 9 Tryz.func253 (h:=?_)
 refine Za (xA (h:=Za (xM (h:=ZdY (h:=xM (h:=Zt (d:=5) rfl (fun g1=>?_) (fun g1=>?_)))))))
 refine xM (h:=Zbs (h:=xT (h:=xA (h:=Ze ?_))))
 exact eR t1 ⟨Zc (by rw [Bool.eq_iff_iff];simp [g1];try omega),rfl,rfl⟩
 refine xP (h:=xP (h:=xF (h:=xA (h:=Ze ?_))))
 exact eR t1 ⟨Zc (by rw [Bool.eq_iff_iff];simp [g1];try omega),rfl,rfl⟩

theorem ZkG (u:DUser) (h1:u.name.length≤2000000) (h2:u.pass.length≤2000000) (B:Kn):Z0 (pj J) 176 [.agg #[str u.name,str u.pass,.int .i64 u.quota]] B (.bool (Zcl u)):=by
 refine cB 26 Tryz.func176 (h:=?_)
 refine Za (xBx [_,_,_] (h:=fun b1=>xA (h:=tL1 (Za (xW ZaZ (h:=x1 lk9 0 (h:=xR Zke rfl (ZbB _ om2 _) (h:=?_))))))))
 refine xM (h:=Zt (d:=6) rfl (fun g1=>?_) (fun g1=>?_))
 try simp only [sQ,ne_eq] at g1
 refine xW ZaZ (h:=x1 lk9 0 (h:=Zd3 (h:=xT (h:=xM (h:=Zt (d:=11) rfl (fun g2=>?_) (fun g2=>?_))))))
 try simp only [sQ,ne_eq] at g2
 refine xW Zf2 (h:=x1 lk9 0 (h:=xR Zke rfl (ZbB _ om2 _) (h:=?_)))
 refine xT (h:=xM (h:=Zt (d:=16) rfl (fun g3=>?_) (fun g3=>?_)))
 try simp only [sQ,ne_eq] at g3
 refine xW ZdL (h:=x1 lk3 0 (h:=ZdY (h:=xT (h:=xM (h:=Zt (d:=21) rfl (fun g4=>?_) (fun g4=>?_))))))
 try simp only [sQ,ne_eq] at g4
 refine xW ZdL (h:=x1 lk3 0 (h:=Zbs (h:=xT (h:=xA (h:=Ze ?_)))))
 exact eR t1 ⟨Zc (by rw [Bool.eq_iff_iff];simp [Zcl,anyone,g1,g2,g3,g4];try omega),rfl,rfl⟩
 try simp only [sQ,ne_eq] at g4
 refine xP (h:=xP (h:=xP (h:=xF (h:=xA (h:=Ze ?_)))))
 exact eR t1 ⟨Zc (by rw [Bool.eq_iff_iff];simp [Zcl,anyone,g1,g2,g3,g4];try omega),rfl,rfl⟩
 try simp only [sQ,ne_eq] at g3
 refine xP (h:=xP (h:=xP (h:=xF (h:=xM (h:=xP (h:=xP (h:=xP (h:=xF (h:=xA (h:=Ze ?_))))))))))
 exact eR t1 ⟨Zc (by rw [Bool.eq_iff_iff];simp [Zcl,anyone,g1,g2,g3];try omega),rfl,rfl⟩
 try simp only [sQ,ne_eq] at g2
 refine xP (h:=xP (h:=xP (h:=xF (h:=xM (h:=xP (h:=xP (h:=xP (h:=xF (h:=xM (h:=xP (h:=xP (h:=xP (h:=xF (h:=xA (h:=Ze ?_)))))))))))))))
 exact eR t1 ⟨Zc (by rw [Bool.eq_iff_iff];simp [Zcl,anyone,g1,g2];try omega),rfl,rfl⟩
 try simp only [sQ,ne_eq] at g1
 refine xP (h:=xP (h:=xP (h:=xF (h:=xM (h:=xP (h:=xP (h:=xP (h:=xF (h:=xM (h:=xP (h:=xP (h:=xP (h:=xF (h:=xM (h:=xP (h:=xP (h:=xP (h:=xF (h:=xA (h:=Ze ?_))))))))))))))))))))
 exact eR t1 ⟨Zc (by rw [Bool.eq_iff_iff];simp [Zcl,anyone,g1];try omega),rfl,rfl⟩

theorem Zg3 (q:Option Addr) (cp:Nat) (us:List DUser) (B:Kn) (hu:SlK B q cp 3 ZJ us):Z0 (pj J) 123 [.slice q us.length cp] B (.bool (Zap us)):=by
 refine cB 32 Tryz.func123 (h:=?_)
 have hun:=hu.len
 refine Za (xA (h:=Zd (Za (xM (h:=xV Tryz.underlying38 (h:=ZB (h:=xM (h:=Zt (d:=9) rfl (fun g0=>?_) (fun g0=>?_)))))))))
 try simp only [sQ,ne_eq] at g0
 refine xP (h:=xP (h:=xP (h:=xT (h:=Zb (t:=true) rfl (fun _=>Za (xA (h:=Ze (Zl ?_)))) (fun h=>Bool.noConfusion h)))))
 exact eR t1 ⟨Zc (by rw [Bool.eq_iff_iff];simp [Zap];omega),rfl,rfl⟩
 try simp only [sQ,ne_eq] at g0
 refine xM (h:=xV Tryz.underlying38 (h:=Zd4 (h:=xF (h:=Zb rfl (fun g0b=>?_) (fun g0b=>?_)))))
 try simp only [sQ,ne_eq] at g0b
 refine Za (xA (h:=Ze (Zl ?_)))
 exact eR t1 ⟨Zc (by rw [Bool.eq_iff_iff];simp [Zap];omega),rfl,rfl⟩
 try simp only [sQ,ne_eq] at g0b
 refine wSk (Za (xA (h:=Zd (Za (xM (h:=xV Tryz.underlying38 (h:=xM (h:=Zh (Zv (α:=Nat × Str) [0,13,14,15] (fun g=>[(3,str g.2),(16,.int .i64 g.1)]) [] (fun g=>[]) (fun g Bx=>Bx=B∧g.1≤us.length∧Zdx (us.take g.1)=(true,g.2)∧g.2.length≤2000000) (fun g=>us.length - g.1) (0,[]) t2 rfl (⟨rfl,Nat.zero_le _,Ze0,by simp⟩) (fun g B1 hle1 hI=>?_))))))))))
 obtain ⟨rfl,hk,hs,hl⟩:=hI
 refine Zz [(0,_),(3,_),(13,_),(14,_),(15,_),(16,_)] [] t6 rfl (Za (ZB (h:=Zd (Zb rfl (fun g1=>?_) (fun g1=>?_)))))
 try simp only [sQ,ne_eq] at g1
 refine wSk (Zd (Zh (Za ?_)))
 obtain ⟨m,hm⟩:=ZM (xs:=us) (i:=g.1) om
 obtain ⟨bb3,oo3,rfl⟩:=hu.base hm
 obtain ⟨_,⟨rfl,hb4,hb4b⟩,hc4⟩:=hu.elem hm
 refine xIx Tryz.underlying38 ZbQ (h:=yL [_,_,_] ZeF hc4 0 (h:=xAl [_,_,_] Zfc (h:=fun b5=>xS [_,_,_] 0 [_,_,_] ZbQ (h:=tL1 (Zd (Za (xL [_,_,_] ZeF 0 (h:=xR ZxJ rfl (ZkG m om2 om2 _) (h:=?_)))))))))
 refine xN (h:=xM (h:=Zt (d:=23) rfl (fun g2=>?_) (fun g2=>?_)))
 try simp only [sQ,ne_eq] at g2
 refine xP (h:=xP (h:=xP (h:=xP (h:=xT (h:=Zb (t:=true) rfl (fun _=>Za (xA (h:=Ze (Zl (Zu (Zl (ZF (Zu (Zl ?_))))))))) (fun h=>Bool.noConfusion h))))))
 exact eR t1 ⟨Zc (ZeU (Ze1 hm (by rw [show (scn ZdZ (fun _ u=>u.name) [] (us.take g.1)).2=g.2 from congrArg Prod.snd hs];simp [ZdZ,g2]))).symm,rfl,rfl⟩
 try simp only [sQ,ne_eq] at g2
 refine xW ZaZ (h:=x1 lk9 0 (h:=xM (h:=Zk (Zsp rfl rfl rfl rfl (xF (h:=Zb rfl (fun g3=>?_) (fun g3=>?_)))))))
 try simp only [sQ,ne_eq] at g3
 refine Za (xA (h:=Ze (Zl (Zu (Zl (ZF (Zu (Zl ?_))))))))
 exact eR t1 ⟨Zc (ZeU (Ze1 hm (by rw [show (scn ZdZ (fun _ u=>u.name) [] (us.take g.1)).2=g.2 from congrArg Prod.snd hs,ZdZ,Zba g.2 m.name,g3];simp))).symm,rfl,rfl⟩
 try simp only [sQ,ne_eq] at g3
 refine wSk (Zf (xW ZaZ (h:=x1 lk9 0 (h:=xA (h:=ZI (Zm (Zf (xD (h:=xM (h:=?_))))))))))
 exact Zy (g.1+1,m.name) [] so2 ⟨rfl,oz,Zb9 hm hs (by rw [ZdZ,Zba g.2 m.name,g2,g3];rfl),oy⟩ t6 rfl
 try simp only [sQ,ne_eq] at g1
 refine ZA (ZP (ZC (Zs (Zm (Za (xA (h:=Ze ?_)))))))
 exact eR t1 ⟨Zc (by rw [ZgN (ZdE hs oz),Bool.eq_iff_iff];simp;omega),rfl,rfl⟩

theorem Zjk (x:DUser) (u:Str) (b:Nat) (h1:x.name.length≤2000000) (h2:u.length≤2000000) (B:Kn) (hb:Zai B b 0 [str u]):Z0 (pj J) 208 [.agg #[str x.name,str x.pass,.int .i64 x.quota],ptr ⟨b,0,none⟩] B (.bool (decide (x.name=u))):=by
 refine cB 8 Tryz.func208 (h:=?_)
 refine Za (xBx [_,_,_] (h:=fun b1=>xA (h:=tL1 (Za (xW ZaZ (h:=x1 lk9 0 (h:=Zk (Zn rfl rfl lk9 rfl (hb _ 0 _ rfl) (Zdc (h:=xA (h:=Ze ?_)))))))))))
 exact eR t1 ⟨rfl,rfl,rfl⟩

theorem ZpF (q:Option Addr) (cp:Nat) (us:List DUser) (F:FuncId) (cap:Array Value) (t:DUser→Bool) (B:Kn) (hu:SlK B q cp 3 ZJ us) (he:enters (pj J) F=true) (hF :∀x:DUser,x.name.length≤2000000→x.pass.length≤2000000→Z0 (pj J) F ([.agg #[str x.name,str x.pass,.int .i64 x.quota]] ++ cap.toList) B (.bool (t x))):Z0 (pj J) 207 [.slice q us.length cp,.func (.func F) #[] cap] B (.tuple #[.agg #[str (Zgt t us).1.name,str (Zgt t us).1.pass,.int .i64 (Zgt t us).1.quota],.bool (Zgt t us).2]):=by
 refine cB 21 Tryz.func207 (h:=?_)
 have hun:=hu.len
 refine Za (xAl [_,_,_] Zfc (h:=fun b1=>xA (h:=tL1 (Zd (Za (xM (h:=xV Tryz.underlying38 (h:=xM (h:=Zh (Zv (α:=Nat) [0,1,4,9,10] (fun k=>[(11,.int .i64 k)]) [] (fun k=>[]) (fun k Bx=>Bx=B∧k≤us.length∧∀y,y∈us.take k→t y=false) (fun k=>us.length - k) 0 t1 rfl (⟨rfl,Nat.zero_le _,by simp⟩) (fun k B2 hle2 hI=>?_)))))))))))
 obtain ⟨rfl,hk,ha⟩:=hI
 refine Zz [(0,_),(1,_),(4,_),(9,_),(10,_),(11,_)] [_] t6 rfl (Za (ZB (h:=Zd (Zb rfl (fun g1=>?_) (fun g1=>?_)))))
 try simp only [sQ,ne_eq] at g1
 refine wSk (Zd (Zh (Za ?_)))
 obtain ⟨m,hm⟩:=ZM (xs:=us) (i:=k) om
 obtain ⟨bb4,oo4,rfl⟩:=hu.base hm
 obtain ⟨_,⟨rfl,hb5,hb5b⟩,hc5⟩:=hu.elem hm
 refine xIx Tryz.underlying38 ZbQ (h:=yL [_,_,_] ZeF hc5 0 (h:=xAl [_,_,_] Zfc (h:=fun b6=>xS [_,_,_] 1 [_,_,_] ZbQ (h:=tL2 (Za (xM (h:=xL [_,_,_] ZeF 1 (h:=Zk (Zsk rfl rfl he rfl rfl (hF m om2 om2) ?_)))))))))
 refine Zb rfl (fun g2=>?_) (fun g2=>?_)
 try simp only [sQ,ne_eq] at g2
 refine Za (xL [_,_,_] ZeF 1 (h:=xS [_,_,_] 0 [_,_,_] ZbQ (h:=xA (h:=tL2 (Ze (Zu (Zl (ZF (Zu (Zl ?_))))))))))
 exact ZpQ .ret (.inl rfl) [_,_] ⟨⟨_,rfl,.inr ⟨[_,_,_],ZeF,Zct 0 rfl rfl rfl,rfl⟩⟩,rfl,trivial⟩ ⟨by rw [ZpE hm g2 ha];rfl,rfl,rfl⟩
 try simp only [sQ,ne_eq] at g2
 refine ZL (ZI (Zm (Zf (xD (h:=xM (h:=?_))))))
 exact Zy (k+1) [0] so2 ⟨rfl,oz,ZaJ hm ha g2⟩ t6 rfl
 try simp only [sQ,ne_eq] at g1
 refine ZA (ZP (ZC (Zs (Zm (Za (xAl [_,_,_] Zfc (h:=fun b8=>tL2 (Za (xL [_,_,_] ZeF 1 (h:=xS [_,_,_] 0 [_,_,_] ZbQ (h:=xA (h:=tL2 (Ze ?_)))))))))))))
 exact ZpQ .ret (.inl rfl) [_,_] ⟨⟨_,rfl,.inr ⟨[_,_,_],ZeF,Zct 0 rfl rfl rfl,rfl⟩⟩,rfl,trivial⟩ ⟨by rw [Znj (ZaR oz ha)];rfl,rfl,rfl⟩

theorem ZgP (q:Option Addr) (cp:Nat) (us:List DUser) (nm:Str) (hn:nm.length≤2000000) (B:Kn) (hu:SlK B q cp 3 ZJ us):Z0 (pj J) 162 [.slice q us.length cp,str nm] B (.tuple #[.agg #[str (Zas us nm).1.name,str (Zas us nm).1.pass,.int .i64 (Zas us nm).1.quota],.bool (Zas us nm).2]):=by
 refine cB 15 Tryz.func162 (h:=?_)
 have hun:=hu.len
 refine Za (xBx [_] (h:=fun b1=>xAl [_,_,_] Zfc (h:=fun b2=>xA (h:=tL2 (Zd (Za (xM (h:=xR ZvF rfl (Zg3 _ _ _ _ hu) (h:=xN (h:=Zb rfl (fun g0=>?_) (fun g0=>?_)))))))))))
 try simp only [sQ,ne_eq] at g0
 refine Za (xB [] [_,_,_] [_,_,_] ZwD Zfc (h:=xS [_,_,_] 1 [_,_,_] ZbQ (h:=xA (h:=tL2 (Ze (Zl ?_))))))
 exact ZpQ .ret (.inl rfl) [_,_] ⟨⟨_,rfl,.inr ⟨[_,_,_],ZeF,Zct 1 rfl rfl rfl,rfl⟩⟩,rfl,trivial⟩ ⟨by rw [Zas,g0];rfl,rfl,rfl⟩
 try simp only [sQ,ne_eq] at g0
 refine wSk (Za (xM (h:=Zk (Zcz (xs:=[]) (ys:=[_]) rfl rfl rfl rfl (Zk (Zd6 0 rfl rfl rfl Zxm rfl (Z0.borrow fun hm=>ZpF _ _ us 208 _ (fun y=>decide (y.name=nm)) _ (hu.mono ZJ.mono (Kn.le_add _ _)) Zxl (fun y h1 h2=>Zjk y nm _ h1 hn _ (Zip hm))) (xE (h:=xE (h:=xS [_,_,_] 1 [_,_,_] ZbQ (h:=xA (h:=tL2 (Ze ?_))))))))))))
 exact ZpQ .ret (.inl rfl) [_,_] ⟨⟨_,rfl,.inr ⟨[_,_,_],ZeF,Zct 1 rfl rfl rfl,rfl⟩⟩,rfl,trivial⟩ ⟨by rw [Zas,if_pos g0];rfl,rfl,rfl⟩

theorem Zgy (b o:Nat) (q1 q2 q3:Option Addr) (c1 c2 c3:Nat) (x:DHost) (nm:Str) (hn:nm.length≤2000000) (B:Kn) (hh:Zai B b o [str x.domain,.slice q1 x.users.length c1,.slice q2 x.folders.length c2,.int .i64 x.queue.next,.slice q3 x.queue.items.length c3]) (hu:SlK B q1 c1 3 ZJ x.users):Z0 (pj J) 161 [ptr ⟨b,o,none⟩,str nm] B (.bool (Zas x.users nm).2):=by
 refine cB 17 Tryz.func161 (h:=?_)
 refine Za (xA (h:=Za (xM (h:=xNc (h:=xW ZbU (h:=Zk (Zn rfl rfl ZjW rfl (hh _ 1 _ rfl) (xM (h:=xR ZvE rfl (ZgP _ _ _ nm om2 _ hu) (h:=?_))))))))))
 refine xM (h:=xE (h:=xE (h:=xAl [_,_,_] Zfc (h:=fun b2=>xS [_,_,_] 0 [_,_,_] ZbQ (h:=xA (h:=tL1 (Za (xM (h:=xA (h:=Ze ?_))))))))))
 exact eR t1 ⟨rfl,rfl,rfl⟩

theorem ZjZ (q1 q2 q3:Option Addr) (c1 c2 c3:Nat) (x:DHost) (ow nm:Str) (ho:ow.length≤2000000) (hn:nm.length≤2000000) (B:Kn) (hf:SlK B q2 c2 5 ZG x.folders):Z0 (pj J) 64 [.agg #[str x.domain,.slice q1 x.users.length c1,.slice q2 x.folders.length c2,.int .i64 x.queue.next,.slice q3 x.queue.items.length c3],str ow,str nm] B (.int .i64 (Zbe (inF ow nm) x.folders)):=by
 refine cB 34 Tryz.func64 (h:=?_)
 have hfn:=hf.len
 refine Za (xBx [_,_,_,_,_] (h:=fun b1=>xA (h:=tL1 (Zd (Za (xA (h:=Zh (Zv (α:=Nat) [0,1,2,3] (fun k=>[(7,.int .i64 k)]) [] (fun k=>[]) (fun k Bx=>Bx=B∧k≤x.folders.length∧∀y,y∈x.folders.take k→inF ow nm y=false) (fun k=>x.folders.length - k) 0 t1 rfl (⟨rfl,Nat.zero_le _,by simp⟩) (fun k B2 hle2 hI=>?_)))))))))
 obtain ⟨rfl,hk,ha⟩:=hI
 refine Zz [(0,_),(1,_),(2,_),(3,_),(7,_)] [_] t5 rfl (Zd (Za (xM (h:=xW ZaB (h:=x1 Zfs 0 (h:=xV Tryz.underlying39 (h:=ZB (h:=Zb rfl (fun g1=>?_) (fun g1=>?_)))))))))
 try simp only [sQ,ne_eq] at g1
 refine wSk (Zd (Zh (Za (xW ZaB (h:=x1 Zfs 0 (h:=xM (h:=?_)))))))
 obtain ⟨y,hy⟩:=ZM (xs:=x.folders) (i:=k) om
 obtain ⟨bb4,oo4,rfl⟩:=hf.base hy
 obtain ⟨_,⟨qg5,cg5,qm5,cm5,rfl,hg5,hm5,hb5,hb5b⟩,hc5⟩:=hf.elem hy
 have hg5n:=hg5.len
 have hm5n:=hm5.len
 have hm5s:=Zal hm5
 refine xIx Tryz.underlying39 ZdS (h:=xW ZbS (h:=y1 lk9 hc5 0 (h:=xM (h:=Zdc (h:=xM (h:=Zt (d:=23) rfl (fun g2=>?_) (fun g2=>?_)))))))
 try simp only [sQ,ne_eq] at g2
 refine xW ZaB (h:=x1 Zfs 0 (h:=xM (h:=xIx Tryz.underlying39 ZdS (h:=xW ZdW (h:=y1 lk9 hc5 1 (h:=xM (h:=Zdc (h:=xT (h:=Zb rfl (fun g3=>?_) (fun g3=>?_))))))))))
 try simp only [sQ,ne_eq] at g3
 refine Za (xM (h:=xA (h:=Ze (Zu (Zl (ZF (Zu (Zl ?_))))))))
 exact eR t1 ⟨ZE (Zgz hy (by simp [inF,g2,g3]) ha).symm,rfl,rfl⟩
 try simp only [sQ,ne_eq] at g3
 refine ZL (ZI (Zm (Zf (xM (h:=xD (h:=xA (h:=?_)))))))
 exact Zy (k+1) [0] so2 ⟨rfl,oz,ZaJ hy ha (by simp [inF,g2,g3])⟩ t5 rfl
 try simp only [sQ,ne_eq] at g2
 refine xP (h:=xP (h:=xP (h:=xP (h:=xP (h:=xP (h:=xP (h:=xP (h:=xF (h:=Zb (t:=false) rfl (fun h=>Bool.noConfusion h) (fun _=>ZL (ZI (Zm (Zf (xM (h:=xD (h:=xA (h:=?_)))))))))))))))))
 exact Zy (k+1) [0] so2 ⟨rfl,oz,ZaJ hy ha (by simp [inF,g2])⟩ t5 rfl
 try simp only [sQ,ne_eq] at g1
 refine ZA (ZP (ZC (Zs (Zm (Za (xA (h:=Ze ?_)))))))
 exact eR t1 ⟨ZE (Zee (ZaR oz ha)).symm,rfl,rfl⟩

theorem ZtS (f:DFolder) (qa qb:Option Addr) (ca cb:Nat) (ow nm:Str) (b b':Nat) (h1:f.owner.length≤2000000) (h2:f.name.length≤2000000) (h3:ow.length≤2000000) (h4:nm.length≤2000000) (B:Kn) (hb:Zai B b 0 [str ow]) (hb2:Zai B b' 0 [str nm]):Z0 (pj J) 159 [.agg #[str f.owner,str f.name,.slice qa f.grants.length ca,.int .i64 f.next,.slice qb f.mail.length cb],ptr ⟨b,0,none⟩,ptr ⟨b',0,none⟩] B (.bool (inF ow nm f)):=by
 refine cB 15 Tryz.func159 (h:=?_)
 refine Za (xBx [_,_,_,_,_] (h:=fun b1=>xA (h:=tL1 (Za (xW ZbS (h:=x1 lk9 0 (h:=Zk (Zn rfl rfl lk9 rfl (hb _ 0 _ rfl) (Zdc (h:=xM (h:=Zt (d:=9) rfl (fun g1=>?_) (fun g1=>?_))))))))))))
 refine xW ZdW (h:=x1 lk9 0 (h:=Zk (Zn rfl rfl lk9 rfl (hb2 _ 0 _ rfl) (Zdc (h:=xT (h:=xA (h:=Ze ?_)))))))
 exact eR t1 ⟨Zc (by rw [Bool.eq_iff_iff];simp [inF,g1]),rfl,rfl⟩
 refine xP (h:=xP (h:=xP (h:=xP (h:=xF (h:=xA (h:=Ze ?_))))))
 exact eR t1 ⟨Zc (by rw [Bool.eq_iff_iff];simp [inF,g1]),rfl,rfl⟩

theorem Zrt (q:Option Addr) (cp:Nat) (fs:List DFolder) (F:FuncId) (cap:Array Value) (t:DFolder→Bool) (B:Kn) (hf:SlK B q cp 5 ZG fs) (he:enters (pj J) F=true) (hF :∀(f:DFolder) (qa qb:Option Addr) (ca cb:Nat),f.owner.length≤2000000→f.name.length≤2000000→Z0 (pj J) F ([.agg #[str f.owner,str f.name,.slice qa f.grants.length ca,.int .i64 f.next,.slice qb f.mail.length cb]] ++ cap.toList) B (.bool (t f))):Z0 (pj J) 158 [.slice q fs.length cp,.func (.func F) #[] cap] B (.int .i64 (Zbe t fs)):=by
 refine cB 19 Tryz.func158 (h:=?_)
 have hfn:=hf.len
 refine Za (xA (h:=Zd (Za (xM (h:=xV Tryz.underlying39 (h:=xM (h:=Zh (Zv (α:=Nat) [0,1,7] (fun k=>[(8,.int .i64 k)]) [] (fun k=>[]) (fun k Bx=>Bx=B∧k≤fs.length∧∀y,y∈fs.take k→t y=false) (fun k=>fs.length - k) 0 t1 rfl (⟨rfl,Nat.zero_le _,by simp⟩) (fun k B1 hle1 hI=>?_)))))))))
 obtain ⟨rfl,hk,ha⟩:=hI
 refine Zz [(0,_),(1,_),(7,_),(8,_)] [] t4 rfl (Za (ZB (h:=Zd (Zb rfl (fun g1=>?_) (fun g1=>?_)))))
 try simp only [sQ,ne_eq] at g1
 refine wSk (Zd (Zh (Za (xM (h:=xA (h:=Za (xM (h:=xM (h:=xM (h:=?_))))))))))
 obtain ⟨y,hy⟩:=ZM (xs:=fs) (i:=k) om
 obtain ⟨bb3,oo3,rfl⟩:=hf.base hy
 obtain ⟨_,⟨qg4,cg4,qm4,cm4,rfl,hg4,hm4,hb4,hb4b⟩,hc4⟩:=hf.elem hy
 have hg4n:=hg4.len
 have hm4n:=hm4.len
 have hm4s:=Zal hm4
 refine xIx Tryz.underlying39 ZdS (h:=yL [_,_,_,_,_] ZiA hc4 0 (h:=Zk (Zsk rfl rfl he rfl rfl (hF y _ _ _ _ om2 om2) ?_)))
 refine Zb rfl (fun g2=>?_) (fun g2=>?_)
 try simp only [sQ,ne_eq] at g2
 refine Za (xM (h:=xA (h:=Ze (Zu (Zl (ZF (Zu (Zl ?_))))))))
 exact eR t1 ⟨ZE (Zgz hy g2 ha).symm,rfl,rfl⟩
 try simp only [sQ,ne_eq] at g2
 refine ZL (ZI (Zm (Zf (xD (h:=xM (h:=?_))))))
 exact Zy (k+1) [] so2 ⟨rfl,oz,ZaJ hy ha g2⟩ t4 rfl
 try simp only [sQ,ne_eq] at g1
 refine ZA (ZP (ZC (Zs (Zm (Za (xA (h:=Ze ?_)))))))
 exact eR t1 ⟨ZE (Zee (ZaR oz ha)).symm,rfl,rfl⟩

theorem ZsO (b o:Nat) (q1 q2 q3:Option Addr) (c1 c2 c3:Nat) (x:DHost) (ow nm:Str) (ho:ow.length≤2000000) (hn:nm.length≤2000000) (B:Kn) (hh:Zai B b o [str x.domain,.slice q1 x.users.length c1,.slice q2 x.folders.length c2,.int .i64 x.queue.next,.slice q3 x.queue.items.length c3]) (hf:SlK B q2 c2 5 ZG x.folders):Z0 (pj J) 113 [ptr ⟨b,o,none⟩,str ow,str nm] B (.int .i64 (Zbe (inF ow nm) x.folders)):=by
 refine cB 13 Tryz.func113 (h:=?_)
 refine Za (xBx [_] (h:=fun b1=>xBx [_] (h:=fun b2=>xA (h:=tL2 (Za (xM (h:=xNc (h:=xW ZaB (h:=Zk (Zn rfl rfl Zfs rfl (hh _ 2 _ rfl) (Zk (Zcz (xs:=[]) (ys:=[_,_]) rfl rfl rfl rfl (Zk (Zup 0 1 rfl rfl rfl rfl rfl ZxP rfl (Z0.borrow2 fun hm1 hm2=>Zrt _ _ x.folders 159 _ (inF ow nm) _ ((hf.mono ZG.mono (Kn.le_add _ _)).mono ZG.mono (Kn.le_add _ _)) ZxO (fun f qa qb ca cb h1 h2=>ZtS f qa qb ca cb ow nm _ _ h1 h2 ho hn _ (Zip hm1) (Zip hm2))) (xA (h:=Ze ?_))))))))))))))))
 exact eR t1 ⟨rfl,rfl,rfl⟩

theorem Zk1 (b o:Nat) (q1 q2 q3:Option Addr) (c1 c2 c3:Nat) (x:DHost) (B:Kn) (hh:Zai B b o [str x.domain,.slice q1 x.users.length c1,.slice q2 x.folders.length c2,.int .i64 x.queue.next,.slice q3 x.queue.items.length c3]) (hu:SlK B q1 c1 3 ZJ x.users) (hi:SlK B q3 c3 4 ZaA x.queue.items):Z0 (pj J) 128 [ptr ⟨b,o,none⟩] B (.bool (x.queue.items.all (Zcw x.users))):=by
 refine cB 35 Tryz.func128 (h:=?_)
 have hin:=hi.len
 refine Za (xA (h:=Zd (Za (xM (h:=xNc (h:=xW ZeN (h:=xW Zcq (h:=Zk (Zn rfl rfl Zkx rfl (hh _ 4 _ rfl) (xV Tryz.underlying40 (h:=xM (h:=Zh (Zv (α:=Nat) [0,11,12] (fun k=>[(13,.int .i64 k)]) [] (fun k=>[]) (fun k Bx=>Bx=B∧k≤x.queue.items.length∧∀y,y∈x.queue.items.take k→Zcw x.users y=true) (fun k=>x.queue.items.length - k) 0 t1 rfl (⟨rfl,Nat.zero_le _,by simp⟩) (fun k B1 hle1 hI=>?_))))))))))))))
 obtain ⟨rfl,hk,ha⟩:=hI
 refine Zz [(0,_),(11,_),(12,_),(13,_)] [] t4 rfl (Za (ZB (h:=Zd (Zb rfl (fun g1=>?_) (fun g1=>?_)))))
 try simp only [sQ,ne_eq] at g1
 refine wSk (Zd (Zh (Za ?_)))
 obtain ⟨y,hy⟩:=ZM (xs:=x.queue.items) (i:=k) om
 obtain ⟨bb3,oo3,rfl⟩:=hi.base hy
 obtain ⟨_,⟨qi4,ci4,rfl,hi4,hb4,hb4b⟩,hc4⟩:=hi.elem hy
 have hi4n:=hi4.len
 refine xIx Tryz.underlying40 Zcc (h:=yL [_,_,_,_] Ze4 hc4 0 (h:=xAl [_,_,_,_] ZfF (h:=fun b5=>xS [_,_,_,_] 0 [_,_,_,_] Zcc (h:=tL1 (Zd (Za (xM (h:=xW Zei (h:=x1 lk9 0 (h:=xR ZrU rfl (Zgy _ _ _ _ _ _ _ _ x y.fr om2 _ hh hu) (h:=?_)))))))))))
 refine xN (h:=Zb rfl (fun g2=>?_) (fun g2=>?_))
 try simp only [sQ,ne_eq] at g2
 refine Za (xA (h:=Ze (Zl (Zu (Zl (ZF (Zu (Zl ?_))))))))
 exact eR t1 ⟨Zc (Zbr hy (by simp [Zcw,g2])).symm,rfl,rfl⟩
 try simp only [sQ,ne_eq] at g2
 refine wSk (Za (xW Zda (h:=x1 ZfV 0 (h:=xV Tryz.underlying144 (h:=xM (h:=Zh (Zv (α:=Nat) [0,4,11,12,13,14,21,23,24] (fun j=>[(25,.int .i64 j)]) [] (fun j=>[]) (fun j Bx=>Bx=B1∧j≤y.left.length∧∀z,z∈y.left.take j→(Zas x.users z).2=true) (fun j=>y.left.length - j) 0 t1 rfl (⟨rfl,Nat.zero_le _,by simp⟩) (fun j B7 hle7 hI=>?_))))))))
 obtain ⟨rfl,hj,hb⟩:=hI
 refine Zz [(0,_),(4,_),(11,_),(12,_),(13,_),(14,_),(21,_),(23,_),(24,_),(25,_)] [_] t10 rfl (Za (ZB (h:=Zd (Zb rfl (fun g3=>?_) (fun g3=>?_)))))
 try simp only [sQ,ne_eq] at g3
 refine wSk (Zd (Zh (Za ?_)))
 obtain ⟨z,hz⟩:=ZM (xs:=y.left) (i:=j) om
 obtain ⟨bb9,oo9,rfl⟩:=hi4.base hz
 obtain ⟨_,⟨rfl,hb10⟩,hc10⟩:=hi4.elem hz
 refine xIx Tryz.underlying144 sz9 (h:=y1 lk9 hc10 0 (h:=xA (h:=Za (xM (h:=xM (h:=xR ZrU rfl (Zgy _ _ _ _ _ _ _ _ x z om2 _ hh hu) (h:=?_)))))))
 refine xN (h:=Zb rfl (fun g4=>?_) (fun g4=>?_))
 try simp only [sQ,ne_eq] at g4
 refine Za (xA (h:=Ze (Zu (Zl (ZF (Zu (Zu (Zl (ZF (Zu (Zl ?_)))))))))))
 exact eR t1 ⟨Zc (Zbr hy (by rw [Zcw,Zbr hz g4,Bool.and_false])).symm,rfl,rfl⟩
 try simp only [sQ,ne_eq] at g4
 refine ZL (ZI (Zm (Zf (xD (h:=xM (h:=?_))))))
 exact Zy (j+1) [0] so2 ⟨rfl,oz,ZaJ hz hb g4⟩ t10 rfl
 try simp only [sQ,ne_eq] at g3
 refine ZA (ZP (ZC (Zs (ZI (Zm (Zf (xD (h:=xM (h:=?_)))))))))
 exact Zy (k+1) [] so2 ⟨rfl,oz,ZaJ hy ha (by rw [Zcw,g2,Zc5 (ZaR oz hb)];rfl)⟩ t4 rfl
 try simp only [sQ,ne_eq] at g1
 refine ZA (ZP (ZC (Zs (Zm (Za (xA (h:=Ze ?_)))))))
 exact eR t1 ⟨Zc (Zc5 (ZaR oz ha)).symm,rfl,rfl⟩

theorem Zo2 (f g:DFolder) (qa qb qc qd:Option Addr) (ca cb cc cd:Nat) (B:Kn):Z0 (pj J) 137 [.agg #[str f.owner,str f.name,.slice qa f.grants.length ca,.int .i64 f.next,.slice qb f.mail.length cb],.agg #[str g.owner,str g.name,.slice qc g.grants.length cc,.int .i64 g.next,.slice qd g.mail.length cd]] B (.bool (Zft f g)):=by
 refine cB 24 Tryz.func137 (h:=?_)
 refine Za (xBx [_,_,_,_,_] (h:=fun b1=>xBx [_,_,_,_,_] (h:=fun b2=>xA (h:=tL2 (Za (xW ZbS (h:=x1 lk9 0 (h:=xW ZbS (h:=x1 lk9 1 (h:=Zsj (h:=xM (h:=Zt (d:=10) rfl (fun g1=>?_) (fun g1=>?_)))))))))))))
 refine xP (h:=xP (h:=xP (h:=xP (h:=xP (h:=xP (h:=xP (h:=xP (h:=xP (h:=xP (h:=xP (h:=xP (h:=xT (h:=xA (h:=Ze ?_))))))))))))))
 exact eR t1 ⟨Zc (by rw [Bool.eq_iff_iff];simp [Zft,Zc0,g1]),rfl,rfl⟩
 refine xW ZbS (h:=x1 lk9 0 (h:=xW ZbS (h:=x1 lk9 1 (h:=Zdc (h:=xM (h:=Zt (d:=16) rfl (fun g2=>?_) (fun g2=>?_)))))))
 refine xW ZdW (h:=x1 lk9 0 (h:=xW ZdW (h:=x1 lk9 1 (h:=Zsj (h:=xT (h:=xF (h:=xA (h:=Ze ?_))))))))
 exact eR t1 ⟨Zc (by rw [Bool.eq_iff_iff];simp [Zft,Zc0,g1,g2]),rfl,rfl⟩
 refine xP (h:=xP (h:=xP (h:=xP (h:=xP (h:=xF (h:=xF (h:=xA (h:=Ze ?_))))))))
 exact eR t1 ⟨Zc (by rw [Bool.eq_iff_iff];simp [Zft,Zc0,g1,g2]),rfl,rfl⟩

theorem ZkS (q:Option Addr) (cp:Nat) (us:List DUser) (B:Kn) (hu:SlK B q cp 3 ZJ us):Z0 (pj J) 80 [.slice q us.length cp] B (.bool (Zap us)):=by
 refine cB 54 Tryz.func80 (h:=?_)
 have hun:=hu.len
 refine Za (xA (h:=Zd (Za (xA (h:=Zh (Zv (α:=Nat × Str) [0] (fun g=>[(3,.int .i64 g.1)]) [] (fun g=>[]) (fun g Bx=>Bx=B∧g.1≤us.length∧Zdx (us.take g.1)=(true,g.2)∧Prev (fun y=>y.name) ([]:Str) us g.1 g.2) (fun g=>us.length - g.1) (0,[]) t1 rfl (⟨rfl,Nat.zero_le _,Ze0,.zero⟩) (fun g B1 hle1 hI=>?_)))))))
 obtain ⟨rfl,hk,hs,hp⟩:=hI
 refine Zz [(0,_),(3,_)] [] t2 rfl (Zd (Za (xM (h:=xM (h:=xV Tryz.underlying38 (h:=ZB (h:=Zb rfl (fun g1=>?_) (fun g1=>?_))))))))
 try simp only [sQ,ne_eq] at g1
 refine wSk (Zd (Zh (Za (xM (h:=xM (h:=?_))))))
 obtain ⟨m,hm⟩:=ZM (xs:=us) (i:=g.1) om
 obtain ⟨bb3,oo3,rfl⟩:=hu.base hm
 obtain ⟨_,⟨rfl,hb4,hb4b⟩,hc4⟩:=hu.elem hm
 refine xIx Tryz.underlying38 ZbQ (h:=yL [_,_,_] ZeF hc4 0 (h:=xAl [_,_,_] Zfc (h:=fun b5=>xS [_,_,_] 0 [_,_,_] ZbQ (h:=tL1 (Zd (ZY (same _ _) mo kr ⟨rfl,rfl⟩ (fun _ _=>?_)))))))
 refine aW 0 rfl ZaZ (h:=aT 1 rfl (Z9 fun D=>Zn rfl rfl lk9 rfl (atL 0 rfl rfl rfl) r4) (h:=aT 2 rfl (Z9 fun D=>Zaa rfl rfl Zlw rfl (ZbX _ om2 _) r4) (h:=?_)))
 refine aN 3 rfl (h:=aM 4 rfl (h:=Zaq (d:=19) rfl (fun g2=>?_) (fun g2=>?_)))
 try simp only [sQ,ne_eq] at g2
 refine aZ 5 rfl (h:=aZ 6 rfl (h:=aZ 7 rfl (h:=aPT 8 rfl (h:=aM 9 rfl (h:=aZ 10 rfl (h:=aZ 11 rfl (h:=aZ 12 rfl (h:=aZ 13 rfl (h:=aPT 14 rfl (h:=aM 15 rfl (h:=aZ 16 rfl (h:=aZ 17 rfl (h:=aZ 18 rfl (h:=aZ 19 rfl (h:=aPT 20 rfl (h:=aM 21 rfl (h:=aZ 22 rfl (h:=aZ 23 rfl (h:=aZ 24 rfl (h:=aZ 25 rfl (h:=aZ 26 rfl (h:=aZ 27 rfl (h:=aZ 28 rfl (h:=aZ 29 rfl (h:=aZ 30 rfl (h:=aZ 31 rfl (h:=aZ 32 rfl (h:=aZ 33 rfl (h:=aZ 34 rfl (h:=aPT 35 rfl (h:=Zw kr kr ?_)))))))))))))))))))))))))))))))
 refine Zm (Zb (t:=true) rfl (fun _=>Za (xA (h:=Ze (Zu (Zl (ZF (Zu (Zl ?_)))))))) (fun h=>Bool.noConfusion h))
 exact eR t1 ⟨Zc (ZcF hm hs (by simp [ZdZ,Zcl,anyone,g1,g2])).symm,rfl,rfl⟩
 try simp only [sQ,ne_eq] at g2
 refine aW 5 rfl ZaZ (h:=aT 6 rfl (Z9 fun D=>Zn rfl rfl lk9 rfl (atL 0 rfl rfl rfl) r4) (h:=Zqg 7 rfl (h:=aPF 8 rfl (h:=aM 9 rfl (h:=Zaq (d:=24) rfl (fun g3=>?_) (fun g3=>?_))))))
 try simp only [sQ,ne_eq] at g3
 refine aZ 10 rfl (h:=aZ 11 rfl (h:=aZ 12 rfl (h:=aZ 13 rfl (h:=aPT 14 rfl (h:=aM 15 rfl (h:=aZ 16 rfl (h:=aZ 17 rfl (h:=aZ 18 rfl (h:=aZ 19 rfl (h:=aPT 20 rfl (h:=aM 21 rfl (h:=aZ 22 rfl (h:=aZ 23 rfl (h:=aZ 24 rfl (h:=aZ 25 rfl (h:=aZ 26 rfl (h:=aZ 27 rfl (h:=aZ 28 rfl (h:=aZ 29 rfl (h:=aZ 30 rfl (h:=aZ 31 rfl (h:=aZ 32 rfl (h:=aZ 33 rfl (h:=aZ 34 rfl (h:=aPT 35 rfl (h:=Zw kr kr ?_))))))))))))))))))))))))))
 refine Zm (Zb (t:=true) rfl (fun _=>Za (xA (h:=Ze (Zu (Zl (ZF (Zu (Zl ?_)))))))) (fun h=>Bool.noConfusion h))
 exact eR t1 ⟨Zc (ZcF hm hs (by simp [ZdZ,Zcl,anyone,g1,g2,g3])).symm,rfl,rfl⟩
 try simp only [sQ,ne_eq] at g3
 refine aW 10 rfl Zf2 (h:=aT 11 rfl (Z9 fun D=>Zn rfl rfl lk9 rfl (atL 0 rfl rfl rfl) r4) (h:=aT 12 rfl (Z9 fun D=>Zaa rfl rfl Zlw rfl (ZbX _ om2 _) r4) (h:=?_)))
 refine aN 13 rfl (h:=aPF 14 rfl (h:=aM 15 rfl (h:=Zaq (d:=30) rfl (fun g4=>?_) (fun g4=>?_))))
 try simp only [sQ,ne_eq] at g4
 refine aZ 16 rfl (h:=aZ 17 rfl (h:=aZ 18 rfl (h:=aZ 19 rfl (h:=aPT 20 rfl (h:=aM 21 rfl (h:=aZ 22 rfl (h:=aZ 23 rfl (h:=aZ 24 rfl (h:=aZ 25 rfl (h:=aZ 26 rfl (h:=aZ 27 rfl (h:=aZ 28 rfl (h:=aZ 29 rfl (h:=aZ 30 rfl (h:=aZ 31 rfl (h:=aZ 32 rfl (h:=aZ 33 rfl (h:=aZ 34 rfl (h:=aPT 35 rfl (h:=Zw kr kr ?_))))))))))))))))))))
 refine Zm (Zb (t:=true) rfl (fun _=>Za (xA (h:=Ze (Zu (Zl (ZF (Zu (Zl ?_)))))))) (fun h=>Bool.noConfusion h))
 exact eR t1 ⟨Zc (ZcF hm hs (by simp [ZdZ,Zcl,anyone,g1,g2,g3,g4])).symm,rfl,rfl⟩
 try simp only [sQ,ne_eq] at g4
 refine aW 16 rfl ZdL (h:=aT 17 rfl (Z9 fun D=>Zn rfl rfl lk3 rfl (atL 0 rfl rfl rfl) r4) (h:=aT 18 rfl (Z9 fun D=>Zaa rfl rfl Zky rfl (Zcp _ _ _ _) r4) (h:=aN 19 rfl (h:=aPF 20 rfl (h:=aM 21 rfl (h:=Zaq (d:=36) rfl (fun g5=>?_) (fun g5=>?_)))))))
 try simp only [sQ,ne_eq] at g5
 refine aZ 22 rfl (h:=aZ 23 rfl (h:=aZ 24 rfl (h:=aZ 25 rfl (h:=aZ 26 rfl (h:=aZ 27 rfl (h:=aZ 28 rfl (h:=aZ 29 rfl (h:=aZ 30 rfl (h:=aZ 31 rfl (h:=aZ 32 rfl (h:=aZ 33 rfl (h:=aZ 34 rfl (h:=aPT 35 rfl (h:=Zw kr kr ?_))))))))))))))
 refine Zm (Zb (t:=true) rfl (fun _=>Za (xA (h:=Ze (Zu (Zl (ZF (Zu (Zl ?_)))))))) (fun h=>Bool.noConfusion h))
 exact eR t1 ⟨Zc (ZcF hm hs (by simp [ZdZ,Zcl,anyone,g1,g2,g3,g4,g5])).symm,rfl,rfl⟩
 try simp only [sQ,ne_eq] at g5
 refine aM 22 rfl (h:=Zqf 23 rfl (h:=aM 24 rfl (h:=Zaq (d:=39) rfl (fun g6=>?_) (fun g6=>?_))))
 try simp only [sQ,ne_eq] at g6
 refine aM 25 rfl (h:=aM 26 rfl (h:=aU 27 rfl (h:=?_)))
 obtain ⟨y,hy⟩:=ZsF (xs:=us) (i:=(↑g.1 - 1)) om om
 obtain ⟨_,⟨rfl,hb10,hb10b⟩,hc10⟩:=hu.elem hy
 refine aIx 28 rfl Tryz.underlying38 ZbQ (h:=?_)
 have hpe:=hp.at hy oz
 refine aW 29 rfl ZaZ (h:=aT 30 rfl (Z9 fun D=>Zn rfl rfl lk9 rfl (hc10 _ 0 _ rfl) r4) (h:=aW 31 rfl ZaZ (h:=aT 32 rfl (Z9 fun D=>Zn rfl rfl lk9 rfl (atL 0 rfl rfl rfl) r4) (h:=aT 33 rfl (Z9 fun D=>Zsr rfl rfl rfl rfl r4) (h:=aPT 34 rfl (h:=aPF 35 rfl (h:=Zw kr kr ?_)))))))
 refine Zm (Zb rfl (fun g7=>?_) (fun g7=>?_))
 try simp only [sQ,ne_eq] at g7
 refine Za (xA (h:=Ze (Zu (Zl (ZF (Zu (Zl ?_)))))))
 exact eR t1 ⟨Zc (ZcF hm hs (by simp [ZdZ,Zcl,anyone,g1,g2,g3,g4,g5,g6,g7,hpe])).symm,rfl,rfl⟩
 try simp only [sQ,ne_eq] at g7
 refine ZL (ZI (Zm (Zf (xM (h:=xD (h:=xA (h:=?_)))))))
 exact Zy (g.1+1,m.name) [] so2 ⟨rfl,oz,Zb9 hm hs (by rw [hpe];simp [ZdZ,Zcl,anyone,g2,g3,g4,g7];simp at g5;omega),.succ hm⟩ t2 rfl
 try simp only [sQ,ne_eq] at g6
 refine aZ 25 rfl (h:=aZ 26 rfl (h:=aZ 27 rfl (h:=aZ 28 rfl (h:=aZ 29 rfl (h:=aZ 30 rfl (h:=aZ 31 rfl (h:=aZ 32 rfl (h:=aZ 33 rfl (h:=aPF 34 rfl (h:=aPF 35 rfl (h:=Zw kr kr ?_)))))))))))
 refine Zm (Zb (t:=false) rfl (fun h=>Bool.noConfusion h) (fun _=>ZL (ZI (Zm (Zf (xM (h:=xD (h:=xA (h:=?_)))))))))
 exact Zy (g.1+1,m.name) [] so2 ⟨rfl,oz,Zb9 hm hs (by rw [hp.at0 oz];simp [ZdZ,Zcl,anyone,g2,g3,g4,Zma (ZhU g2)];simp at g5;omega),.succ hm⟩ t2 rfl
 try simp only [sQ,ne_eq] at g1
 refine ZA (ZP (ZC (Zs (Zm (Za (xM (h:=xV Tryz.underlying38 (h:=xR Zky rfl (Zcp _ _ _ _) (h:=xA (h:=Ze ?_))))))))))
 exact eR t1 ⟨Zc (by rw [ZgN (ZdE hs oz),Bool.eq_iff_iff];simp;omega),rfl,rfl⟩

theorem Zoo (q:Option Addr) (cp:Nat) (gs:List DGrant) (B:Kn) (hg:SlK B q cp 2 Z1 gs):Z0 (pj J) 136 [.slice q gs.length cp] B (.bool (ZcU gs)):=by
 refine cB 47 Tryz.func136 (h:=?_)
 have hgn:=hg.len
 refine Za (xA (h:=Zd (Za (xA (h:=Zh (Zv (α:=Nat × Str) [0] (fun g=>[(3,.int .i64 g.1)]) [] (fun g=>[]) (fun g Bx=>Bx=B∧g.1≤gs.length∧Zcg (gs.take g.1)=(true,g.2)∧Prev (fun y=>y.user) ([]:Str) gs g.1 g.2) (fun g=>gs.length - g.1) (0,[]) t1 rfl (⟨rfl,Nat.zero_le _,Ze0,.zero⟩) (fun g B1 hle1 hI=>?_)))))))
 obtain ⟨rfl,hk,hs,hp⟩:=hI
 refine Zz [(0,_),(3,_)] [] t2 rfl (Zd (Za (xM (h:=xM (h:=xV Tryz.underlying82 (h:=ZB (h:=Zb rfl (fun g1=>?_) (fun g1=>?_))))))))
 try simp only [sQ,ne_eq] at g1
 refine wSk (Zd (Zh (Zd (ZY (same _ _) mo kr ⟨rfl,rfl⟩ (fun _ _=>?_)))))
 refine aM 0 rfl (h:=aM 1 rfl (h:=?_))
 obtain ⟨m,hm⟩:=ZM (xs:=gs) (i:=g.1) om
 obtain ⟨bb3,oo3,rfl⟩:=hg.base hm
 obtain ⟨_,⟨rfl,hb4⟩,hc4⟩:=hg.elem hm
 refine aIx 2 rfl Tryz.underlying82 Zd0 (h:=aW 3 rfl Zb3 (h:=aT 4 rfl (Z9 fun D=>Zn rfl rfl lk9 rfl (hc4 _ 0 _ rfl) r4) (h:=aT 5 rfl (Z9 fun D=>Zaa rfl rfl Zlw rfl (ZbX _ om2 _) r4) (h:=?_))))
 refine aN 6 rfl (h:=aM 7 rfl (h:=Zaq (d:=17) rfl (fun g2=>?_) (fun g2=>?_)))
 try simp only [sQ,ne_eq] at g2
 refine aZ 8 rfl (h:=aZ 9 rfl (h:=aZ 10 rfl (h:=aZ 11 rfl (h:=aZ 12 rfl (h:=aZ 13 rfl (h:=aZ 14 rfl (h:=aPT 15 rfl (h:=aM 16 rfl (h:=aZ 17 rfl (h:=aZ 18 rfl (h:=aZ 19 rfl (h:=aZ 20 rfl (h:=aZ 21 rfl (h:=aZ 22 rfl (h:=aZ 23 rfl (h:=aZ 24 rfl (h:=aZ 25 rfl (h:=aZ 26 rfl (h:=aZ 27 rfl (h:=aZ 28 rfl (h:=aZ 29 rfl (h:=aZ 30 rfl (h:=aZ 31 rfl (h:=aZ 32 rfl (h:=aPT 33 rfl (h:=Zw kr kr ?_))))))))))))))))))))))))))
 refine Zm (Zb (t:=true) rfl (fun _=>Za (xA (h:=Ze (Zu (Zl (ZF (Zu (Zl ?_)))))))) (fun h=>Bool.noConfusion h))
 exact eR t1 ⟨Zc (ZcR hm hs (by simp [ZbD,g1,g2])).symm,rfl,rfl⟩
 try simp only [sQ,ne_eq] at g2
 refine aM 8 rfl (h:=aM 9 rfl (h:=aIx 10 rfl Tryz.underlying82 Zd0 (h:=aW 11 rfl Zc9 (h:=aT 12 rfl (Z9 fun D=>Zn rfl rfl lk3 rfl (hc4 _ 1 _ rfl) r4) (h:=aT 13 rfl (Z9 fun D=>Zaa rfl rfl Zky rfl (Zcp _ _ _ _) r4) (h:=aN 14 rfl (h:=aPF 15 rfl (h:=aM 16 rfl (h:=Zaq (d:=26) rfl (fun g4=>?_) (fun g4=>?_))))))))))
 try simp only [sQ,ne_eq] at g4
 refine aZ 17 rfl (h:=aZ 18 rfl (h:=aZ 19 rfl (h:=aZ 20 rfl (h:=aZ 21 rfl (h:=aZ 22 rfl (h:=aZ 23 rfl (h:=aZ 24 rfl (h:=aZ 25 rfl (h:=aZ 26 rfl (h:=aZ 27 rfl (h:=aZ 28 rfl (h:=aZ 29 rfl (h:=aZ 30 rfl (h:=aZ 31 rfl (h:=aZ 32 rfl (h:=aPT 33 rfl (h:=Zw kr kr ?_)))))))))))))))))
 refine Zm (Zb (t:=true) rfl (fun _=>Za (xA (h:=Ze (Zu (Zl (ZF (Zu (Zl ?_)))))))) (fun h=>Bool.noConfusion h))
 exact eR t1 ⟨Zc (ZcR hm hs (by simp [ZbD,g1,g2,g4])).symm,rfl,rfl⟩
 try simp only [sQ,ne_eq] at g4
 refine aM 17 rfl (h:=Zqf 18 rfl (h:=aM 19 rfl (h:=Zaq (d:=29) rfl (fun g6=>?_) (fun g6=>?_))))
 try simp only [sQ,ne_eq] at g6
 refine aM 20 rfl (h:=aM 21 rfl (h:=aU 22 rfl (h:=?_)))
 obtain ⟨y,hy⟩:=ZsF (xs:=gs) (i:=(↑g.1 - 1)) om om
 obtain ⟨_,⟨rfl,hb8⟩,hc8⟩:=hg.elem hy
 refine aIx 23 rfl Tryz.underlying82 Zd0 (h:=?_)
 have hpe:=hp.at hy oz
 refine aW 24 rfl Zb3 (h:=aT 25 rfl (Z9 fun D=>Zn rfl rfl lk9 rfl (hc8 _ 0 _ rfl) r4) (h:=aM 26 rfl (h:=aM 27 rfl (h:=aIx 28 rfl Tryz.underlying82 Zd0 (h:=aW 29 rfl Zb3 (h:=aT 30 rfl (Z9 fun D=>Zn rfl rfl lk9 rfl (hc4 _ 0 _ rfl) r4) (h:=aT 31 rfl (Z9 fun D=>Zsr rfl rfl rfl rfl r4) (h:=aPT 32 rfl (h:=aPF 33 rfl (h:=Zw kr kr ?_))))))))))
 refine Zm (Zb rfl (fun g7=>?_) (fun g7=>?_))
 try simp only [sQ,ne_eq] at g7
 refine Za (xA (h:=Ze (Zu (Zl (ZF (Zu (Zl ?_)))))))
 exact eR t1 ⟨Zc (ZcR hm hs (by simp [ZbD,g1,g2,g4,g6,g7,hpe])).symm,rfl,rfl⟩
 try simp only [sQ,ne_eq] at g7
 refine ZL (ZI (Zm (Zf (xM (h:=xD (h:=xA (h:=?_)))))))
 exact Zy (g.1+1,m.user) [] so2 ⟨rfl,oz,Zb9 hm hs (by rw [hpe];simp [ZbD,g2,g7];simp at g4;omega),.succ hm⟩ t2 rfl
 try simp only [sQ,ne_eq] at g6
 refine aZ 20 rfl (h:=aZ 21 rfl (h:=aZ 22 rfl (h:=aZ 23 rfl (h:=aZ 24 rfl (h:=aZ 25 rfl (h:=aZ 26 rfl (h:=aZ 27 rfl (h:=aZ 28 rfl (h:=aZ 29 rfl (h:=aZ 30 rfl (h:=aZ 31 rfl (h:=aPF 32 rfl (h:=aPF 33 rfl (h:=Zw kr kr ?_))))))))))))))
 refine Zm (Zb (t:=false) rfl (fun h=>Bool.noConfusion h) (fun _=>ZL (ZI (Zm (Zf (xM (h:=xD (h:=xA (h:=?_)))))))))
 exact Zy (g.1+1,m.user) [] so2 ⟨rfl,oz,Zb9 hm hs (by rw [hp.at0 oz];simp [ZbD,g2,Zma (ZhU g2)];simp at g4;omega),.succ hm⟩ t2 rfl
 try simp only [sQ,ne_eq] at g1
 refine ZA (ZP (ZC (Zs (Zm (Za (xM (h:=xV Tryz.underlying82 (h:=Zbs (h:=xA (h:=Ze ?_))))))))))
 exact eR t1 ⟨Zc (by rw [Zkt (ZdE hs oz),Bool.eq_iff_iff];simp;try omega),rfl,rfl⟩

theorem Zm5 (q1 q2 q3:Option Addr) (c1 c2 c3:Nat) (x:DHost) (q:Option Addr) (cp:Nat) (ns:List Str) (B:Kn) (hu:SlK B q1 c1 3 ZJ x.users) (hn:SlK B q cp 1 Zdt ns):Z0 (pj J) 85 [.agg #[str x.domain,.slice q1 x.users.length c1,.slice q2 x.folders.length c2,.int .i64 x.queue.next,.slice q3 x.queue.items.length c3],.slice q ns.length cp] B (.bool (Zj0 x.users ns)):=by
 refine cB 20 Tryz.func85 (h:=?_)
 have hnn:=hn.len
 have hun:=hu.len
 refine Za (xBx [_,_,_,_,_] (h:=fun b1=>xA (h:=tL1 (Zd (Za (xA (h:=Zh (Zv (α:=Nat) [0,1,2] (fun k=>[(5,.int .i64 k)]) [] (fun k=>[]) (fun k Bx=>Bx=B∧k≤ns.length∧∀z,z∈ns.take k→decide (0≤Zgi x.users z)=true) (fun k=>ns.length - k) 0 t1 rfl (⟨rfl,Nat.zero_le _,by simp⟩) (fun k B2 hle2 hI=>?_)))))))))
 obtain ⟨rfl,hk,ha⟩:=hI
 refine Zz [(0,_),(1,_),(2,_),(5,_)] [_] t4 rfl (Zd (Za (xM (h:=xM (h:=xV Tryz.underlying144 (h:=ZB (h:=Zb rfl (fun g1=>?_) (fun g1=>?_))))))))
 try simp only [sQ,ne_eq] at g1
 refine wSk (Zd (Zh (Zd (ZY (same _ _) mo kr ⟨rfl,rfl⟩ (fun _ _=>?_)))))
 refine aW 0 rfl ZbU (h:=aT 1 rfl (Z9 fun D=>Zn rfl rfl ZjW rfl (atL 0 rfl rfl rfl) r4) (h:=aM 2 rfl (h:=aM 3 rfl (h:=?_))))
 obtain ⟨z,hz⟩:=ZM (xs:=ns) (i:=k) om
 obtain ⟨bb4,oo4,rfl⟩:=hn.base hz
 obtain ⟨_,⟨rfl,hb5⟩,hc5⟩:=hn.elem hz
 refine aIx 4 rfl Tryz.underlying144 sz9 (h:=aT 5 rfl (Z9 fun D=>Zn rfl rfl lk9 rfl (hc5 _ 0 _ rfl) r4) (h:=aT 6 rfl (Z9 fun D=>Zaa rfl rfl Zv6 rfl (Zfu _ _ _ _ _ hu) r4) (h:=Zse 7 rfl (h:=Zw kr kr ?_))))
 refine Zm (Zb rfl (fun g2=>?_) (fun g2=>?_))
 try simp only [sQ,ne_eq] at g2
 refine Za (xA (h:=Ze (Zu (Zl (ZF (Zu (Zl ?_)))))))
 exact eR t1 ⟨Zc (Zbr hz (by simp;omega)).symm,rfl,rfl⟩
 try simp only [sQ,ne_eq] at g2
 refine ZL (ZI (Zm (Zf (xM (h:=xD (h:=xA (h:=?_)))))))
 exact Zy (k+1) [0] so2 ⟨rfl,oz,ZaJ hz ha (by simp;omega)⟩ t4 rfl
 try simp only [sQ,ne_eq] at g1
 refine ZA (ZP (ZC (Zs (Zm (Za (xA (h:=Ze ?_)))))))
 exact eR t1 ⟨Zc (Zc5 (ZaR oz ha)).symm,rfl,rfl⟩

theorem Zo1 (q1 q2 q3:Option Addr) (c1 c2 c3:Nat) (x:DHost) (u:Str) (B:Kn) (hf:SlK B q2 c2 5 ZG x.folders):Z0 (pj J) 83 [.agg #[str x.domain,.slice q1 x.users.length c1,.slice q2 x.folders.length c2,.int .i64 x.queue.next,.slice q3 x.queue.items.length c3],str u] B (.int .i64 (Zfh x.folders u)):=by
 refine cB 32 Tryz.func83 (h:=?_)
 have hfn:=hf.len
 refine Za (xBx [_,_,_,_,_] (h:=fun b1=>xA (h:=tL1 (Za (xA (h:=Zd (Za (xA (h:=Zh (Zv (α:=Nat × Nat) [0,1,2,4] (fun g=>[(5,.int .i64 g.2),(6,.int .i64 g.1)]) [] (fun g=>[]) (fun g Bx=>Bx=B∧g.1≤x.folders.length∧g.2=Zfh (x.folders.take g.1) u∧g.2≤g.1*4000000000000) (fun g=>x.folders.length - g.1) (0,0) t2 rfl (⟨rfl,Nat.zero_le _,by simp [Zfh],oz⟩) (fun g B2 hle2 hI=>?_)))))))))))
 obtain ⟨rfl,hk,hs,hl⟩:=hI
 refine Zz [(0,_),(1,_),(2,_),(4,_),(5,_),(6,_)] [_] t6 rfl (Zd (Za (xM (h:=xW ZaB (h:=x1 Zfs 0 (h:=xV Tryz.underlying39 (h:=ZB (h:=Zb rfl (fun g1=>?_) (fun g1=>?_)))))))))
 try simp only [sQ,ne_eq] at g1
 refine wSk (Zd (Zh (Za (xW ZaB (h:=x1 Zfs 0 (h:=xM (h:=?_)))))))
 obtain ⟨m,hm⟩:=ZM (xs:=x.folders) (i:=g.1) om
 obtain ⟨bb4,oo4,rfl⟩:=hf.base hm
 obtain ⟨_,⟨qg5,cg5,qm5,cm5,rfl,hg5,hm5,hb5,hb5b⟩,hc5⟩:=hf.elem hm
 have hg5n:=hg5.len
 have hm5n:=hm5.len
 have hm5s:=Zal hm5
 refine xIx Tryz.underlying39 ZdS (h:=xW ZbS (h:=y1 lk9 hc5 0 (h:=xM (h:=Zdc (h:=Zb rfl (fun g2=>?_) (fun g2=>?_))))))
 try simp only [sQ,ne_eq] at g2
 refine Zf (xM (h:=xW ZaB (h:=x1 Zfs 0 (h:=xM (h:=xIx Tryz.underlying39 ZdS (h:=xW Zc1 (h:=yL [_,_] ZnB hc5 3 (h:=xR Zx6 rfl (Zo3 _ _ (⟨m.next,m.mail⟩:DBox) _ hm5) (h:=xD (h:=xA (h:=ZI (Zm (Zf (xM (h:=xD (h:=xA (h:=?_)))))))))))))))))
 exact Zy (g.1+1,g.2+Zbh m.mail) [0] so2 ⟨rfl,so,by rw [ZhJ hm,← hs,if_pos g2],so⟩ t6 rfl
 try simp only [sQ,ne_eq] at g2
 refine ZL (ZI (Zm (Zf (xM (h:=xD (h:=xA (h:=?_)))))))
 exact Zy (g.1+1,g.2) [0] so2 ⟨rfl,so,by rw [ZhJ hm,← hs,if_neg g2];simp only [Nat.add_zero],Nat.le_trans hl (Nat.mul_le_mul_right _ (Nat.le_succ _))⟩ t6 rfl
 try simp only [sQ,ne_eq] at g1
 refine ZA (ZP (ZC (Zs (Zm (Za (xM (h:=xA (h:=Ze ?_))))))))
 exact eR t1 ⟨ZE (by rw [← Zn2 hs oz]),rfl,rfl⟩

theorem ZjY (q1 q2 q3:Option Addr) (c1 c2 c3:Nat) (x:DHost) (B:Kn) (hu:SlK B q1 c1 3 ZJ x.users) (hf:SlK B q2 c2 5 ZG x.folders):Z0 (pj J) 82 [.agg #[str x.domain,.slice q1 x.users.length c1,.slice q2 x.folders.length c2,.int .i64 x.queue.next,.slice q3 x.queue.items.length c3]] B (.bool (ZbM x.users x.folders)):=by
 refine cB 60 Tryz.func82 (h:=?_)
 have hfn:=hf.len
 have hun:=hu.len
 refine Za (xBx [_,_,_,_,_] (h:=fun b1=>xA (h:=tL1 (Zd (Za (xA (h:=Zh (Zv (α:=Nat × Option DFolder) [0,1] (fun g=>[(3,.int .i64 g.1)]) [] (fun g=>[]) (fun g Bx=>Bx=B∧g.1≤x.folders.length∧ZcB x.users (x.folders.take g.1)=(true,g.2)∧Prev some none x.folders g.1 g.2) (fun g=>x.folders.length - g.1) (0,none) t1 rfl (⟨rfl,Nat.zero_le _,Ze0,.zero⟩) (fun g B2 hle2 hI=>?_)))))))))
 obtain ⟨rfl,hk,hs,hp⟩:=hI
 refine Zz [(0,_),(1,_),(3,_)] [_] t3 rfl (Zd (Za (xM (h:=xW ZaB (h:=x1 Zfs 0 (h:=xV Tryz.underlying39 (h:=ZB (h:=Zb rfl (fun g1=>?_) (fun g1=>?_)))))))))
 try simp only [sQ,ne_eq] at g1
 refine wSk (Zd (Zh (Za (xW ZaB (h:=x1 Zfs 0 (h:=xM (h:=?_)))))))
 obtain ⟨m,hm⟩:=ZM (xs:=x.folders) (i:=g.1) om
 obtain ⟨bb4,oo4,rfl⟩:=hf.base hm
 obtain ⟨_,⟨qg5,cg5,qm5,cm5,rfl,hg5,hm5,hb5,hb5b⟩,hc5⟩:=hf.elem hm
 have hg5n:=hg5.len
 have hm5n:=hm5.len
 have hm5s:=Zal hm5
 refine xIx Tryz.underlying39 ZdS (h:=yL [_,_,_,_,_] ZiA hc5 0 (h:=xAl [_,_,_,_,_] Zny (h:=fun b6=>xS [_,_,_,_,_] 1 [_,_,_,_,_] ZdS (h:=tL2 (Zd (ZY (same _ _) mo kr ⟨rfl,rfl⟩ (fun _ _=>?_)))))))
 refine aW 0 rfl ZbU (h:=aT 1 rfl (Z9 fun D=>Zn rfl rfl ZjW rfl (atL 0 rfl rfl rfl) r4) (h:=aW 2 rfl ZbS (h:=aT 3 rfl (Z9 fun D=>Zn rfl rfl lk9 rfl (atL 1 rfl rfl rfl) r4) (h:=aT 4 rfl (Z9 fun D=>Zaa rfl rfl Zv6 rfl (Zfu _ _ _ _ _ hu) r4) (h:=Zse 5 rfl (h:=aM 6 rfl (h:=Zaq (d:=23) rfl (fun g2=>?_) (fun g2=>?_))))))))
 try simp only [sQ,ne_eq] at g2
 refine aZ 7 rfl (h:=aZ 8 rfl (h:=aZ 9 rfl (h:=aZ 10 rfl (h:=aPT 11 rfl (h:=aM 12 rfl (h:=aZ 13 rfl (h:=aZ 14 rfl (h:=aZ 15 rfl (h:=aZ 16 rfl (h:=aPT 17 rfl (h:=aM 18 rfl (h:=aZ 19 rfl (h:=aZ 20 rfl (h:=aZ 21 rfl (h:=aZ 22 rfl (h:=aPT 23 rfl (h:=aM 24 rfl (h:=aZ 25 rfl (h:=aZ 26 rfl (h:=aZ 27 rfl (h:=aZ 28 rfl (h:=aZ 29 rfl (h:=aZ 30 rfl (h:=aZ 31 rfl (h:=aZ 32 rfl (h:=aZ 33 rfl (h:=aZ 34 rfl (h:=aZ 35 rfl (h:=aZ 36 rfl (h:=aZ 37 rfl (h:=aPT 38 rfl (h:=Zw kr kr ?_))))))))))))))))))))))))))))))))
 refine Zm (Zb (t:=true) rfl (fun _=>Za (xA (h:=Ze (Zu (Zl (ZF (Zu (Zl ?_)))))))) (fun h=>Bool.noConfusion h))
 exact eR t1 ⟨Zc (ZbL hm hs (by simp [Za7,Z2,DFolder.box,g1,g2];try omega)).symm,rfl,rfl⟩
 try simp only [sQ,ne_eq] at g2
 refine aW 7 rfl ZdW (h:=aT 8 rfl (Z9 fun D=>Zn rfl rfl lk9 rfl (atL 1 rfl rfl rfl) r4) (h:=aT 9 rfl (Z9 fun D=>Zaa rfl rfl Zlw rfl (ZbX _ om2 _) r4) (h:=?_)))
 refine aN 10 rfl (h:=aPF 11 rfl (h:=aM 12 rfl (h:=Zaq (d:=29) rfl (fun g3=>?_) (fun g3=>?_))))
 try simp only [sQ,ne_eq] at g3
 refine aZ 13 rfl (h:=aZ 14 rfl (h:=aZ 15 rfl (h:=aZ 16 rfl (h:=aPT 17 rfl (h:=aM 18 rfl (h:=aZ 19 rfl (h:=aZ 20 rfl (h:=aZ 21 rfl (h:=aZ 22 rfl (h:=aPT 23 rfl (h:=aM 24 rfl (h:=aZ 25 rfl (h:=aZ 26 rfl (h:=aZ 27 rfl (h:=aZ 28 rfl (h:=aZ 29 rfl (h:=aZ 30 rfl (h:=aZ 31 rfl (h:=aZ 32 rfl (h:=aZ 33 rfl (h:=aZ 34 rfl (h:=aZ 35 rfl (h:=aZ 36 rfl (h:=aZ 37 rfl (h:=aPT 38 rfl (h:=Zw kr kr ?_))))))))))))))))))))))))))
 refine Zm (Zb (t:=true) rfl (fun _=>Za (xA (h:=Ze (Zu (Zl (ZF (Zu (Zl ?_)))))))) (fun h=>Bool.noConfusion h))
 exact eR t1 ⟨Zc (ZbL hm hs (by simp [Za7,Z2,DFolder.box,g1,g2,g3];try omega)).symm,rfl,rfl⟩
 try simp only [sQ,ne_eq] at g3
 refine aW 13 rfl ZeM (h:=aT 14 rfl (Z9 fun D=>Zn rfl rfl ZsB rfl (atL 1 rfl rfl rfl) r4) (h:=aT 15 rfl (Z9 fun D=>Zaa rfl rfl Zx8 rfl (Zoo _ _ _ _ hg5) r4) (h:=aN 16 rfl (h:=aPF 17 rfl (h:=aM 18 rfl (h:=Zaq (d:=35) rfl (fun g4=>?_) (fun g4=>?_)))))))
 try simp only [sQ,ne_eq] at g4
 refine aZ 19 rfl (h:=aZ 20 rfl (h:=aZ 21 rfl (h:=aZ 22 rfl (h:=aPT 23 rfl (h:=aM 24 rfl (h:=aZ 25 rfl (h:=aZ 26 rfl (h:=aZ 27 rfl (h:=aZ 28 rfl (h:=aZ 29 rfl (h:=aZ 30 rfl (h:=aZ 31 rfl (h:=aZ 32 rfl (h:=aZ 33 rfl (h:=aZ 34 rfl (h:=aZ 35 rfl (h:=aZ 36 rfl (h:=aZ 37 rfl (h:=aPT 38 rfl (h:=Zw kr kr ?_))))))))))))))))))))
 refine Zm (Zb (t:=true) rfl (fun _=>Za (xA (h:=Ze (Zu (Zl (ZF (Zu (Zl ?_)))))))) (fun h=>Bool.noConfusion h))
 exact eR t1 ⟨Zc (ZbL hm hs (by simp [Za7,Z2,DFolder.box,g1,g2,g3,g4];try omega)).symm,rfl,rfl⟩
 try simp only [sQ,ne_eq] at g4
 refine aW 19 rfl Zc1 (h:=aT 20 rfl (Z9 fun D=>ZR [_,_] rfl rfl ZnB rfl (Zct 1 rfl rfl rfl) r4) (h:=aT 21 rfl (Z9 fun D=>Zaa rfl rfl Zym rfl (Zon _ _ (⟨m.next,m.mail⟩:DBox) _ hm5) r4) (h:=aN 22 rfl (h:=aPF 23 rfl (h:=aM 24 rfl (h:=Zaq (d:=41) rfl (fun g5=>?_) (fun g5=>?_)))))))
 try simp only [sQ,ne_eq] at g5
 refine aZ 25 rfl (h:=aZ 26 rfl (h:=aZ 27 rfl (h:=aZ 28 rfl (h:=aZ 29 rfl (h:=aZ 30 rfl (h:=aZ 31 rfl (h:=aZ 32 rfl (h:=aZ 33 rfl (h:=aZ 34 rfl (h:=aZ 35 rfl (h:=aZ 36 rfl (h:=aZ 37 rfl (h:=aPT 38 rfl (h:=Zw kr kr ?_))))))))))))))
 refine Zm (Zb (t:=true) rfl (fun _=>Za (xA (h:=Ze (Zu (Zl (ZF (Zu (Zl ?_)))))))) (fun h=>Bool.noConfusion h))
 exact eR t1 ⟨Zc (ZbL hm hs (by simp [Za7,Z2,DFolder.box,g1,g2,g3,g4,g5];try omega)).symm,rfl,rfl⟩
 try simp only [sQ,ne_eq] at g5
 refine aM 25 rfl (h:=Zqf 26 rfl (h:=aM 27 rfl (h:=Zaq (d:=44) rfl (fun g6=>?_) (fun g6=>?_))))
 try simp only [sQ,ne_eq] at g6
 refine aW 28 rfl ZaB (h:=aT 29 rfl (Z9 fun D=>Zn rfl rfl Zfs rfl (atL 0 rfl rfl rfl) r4) (h:=aM 30 rfl (h:=aU 31 rfl (h:=?_))))
 obtain ⟨y,hy⟩:=ZsF (xs:=x.folders) (i:=(↑g.1 - 1)) om om
 obtain ⟨_,⟨qg12,cg12,qm12,cm12,rfl,hg12,hm12,hb12,hb12b⟩,hc12⟩:=hf.elem hy
 have hg12n:=hg12.len
 have hm12n:=hm12.len
 have hm12s:=Zal hm12
 refine aIx 32 rfl Tryz.underlying39 ZdS (h:=?_)
 have hpe:=hp.at hy oz
 refine aT 33 rfl (Z9 fun D=>ZR [_,_,_,_,_] rfl rfl ZiA rfl (Zi8 hc12 0 rfl rfl) r4) (h:=aT 34 rfl (Z9 fun D=>ZR [_,_,_,_,_] rfl rfl ZiA rfl (Zct 1 rfl rfl rfl) r4) (h:=aT 35 rfl (Z9 fun D=>Zaa rfl rfl Zx7 rfl (Zo2 y m _ _ _ _ _ _ _ _ _) r4) (h:=aN 36 rfl (h:=aPT 37 rfl (h:=aPF 38 rfl (h:=Zw kr kr ?_))))))
 refine Zm (Zb rfl (fun g7=>?_) (fun g7=>?_))
 try simp only [sQ,ne_eq] at g7
 refine Za (xA (h:=Ze (Zu (Zl (ZF (Zu (Zl ?_)))))))
 exact eR t1 ⟨Zc (ZbL hm hs (by simp [Za7,Z2,DFolder.box,g1,g2,g3,g4,g5,g6,g7,hpe];try omega)).symm,rfl,rfl⟩
 try simp only [sQ,ne_eq] at g7
 refine ZL (ZI (Zm (Zf (xM (h:=xD (h:=xA (h:=?_)))))))
 exact Zy (g.1+1,some m) [0] so2 ⟨rfl,oz,Zb9 hm hs (by rw [hpe];simp [Za7,Z2,DFolder.box,g3,g4,g5,g7];omega),.succ hm⟩ t3 rfl
 try simp only [sQ,ne_eq] at g6
 refine aZ 28 rfl (h:=aZ 29 rfl (h:=aZ 30 rfl (h:=aZ 31 rfl (h:=aZ 32 rfl (h:=aZ 33 rfl (h:=aZ 34 rfl (h:=aZ 35 rfl (h:=aZ 36 rfl (h:=aPF 37 rfl (h:=aPF 38 rfl (h:=Zw kr kr ?_)))))))))))
 refine Zm (Zb (t:=false) rfl (fun h=>Bool.noConfusion h) (fun _=>ZL (ZI (Zm (Zf (xM (h:=xD (h:=xA (h:=?_)))))))))
 exact Zy (g.1+1,some m) [0] so2 ⟨rfl,oz,Zb9 hm hs (by rw [hp.at0 oz];simp [Za7,Z2,DFolder.box,g3,g4,g5];omega),.succ hm⟩ t3 rfl
 try simp only [sQ,ne_eq] at g1
 refine ZA (ZP (ZC (Zs (Zm (Za (xW ZaB (h:=x1 Zfs 0 (h:=xV Tryz.underlying39 (h:=Zbs (h:=xA (h:=Ze ?_)))))))))))
 exact eR t1 ⟨Zc (by rw [ZiM (ZdE hs oz),Bool.eq_iff_iff];simp;try omega),rfl,rfl⟩

end Go.Proofs.YtbebcagblefhcaaGreatDoor
