/-
  WHAT THE FUNCTIONS THAT THE LAWS REACH COMPUTE: each function's contract, proved off its printed body (the text is written by program). No condition beyond those that each theorem states.
-/
import Derived.Test.YtbebcagblefhcaaGreatDoorRows
import Derived.Test.YtbebcagblefhcaaGreatDoorL0
import Derived.KernelRfl
namespace Go.Proofs.YtbebcagblefhcaaGreatDoor
open Go Go.BL
set_option linter.unusedVariables false
set_option linter.unusedSimpArgs false
noncomputable abbrev pj (J : JoinT) : PJ := ⟨Tryz.prog, J⟩
noncomputable abbrev wgL : Go.Conc.Lib.WgLink := { add := 180, done := 182, wait := 185, relMerge := 224, disable := 225, enable := 226, inBubble := 227, associate := 228, fatal := 229, uOr := 230, uAdd := 231, raceRead := 232, uLoad := 233, uStore := 234, disassociate := 235, semrelease := 236, acquire := 237, isAssociated := 238, uCas := 239, raceWrite := 240, semacquire := 241, orU64 := 269, addU64 := 270, loadU64 := 271, storeU64 := 272, casU64 := 273, tWg := 260, tUP := 301, tAssoc := 302, tAU := 258, tU64 := 256, tUint := 306, tU32 := 158, tNoCopy := 157, tANoCopy := 254, tAlign64 := 255, tWgP := 299, tPU32 := 307, tPAU := 359, tPU64 := 361 }
theorem Zmt : Go.Conc.Lib.WgLib Tryz.prog wgL :=
  ⟨Tryz.func180, Tryz.func182, Tryz.func185, Tryz.func224, Tryz.func225, Tryz.func226, Tryz.func227, Tryz.func228, Tryz.func229, Tryz.func230, Tryz.func231, Tryz.func232, Tryz.func233, Tryz.func234, Tryz.func235, Tryz.func236, Tryz.func237, Tryz.func238, Tryz.func239, Tryz.func240, Tryz.func241, Tryz.func269, Tryz.func270, Tryz.func271, Tryz.func272, Tryz.func273, Tryz.underlying299, Tryz.runUnderlying299, Tryz.sizeOf299, Tryz.isAgg299, Tryz.zeroValue299, Tryz.underlying301, Tryz.runUnderlying301, Tryz.sizeOf301, Tryz.isAgg301, Tryz.zeroValue301, Tryz.underlying302, Tryz.runUnderlying302, Tryz.sizeOf302, Tryz.isAgg302, Tryz.zeroValue302, Tryz.underlying260, Tryz.runUnderlying260, Tryz.sizeOf260, Tryz.isAgg260, Tryz.zeroValue260, Tryz.underlying258, Tryz.runUnderlying258, Tryz.sizeOf258, Tryz.isAgg258, Tryz.zeroValue258, Tryz.underlying256, Tryz.runUnderlying256, Tryz.sizeOf256, Tryz.isAgg256, Tryz.zeroValue256, Tryz.underlying306, Tryz.runUnderlying306, Tryz.sizeOf306, Tryz.isAgg306, Tryz.zeroValue306, Tryz.underlying158, Tryz.runUnderlying158, Tryz.sizeOf158, Tryz.isAgg158, Tryz.zeroValue158, Tryz.underlying307, Tryz.runUnderlying307, Tryz.sizeOf307, Tryz.isAgg307, Tryz.zeroValue307, Tryz.underlying359, Tryz.runUnderlying359, Tryz.sizeOf359, Tryz.isAgg359, Tryz.zeroValue359, Tryz.underlying361, Tryz.runUnderlying361, Tryz.sizeOf361, Tryz.isAgg361, Tryz.zeroValue361, Tryz.underlying0, Tryz.runUnderlying0, Tryz.sizeOf0, Tryz.isAgg0, Tryz.zeroValue0, Tryz.underlying3, Tryz.runUnderlying3, Tryz.sizeOf3, Tryz.isAgg3, Tryz.zeroValue3, Tryz.underlying4, Tryz.runUnderlying4, Tryz.sizeOf4, Tryz.isAgg4, Tryz.zeroValue4, Tryz.underlying9, Tryz.runUnderlying9, Tryz.sizeOf9, Tryz.isAgg9, Tryz.zeroValue9, Tryz.underlying20, Tryz.runUnderlying20, Tryz.sizeOf20, Tryz.isAgg20, Tryz.zeroValue20, Tryz.underlying21, Tryz.runUnderlying21, Tryz.sizeOf21, Tryz.isAgg21, Tryz.zeroValue21, (by kernel_rfl), (by kernel_rfl)⟩
abbrev muL : Go.Conc.Locks.MuLink := { lock := 145, unlock := 146, ilock := 199, iunlock := 200, lockSlow := 249, unlockSlow := 251, disable := 225, enable := 226, acquire := 237, relMerge := 224, cas32 := 248, add32 := 250, tMutex := 162, tIMutex := 160, tPMutex := 277, tPIMutex := 337, tPI32 := 339, tUP := 301, tNoCopy := 157, tU32 := 158 }
theorem ZsD : Go.Conc.Locks.MuLib Tryz.prog muL :=
  ⟨Tryz.func145, Tryz.func146, Tryz.func199, Tryz.func200, Tryz.func225, Tryz.func226, Tryz.func237, Tryz.func224, Tryz.func248, Tryz.func250, Tryz.underlying160, Tryz.runUnderlying160, Tryz.sizeOf160, Tryz.isAgg160, Tryz.zeroValue160, Tryz.underlying162, Tryz.runUnderlying162, Tryz.sizeOf162, Tryz.isAgg162, Tryz.zeroValue162, Tryz.underlying277, Tryz.runUnderlying277, Tryz.sizeOf277, Tryz.isAgg277, Tryz.zeroValue277, Tryz.underlying337, Tryz.runUnderlying337, Tryz.sizeOf337, Tryz.isAgg337, Tryz.zeroValue337, Tryz.underlying339, Tryz.runUnderlying339, Tryz.sizeOf339, Tryz.isAgg339, Tryz.zeroValue339, Tryz.underlying301, Tryz.runUnderlying301, Tryz.sizeOf301, Tryz.isAgg301, Tryz.zeroValue301, Tryz.underlying157, Tryz.runUnderlying157, Tryz.sizeOf157, Tryz.isAgg157, Tryz.zeroValue157, Tryz.underlying21, Tryz.runUnderlying21, Tryz.sizeOf21, Tryz.isAgg21, Tryz.zeroValue21, (by kernel_rfl)⟩
theorem ZjW : enters Tryz.prog 86 = true := by kernel_rfl
theorem mo : Tryz.prog.follows .mixedOrders = true := by kernel_rfl
theorem Zcp : ZF Tryz.prog 248 1 = some 1 := by kernel_rfl
theorem lk3 : lk Tryz.prog 3 = some none := by kernel_rfl
theorem ZgT : ZF Tryz.prog 248 0 = some 0 := by kernel_rfl
theorem lk9 : lk Tryz.prog 9 = some none := by kernel_rfl
theorem Ztg : enters Tryz.prog 175 = true := by kernel_rfl
theorem sz3 : Z9 Tryz.prog 3 = some 1 := by kernel_rfl
theorem Zyi : enters Tryz.prog 264 = true := by kernel_rfl
theorem Zve : enters Tryz.prog 218 = true := by kernel_rfl
theorem Zyz : enters Tryz.prog 219 = true := by kernel_rfl
theorem Zwg : ZaL Tryz.prog 248 = some [(0, 1), (1, 1)] := by kernel_rfl
theorem ZrV : Zaq Tryz.prog 248 = some (.agg #[.string ⟨#[]⟩, .int .i64 0]) := by kernel_rfl
theorem Zwb : Z9 Tryz.prog 248 = some 2 := by kernel_rfl
theorem sz5 : Z9 Tryz.prog 5 = some 1 := by kernel_rfl
theorem Zwh : ZaL Tryz.prog 198 = some [(0, 1), (1, 1)] := by kernel_rfl
theorem ZvD : Zaq Tryz.prog 198 = some (.agg #[.slice none 0 0, .int .i64 0]) := by kernel_rfl
theorem Znm : ZF Tryz.prog 198 1 = some 1 := by kernel_rfl
theorem Zff : ZF Tryz.prog 198 0 = some 0 := by kernel_rfl
theorem ZtV : lk Tryz.prog 66 = some none := by kernel_rfl
theorem lk5 : lk Tryz.prog 5 = some none := by kernel_rfl
theorem Z6 : enters Tryz.prog 117 = true := by kernel_rfl
theorem sz9 : Z9 Tryz.prog 9 = some 1 := by kernel_rfl
theorem zo9 : Zaq Tryz.prog 9 = some (.string ⟨#[]⟩) := by kernel_rfl
theorem Zgy : enters Tryz.prog 173 = true := by kernel_rfl
theorem ZgY : ZcL Tryz.prog 144 9 1 16 = true := by kernel_rfl
theorem ZgG : (match Program.underlying Tryz.prog 144 with | some (.slice _) => true | _ => false) = true := by kernel_rfl
theorem Zze : enters Tryz.prog 133 = true := by kernel_rfl
theorem ZkK : enters Tryz.prog 134 = true := by kernel_rfl
theorem ZbQ : Z9 Tryz.prog 142 = some 3 := by kernel_rfl
theorem Zb7 : ZF Tryz.prog 142 0 = some 0 := by kernel_rfl
theorem ZwE : enters Tryz.prog 244 = true := by kernel_rfl
theorem ZiY : ZF Tryz.prog 211 0 = some 0 := by kernel_rfl
theorem ZiX : ZF Tryz.prog 211 1 = some 1 := by kernel_rfl
theorem Zda : lk Tryz.prog 144 = some none := by kernel_rfl
theorem ZyI : enters Tryz.prog 192 = true := by kernel_rfl
theorem Znl : ZF Tryz.prog 211 2 = some 2 := by kernel_rfl
theorem Zyc : enters Tryz.prog 284 = true := by kernel_rfl
theorem Zl7 : enters Tryz.prog 183 = true := by kernel_rfl
theorem Zyh : enters Tryz.prog 265 = true := by kernel_rfl
theorem Zyy : enters Tryz.prog 220 = true := by kernel_rfl
theorem ZaC : ZF Tryz.prog 42 1 = some 1 := by kernel_rfl
theorem Ze7 : lk Tryz.prog 40 = some none := by kernel_rfl
theorem Zbn : Z9 Tryz.prog 146 = some 4 := by kernel_rfl
theorem Zec : lk Tryz.prog 146 = some (some 4) := by kernel_rfl
theorem Zc1 : Zaq Tryz.prog 146 = some (.agg #[.int .i64 0, .string ⟨#[]⟩, .string ⟨#[]⟩, .slice none 0 0]) := by kernel_rfl
theorem ZdE : ZF Tryz.prog 146 0 = some 0 := by kernel_rfl
theorem ZkH : ZF Tryz.prog 146 1 = some 1 := by kernel_rfl
theorem ZaR : ZF Tryz.prog 146 3 = some 3 := by kernel_rfl
theorem Znn : ZF Tryz.prog 146 2 = some 2 := by kernel_rfl
theorem Zsv : ZaL Tryz.prog 211 = some [(0, 1), (1, 1), (2, 1)] := by kernel_rfl
theorem Zov : Zaq Tryz.prog 211 = some (.agg #[.string ⟨#[]⟩, .slice none 0 0, .string ⟨#[]⟩]) := by kernel_rfl
theorem Zvj : enters Tryz.prog 135 = true := by kernel_rfl
theorem ZeU : ZF Tryz.prog 42 0 = some 0 := by kernel_rfl
theorem Zyq : enters Tryz.prog 255 = true := by kernel_rfl
theorem ZhA : Zaq Tryz.prog 42 = some (.agg #[.int .i64 0, .slice none 0 0]) := by kernel_rfl
theorem ZtQ : ZaL Tryz.prog 42 = some [(0, 1), (1, 1)] := by kernel_rfl
theorem Zfz : Z9 Tryz.prog 42 = some 2 := by kernel_rfl
theorem ZoD : Z9 Tryz.prog 144 = some 1 := by kernel_rfl
theorem ZvA : ZcL Tryz.prog 40 146 4 64 = true := by kernel_rfl
theorem Zvy : (match Program.underlying Tryz.prog 40 with | some (.slice _) => true | _ => false) = true := by kernel_rfl
theorem Zvx : Z9 Tryz.prog 40 = some 1 := by kernel_rfl
theorem Zd1 : lk Tryz.prog 42 = some (some 2) := by kernel_rfl
theorem Zx1 : enters Tryz.prog 81 = true := by kernel_rfl
theorem Zm0 : lk Tryz.prog 211 = some (some 3) := by kernel_rfl
theorem Zeu : enters Tryz.prog 101 = true := by kernel_rfl
theorem ZxL : ZaL Tryz.prog 146 = some [(0, 1), (1, 1), (2, 1), (3, 1)] := by kernel_rfl
theorem Zyd : enters Tryz.prog 282 = true := by kernel_rfl
theorem ZwC : enters Tryz.prog 257 = true := by kernel_rfl
theorem Zyp : enters Tryz.prog 256 = true := by kernel_rfl
theorem Zro : enters Tryz.prog 212 = true := by kernel_rfl
theorem Zum : Z9 Tryz.prog 211 = some 3 := by kernel_rfl
theorem ZkL : enters Tryz.prog 121 = true := by kernel_rfl
theorem ZwH : enters Tryz.prog 214 = true := by kernel_rfl
theorem Zte : enters Tryz.prog 213 = true := by kernel_rfl
theorem ZwG : enters Tryz.prog 215 = true := by kernel_rfl
theorem zo3 : Zaq Tryz.prog 3 = some (.int .i64 0) := by kernel_rfl
theorem Zxl : Zaq Tryz.prog 275 = some (.pointer none) := by kernel_rfl
theorem Zyt : enters Tryz.prog 246 = true := by kernel_rfl
theorem Zye : enters Tryz.prog 274 = true := by kernel_rfl
theorem ZuH : lk Tryz.prog 275 = some none := by kernel_rfl
theorem Zys : enters Tryz.prog 247 = true := by kernel_rfl
theorem ZxI : ZaL Tryz.prog 332 = some [(0, 4), (4, 1)] := by kernel_rfl
theorem Zxh : Zaq Tryz.prog 332 = some (.agg #[.int .i64 0, .string ⟨#[]⟩, .string ⟨#[]⟩, .slice none 0 0, .pointer none]) := by kernel_rfl
theorem ZxE : Z9 Tryz.prog 275 = some 1 := by kernel_rfl
theorem Zu0 : ZF Tryz.prog 332 0 = some 0 := by kernel_rfl
theorem ZuZ : ZF Tryz.prog 332 1 = some 4 := by kernel_rfl
theorem ZyF : enters Tryz.prog 198 = true := by kernel_rfl
theorem ZyG : enters Tryz.prog 197 = true := by kernel_rfl
theorem ZfA : lk Tryz.prog 296 = some none := by kernel_rfl
theorem ZxX : ZcL Tryz.prog 296 3 1 8 = true := by kernel_rfl
theorem ZxG : (match Program.underlying Tryz.prog 296 with | some (.slice _) => true | _ => false) = true := by kernel_rfl
theorem Zwa : Z9 Tryz.prog 296 = some 1 := by kernel_rfl
theorem Zen : Zkm Tryz.prog 295 "Less" 306 false = true := by kernel_rfl
theorem Zrn : enters Tryz.prog 306 = true := by kernel_rfl
theorem Zem : Zkm Tryz.prog 295 "Swap" 309 false = true := by kernel_rfl
theorem Zrm : enters Tryz.prog 309 = true := by kernel_rfl
theorem Zo0 : Zkm Tryz.prog 295 "Push" 308 true = true := by kernel_rfl
theorem Zx8 : enters Tryz.prog 308 = true := by kernel_rfl
theorem ZlC : Zkm Tryz.prog 295 "Len" 305 false = true := by kernel_rfl
theorem ZwB : enters Tryz.prog 305 = true := by kernel_rfl
theorem Zyg : enters Tryz.prog 266 = true := by kernel_rfl
theorem Zyf : enters Tryz.prog 267 = true := by kernel_rfl
theorem ZqA : Zkm Tryz.prog 295 "Pop" 307 true = true := by kernel_rfl
theorem Zx9 : enters Tryz.prog 307 = true := by kernel_rfl
theorem Zyx : enters Tryz.prog 221 = true := by kernel_rfl
theorem Zyw : enters Tryz.prog 222 = true := by kernel_rfl
theorem ZyP : enters Tryz.prog 177 = true := by kernel_rfl
theorem ZyO : enters Tryz.prog 178 = true := by kernel_rfl
theorem Zhw : ZF Tryz.prog 89 0 = some 0 := by kernel_rfl
theorem ZiV : ZF Tryz.prog 89 1 = some 1 := by kernel_rfl
theorem Zrp : enters Tryz.prog 204 = true := by kernel_rfl
theorem ZlZ : ZF Tryz.prog 89 2 = some 2 := by kernel_rfl
theorem Zy6 : enters Tryz.prog 155 = true := by kernel_rfl
theorem Za0 : ZF Tryz.prog 85 1 = some 1 := by kernel_rfl
theorem Zgc : lk Tryz.prog 83 = some none := by kernel_rfl
theorem ZhC : Z9 Tryz.prog 89 = some 3 := by kernel_rfl
theorem Zvz : lk Tryz.prog 89 = some (some 3) := by kernel_rfl
theorem Zy8 : enters Tryz.prog 152 = true := by kernel_rfl
theorem ZcP : ZF Tryz.prog 85 0 = some 0 := by kernel_rfl
theorem Zou : Zaq Tryz.prog 89 = some (.agg #[.int .i64 0, .int .i64 0, .string ⟨#[]⟩]) := by kernel_rfl
theorem Zy7 : enters Tryz.prog 153 = true := by kernel_rfl
theorem ZbT : lk Tryz.prog 85 = some (some 2) := by kernel_rfl
theorem ZwS : enters Tryz.prog 104 = true := by kernel_rfl
theorem Zno : ZF Tryz.prog 142 1 = some 1 := by kernel_rfl
theorem Zf3 : ZF Tryz.prog 142 2 = some 2 := by kernel_rfl
theorem ZhD : lk Tryz.prog 142 = some (some 3) := by kernel_rfl
theorem ZcN : Zaq Tryz.prog 142 = some (.agg #[.string ⟨#[]⟩, .string ⟨#[]⟩, .int .i64 0]) := by kernel_rfl
theorem ZyQ : enters Tryz.prog 176 = true := by kernel_rfl
theorem ZwM : enters Tryz.prog 123 = true := by kernel_rfl
theorem Zkh : ZaL Tryz.prog 142 = some [(0, 1), (1, 1), (2, 1)] := by kernel_rfl
theorem ZyD : enters Tryz.prog 207 = true := by kernel_rfl
theorem ZyC : enters Tryz.prog 208 = true := by kernel_rfl
theorem Zcg : ZF Tryz.prog 44 1 = some 1 := by kernel_rfl
theorem ZjM : lk Tryz.prog 38 = some none := by kernel_rfl
theorem ZwK : enters Tryz.prog 162 = true := by kernel_rfl
theorem Z1 : ZF Tryz.prog 44 2 = some 2 := by kernel_rfl
theorem ZcM : lk Tryz.prog 39 = some none := by kernel_rfl
theorem Zbo : Z9 Tryz.prog 87 = some 5 := by kernel_rfl
theorem Zc8 : ZF Tryz.prog 87 0 = some 0 := by kernel_rfl
theorem ZfH : ZF Tryz.prog 87 1 = some 1 := by kernel_rfl
theorem ZhP : lk Tryz.prog 87 = some (some 5) := by kernel_rfl
theorem Zy4 : enters Tryz.prog 158 = true := by kernel_rfl
theorem Zy3 : enters Tryz.prog 159 = true := by kernel_rfl
theorem ZcK : ZF Tryz.prog 44 3 = some 3 := by kernel_rfl
theorem Zth : enters Tryz.prog 161 = true := by kernel_rfl
theorem ZbP : Z9 Tryz.prog 224 = some 2 := by kernel_rfl
theorem ZcV : ZF Tryz.prog 224 0 = some 0 := by kernel_rfl
theorem ZgU : ZF Tryz.prog 224 1 = some 1 := by kernel_rfl
theorem ZtZ : enters Tryz.prog 84 = true := by kernel_rfl
theorem Zcx : ZF Tryz.prog 87 3 = some 3 := by kernel_rfl
theorem Zzd : enters Tryz.prog 138 = true := by kernel_rfl
theorem ZdQ : Zaq Tryz.prog 87 = some (.agg #[.string ⟨#[]⟩, .string ⟨#[]⟩, .slice none 0 0, .int .i64 0, .slice none 0 0]) := by kernel_rfl
theorem Zeq : ZF Tryz.prog 87 2 = some 2 := by kernel_rfl
theorem ZtU : lk Tryz.prog 82 = some none := by kernel_rfl
theorem Zti : enters Tryz.prog 136 = true := by kernel_rfl
theorem Ztk : enters Tryz.prog 103 = true := by kernel_rfl
theorem ZwL : enters Tryz.prog 137 = true := by kernel_rfl
theorem Zl0 : ZF Tryz.prog 44 0 = some 0 := by kernel_rfl
theorem ZzS : enters Tryz.prog 79 = true := by kernel_rfl
theorem ZzR : enters Tryz.prog 80 = true := by kernel_rfl
theorem ZY : lk Tryz.prog 44 = some (some 5) := by kernel_rfl
theorem ZzQ : enters Tryz.prog 82 = true := by kernel_rfl
theorem Zt0 : enters Tryz.prog 64 = true := by kernel_rfl
theorem Zzw : enters Tryz.prog 83 = true := by kernel_rfl
theorem Zzv : enters Tryz.prog 85 = true := by kernel_rfl
theorem ZsI : lk Tryz.prog 224 = some (some 2) := by kernel_rfl
theorem ZdM : Zaq Tryz.prog 224 = some (.agg #[.string ⟨#[]⟩, .int .i64 0]) := by kernel_rfl
theorem Zyr : enters Tryz.prog 253 = true := by kernel_rfl
theorem ZwI : enters Tryz.prog 206 = true := by kernel_rfl
theorem Zwt : Extern.findNext Tryz.f268 = none := by kernel_rfl
theorem Zwu : Extern.find Tryz.f268 = some Extern.BytealgCompare.compare := by kernel_rfl
theorem Zyv : enters Tryz.prog 223 = true := by kernel_rfl
theorem ZwJ : enters Tryz.prog 179 = true := by kernel_rfl
theorem ZyB : enters Tryz.prog 209 = true := by kernel_rfl
theorem Zy1 : enters Tryz.prog 163 = true := by kernel_rfl
theorem ZwP : enters Tryz.prog 113 = true := by kernel_rfl
theorem Zzm : enters Tryz.prog 115 = true := by kernel_rfl
theorem sz4 : Z9 Tryz.prog 4 = some 1 := by kernel_rfl
theorem lk4 : lk Tryz.prog 4 = some none := by kernel_rfl
theorem Zyu : enters Tryz.prog 242 = true := by kernel_rfl
theorem ZyR : enters Tryz.prog 174 = true := by kernel_rfl
theorem Zwn : lk Tryz.prog 253 = some none := by kernel_rfl
theorem ZxP : lk Tryz.prog 98 = some none := by kernel_rfl
theorem ZyM : enters Tryz.prog 184 = true := by kernel_rfl
theorem Zxm : Zaq Tryz.prog 260 = some (.agg #[.int .u64 0, .int .u32 0]) := by kernel_rfl
theorem ZxY : ZcL Tryz.prog 253 4 1 1 = true := by kernel_rfl
theorem zo4 : Zaq Tryz.prog 4 = some (.bool false) := by kernel_rfl
theorem Zxn : Zaq Tryz.prog 253 = some (.slice none 0 0) := by kernel_rfl
theorem ZxF : Z9 Tryz.prog 253 = some 1 := by kernel_rfl
theorem ZyN : enters Tryz.prog 180 = true := by kernel_rfl
theorem ZyL : enters Tryz.prog 185 = true := by kernel_rfl
theorem ZyK : enters Tryz.prog 186 = true := by kernel_rfl
theorem Zzk : enters Tryz.prog 122 = true := by kernel_rfl
theorem Zzj : enters Tryz.prog 124 = true := by kernel_rfl
theorem Zzi : enters Tryz.prog 125 = true := by kernel_rfl
theorem Zzh : enters Tryz.prog 126 = true := by kernel_rfl
theorem Zzg : enters Tryz.prog 127 = true := by kernel_rfl
theorem Zzf : enters Tryz.prog 128 = true := by kernel_rfl
theorem Zoi : ZcL Tryz.prog 38 142 3 40 = true := by kernel_rfl
theorem Zrk : ZcL Tryz.prog 82 224 2 24 = true := by kernel_rfl
theorem Zxd : ZcL Tryz.prog 83 89 3 32 = true := by kernel_rfl
theorem Zfo : Zaq Tryz.prog 85 = some (.agg #[.int .i64 0, .slice none 0 0]) := by kernel_rfl
theorem ZxD : Z9 Tryz.prog 83 = some 1 := by kernel_rfl
theorem ZcQ : Z9 Tryz.prog 85 = some 2 := by kernel_rfl
theorem Zv8 : Z9 Tryz.prog 82 = some 1 := by kernel_rfl
theorem Zi2 : ZcL Tryz.prog 39 87 5 88 = true := by kernel_rfl
theorem Za6 : Zaq Tryz.prog 44 = some (.agg #[.string ⟨#[]⟩, .slice none 0 0, .slice none 0 0, .int .i64 0, .slice none 0 0]) := by kernel_rfl
theorem ZzF : Z9 Tryz.prog 38 = some 1 := by kernel_rfl
theorem ZrT : Z9 Tryz.prog 39 = some 1 := by kernel_rfl
theorem Zau : Z9 Tryz.prog 44 = some 5 := by kernel_rfl
theorem ZnR : (match Program.underlying Tryz.prog 38 with | some (.slice _) => true | _ => false) = true := by kernel_rfl
theorem Zw9 : (match Program.underlying Tryz.prog 83 with | some (.slice _) => true | _ => false) = true := by kernel_rfl
theorem Zn0 : ZaL Tryz.prog 85 = some [(0, 1), (1, 1)] := by kernel_rfl
theorem Zp8 : (match Program.underlying Tryz.prog 82 with | some (.slice _) => true | _ => false) = true := by kernel_rfl
theorem Zy0 : enters Tryz.prog 164 = true := by kernel_rfl
theorem ZdY : ZaL Tryz.prog 44 = some [(0, 1), (1, 1), (2, 1), (3, 2)] := by kernel_rfl
theorem ZxH : ZaL Tryz.prog 87 = some [(0, 1), (1, 1), (2, 1), (3, 2)] := by kernel_rfl
theorem Zji : (match Program.underlying Tryz.prog 39 with | some (.slice _) => true | _ => false) = true := by kernel_rfl
theorem Zrl : enters Tryz.prog 36 = true := by kernel_rfl
theorem Zvg : enters Tryz.prog 205 = true := by kernel_rfl
theorem Zy5 : enters Tryz.prog 157 = true := by kernel_rfl
theorem ZwR : enters Tryz.prog 111 = true := by kernel_rfl
theorem Zvi : enters Tryz.prog 151 = true := by kernel_rfl
theorem Zzn : enters Tryz.prog 102 = true := by kernel_rfl
theorem ZzI : ZaL Tryz.prog 89 = some [(0, 1), (1, 1), (2, 1)] := by kernel_rfl
theorem Zol : enters Tryz.prog 57 = true := by kernel_rfl
theorem ZwQ : enters Tryz.prog 112 = true := by kernel_rfl
theorem ZvB : enters Tryz.prog 65 = true := by kernel_rfl
theorem Zxf : enters Tryz.prog 66 = true := by kernel_rfl
theorem ZwD : enters Tryz.prog 254 = true := by kernel_rfl
theorem Zuv : ZaL Tryz.prog 224 = some [(0, 1), (1, 1)] := by kernel_rfl
theorem Zvf : enters Tryz.prog 210 = true := by kernel_rfl
theorem Zvc : enters Tryz.prog 287 = true := by kernel_rfl
theorem Zyb : enters Tryz.prog 285 = true := by kernel_rfl
theorem Zya : enters Tryz.prog 286 = true := by kernel_rfl
theorem Zzs : ZcL Tryz.prog 57 3 1 8 = true := by kernel_rfl
theorem Zzq : (match Program.underlying Tryz.prog 57 with | some (.slice _) => true | _ => false) = true := by kernel_rfl
theorem ZtO : Z9 Tryz.prog 72 = some 2 := by kernel_rfl
theorem Zq7 : ZF Tryz.prog 72 0 = some 0 := by kernel_rfl
theorem Zq6 : ZF Tryz.prog 72 1 = some 1 := by kernel_rfl
theorem Zx7 : enters Tryz.prog 37 = true := by kernel_rfl
theorem Zzc : enters Tryz.prog 139 = true := by kernel_rfl
theorem ZtX : ZF Tryz.prog 46 1 = some 1 := by kernel_rfl
theorem ZtW : ZF Tryz.prog 46 2 = some 2 := by kernel_rfl
theorem ZfI : ZF Tryz.prog 46 0 = some 0 := by kernel_rfl
theorem ZzP : enters Tryz.prog 87 = true := by kernel_rfl
theorem ZfZ : lk Tryz.prog 46 = some (some 3) := by kernel_rfl
theorem Zx6 : enters Tryz.prog 38 = true := by kernel_rfl
theorem Zx5 : enters Tryz.prog 39 = true := by kernel_rfl
theorem Zvd : enters Tryz.prog 283 = true := by kernel_rfl
theorem Ztd : enters Tryz.prog 58 = true := by kernel_rfl
theorem Zf2 : ZF Tryz.prog 244 1 = some 1 := by kernel_rfl
theorem ZkD : ZF Tryz.prog 244 2 = some 2 := by kernel_rfl
theorem ZiW : ZF Tryz.prog 244 3 = some 3 := by kernel_rfl
theorem Zuu : ZaL Tryz.prog 46 = some [(0, 1), (1, 1), (2, 1)] := by kernel_rfl
theorem ZkW : Zaq Tryz.prog 46 = some (.agg #[.string ⟨#[]⟩, .string ⟨#[]⟩, .string ⟨#[]⟩]) := by kernel_rfl
theorem ZmD : Z9 Tryz.prog 46 = some 3 := by kernel_rfl
theorem Zbu : ZF Tryz.prog 244 6 = some 6 := by kernel_rfl
theorem Zzr : ZaL Tryz.prog 72 = some [(0, 1), (1, 1)] := by kernel_rfl
theorem ZvC : Zaq Tryz.prog 72 = some (.agg #[.int .i64 0, .int .i64 0]) := by kernel_rfl
theorem Zb6 : ZF Tryz.prog 244 0 = some 0 := by kernel_rfl
theorem Zyo : enters Tryz.prog 258 = true := by kernel_rfl
theorem Zee : ZF Tryz.prog 244 4 = some 4 := by kernel_rfl
theorem Zyn : enters Tryz.prog 259 = true := by kernel_rfl
theorem Zq8 : ZF Tryz.prog 244 5 = some 5 := by kernel_rfl
theorem Zym : enters Tryz.prog 260 = true := by kernel_rfl
theorem Zyl : enters Tryz.prog 261 = true := by kernel_rfl
theorem Zyk : enters Tryz.prog 262 = true := by kernel_rfl
theorem Znk : ZF Tryz.prog 244 7 = some 7 := by kernel_rfl
theorem Zyj : enters Tryz.prog 263 = true := by kernel_rfl
theorem Zz1 : enters Tryz.prog 22 = true := by kernel_rfl
theorem Zz0 : enters Tryz.prog 28 = true := by kernel_rfl
theorem ZuI : lk Tryz.prog 244 = some (some 8) := by kernel_rfl
theorem ZyA : enters Tryz.prog 216 = true := by kernel_rfl
theorem Zvk : enters Tryz.prog 120 = true := by kernel_rfl
theorem Zt7 : Zaq Tryz.prog 244 = some (.agg #[.int .i64 0, .string ⟨#[]⟩, .string ⟨#[]⟩, .string ⟨#[]⟩, .string ⟨#[]⟩, .string ⟨#[]⟩, .int .i64 0, .int .i64 0]) := by kernel_rfl
theorem ZxJ : ZaL Tryz.prog 244 = some [(0, 1), (1, 1), (2, 1), (3, 1), (4, 1), (5, 1), (6, 1), (7, 1)] := by kernel_rfl
theorem Zwc : Z9 Tryz.prog 244 = some 8 := by kernel_rfl
theorem ZwF : enters Tryz.prog 217 = true := by kernel_rfl
theorem Ztf : enters Tryz.prog 211 = true := by kernel_rfl
theorem ZyU : enters Tryz.prog 170 = true := by kernel_rfl
theorem ZyS : enters Tryz.prog 172 = true := by kernel_rfl
theorem ZyT : enters Tryz.prog 171 = true := by kernel_rfl
theorem ZwN : enters Tryz.prog 119 = true := by kernel_rfl
theorem ZyZ : enters Tryz.prog 165 = true := by kernel_rfl
theorem ZyY : enters Tryz.prog 166 = true := by kernel_rfl
theorem ZyX : enters Tryz.prog 167 = true := by kernel_rfl
theorem ZyW : enters Tryz.prog 168 = true := by kernel_rfl
theorem ZyV : enters Tryz.prog 169 = true := by kernel_rfl
theorem Zzl : enters Tryz.prog 118 = true := by kernel_rfl
theorem Zy2 : enters Tryz.prog 160 = true := by kernel_rfl
theorem Zzy : enters Tryz.prog 73 = true := by kernel_rfl
theorem Zzz : (Tryz.prog.info? 372).map (·.comparable) = some true := by kernel_rfl
theorem Zv9 : Z9 Tryz.prog 397 = some 1 := by kernel_rfl
theorem Zxk : Zaq Tryz.prog 319 = some (.nilIface) := by kernel_rfl
theorem Zxj : Zaq Tryz.prog 322 = some (.nilIface) := by kernel_rfl
theorem Zxi : Zaq Tryz.prog 324 = some (.nilIface) := by kernel_rfl
theorem ZyJ : enters Tryz.prog 188 = true := by kernel_rfl
theorem Zm1 : lk Tryz.prog 100 = some none := by kernel_rfl
theorem Ztj : enters Tryz.prog 129 = true := by kernel_rfl
theorem ZwO : enters Tryz.prog 114 = true := by kernel_rfl
theorem Zzx : enters Tryz.prog 74 = true := by kernel_rfl
theorem Zx2 : enters Tryz.prog 68 = true := by kernel_rfl
theorem Zxe : enters Tryz.prog 75 = true := by kernel_rfl
theorem ZzV : enters Tryz.prog 70 = true := by kernel_rfl
theorem ZzU : enters Tryz.prog 71 = true := by kernel_rfl
theorem ZzT : enters Tryz.prog 72 = true := by kernel_rfl
theorem ZyH : enters Tryz.prog 196 = true := by kernel_rfl
theorem Zzb : enters Tryz.prog 143 = true := by kernel_rfl
theorem Zza : enters Tryz.prog 144 = true := by kernel_rfl
theorem ZkG : ZF Tryz.prog 160 0 = some 0 := by kernel_rfl
theorem ZkF : ZF Tryz.prog 162 1 = some 0 := by kernel_rfl
theorem ZxR : lk Tryz.prog 21 = some none := by kernel_rfl
theorem ZyE : enters Tryz.prog 199 = true := by kernel_rfl
theorem Zvh : enters Tryz.prog 200 = true := by kernel_rfl
theorem ZzM : lk Tryz.prog 72 = some (some 2) := by kernel_rfl
theorem Zzt : enters Tryz.prog 93 = true := by kernel_rfl
theorem ZzW : enters Tryz.prog 45 = true := by kernel_rfl
theorem Zfg : ZF Tryz.prog 166 2 = some 3 := by kernel_rfl
theorem ZlF : lk Tryz.prog 155 = some none := by kernel_rfl
theorem Zra : ZF Tryz.prog 164 0 = some 0 := by kernel_rfl
theorem Zy9 : enters Tryz.prog 145 = true := by kernel_rfl
theorem ZgV : ZF Tryz.prog 164 1 = some 2 := by kernel_rfl
theorem Zq9 : ZF Tryz.prog 166 1 = some 2 := by kernel_rfl
theorem ZkE : ZF Tryz.prog 166 0 = some 0 := by kernel_rfl
theorem Zrc : ZF Tryz.prog 154 0 = some 0 := by kernel_rfl
theorem Zrb : ZF Tryz.prog 154 1 = some 1 := by kernel_rfl
theorem ZxK : ZaL Tryz.prog 154 = some [(0, 1), (1, 1)] := by kernel_rfl
theorem Zxo : Zaq Tryz.prog 154 = some (.agg #[.string ⟨#[]⟩, .string ⟨#[]⟩]) := by kernel_rfl
theorem Zzu : enters Tryz.prog 91 = true := by kernel_rfl
theorem Zwi : ZaL Tryz.prog 164 = some [(0, 2), (2, 5)] := by kernel_rfl
theorem ZvE : Zaq Tryz.prog 164 = some (.agg #[.int .i32 0, .int .u32 0, .string ⟨#[]⟩, .slice none 0 0, .slice none 0 0, .int .i64 0, .slice none 0 0]) := by kernel_rfl
theorem Zuw : ZaL Tryz.prog 166 = some [(0, 2), (2, 1), (3, 1)] := by kernel_rfl
theorem Zow : Zaq Tryz.prog 166 = some (.agg #[.string ⟨#[]⟩, .string ⟨#[]⟩, .string ⟨#[]⟩, .pointer none]) := by kernel_rfl
theorem Zun : Z9 Tryz.prog 166 = some 4 := by kernel_rfl
theorem Zx0 : enters Tryz.prog 92 = true := by kernel_rfl
theorem ZzE : Z9 Tryz.prog 91 = some 4 := by kernel_rfl
theorem ZzC : Zaq Tryz.prog 91 = some (.agg #[.int .i64 0, .int .i64 0, .int .i64 0, .string ⟨#[]⟩]) := by kernel_rfl
theorem ZzD : Zaq Tryz.prog 35 = some (.slice none 0 0) := by kernel_rfl
theorem ZzG : Z9 Tryz.prog 35 = some 1 := by kernel_rfl
theorem ZzN : lk Tryz.prog 48 = some none := by kernel_rfl
theorem Zx3 : enters Tryz.prog 46 = true := by kernel_rfl
theorem Zx4 : enters Tryz.prog 44 = true := by kernel_rfl
theorem ZxQ : lk Tryz.prog 35 = some none := by kernel_rfl
theorem ZzZ : enters Tryz.prog 30 = true := by kernel_rfl
theorem ZzY : enters Tryz.prog 31 = true := by kernel_rfl
theorem ZzX : enters Tryz.prog 32 = true := by kernel_rfl
theorem Zof : Zi0 Tryz.prog 46 [(0, 9), (1, 9), (2, 9)] = true := by kernel_rfl
theorem Zz2 : enters Tryz.prog 14 = true := by kernel_rfl
set_option maxRecDepth 4000
set_option maxHeartbeats 6400000
variable {J : JoinT}
abbrev cur (b : Nat) (l : List UInt8) (i : Nat) : Cells := Z8 b [str l, .int .i64 i] 248
theorem Zct (n lo hi:Int) (B:Kn):ZaX (pj J) 86 [.int .i64 n,.int .i64 lo,.int .i64 hi] B (.bool (decide (lo≤n) && decide (n≤hi))):=by
 refine cB 15 Tryz.func86 (h:=?_)
 refine Za (xA (h:=ZW [(0,_),(1,_),(2,_),(6,_)] t4 (Za (xM (h:=xM (h:=ZdN (h:=xM (h:=Zq (d:=10) rfl (fun g1=>?_) (fun g1=>?_)))))))))
 try simp only [sQ,ne_eq] at g1
 refine xM (h:=xM (h:=ZcO (h:=xT (h:=xA (h:=ZW [(0,_),(1,_),(2,_),(6,_)] t4 (Zd ?_))))))
 exact eR t1 ⟨by exact Zk (by rw [Bool.eq_iff_iff];simp [];omega),rfl,rfl⟩
 try simp only [sQ,ne_eq] at g1
 refine xP (h:=xP (h:=xP (h:=xF (h:=xA (h:=ZW [(0,_),(1,_),(2,_),(6,_)] t4 (Zd ?_))))))
 exact eR t1 ⟨by exact Zk (by rw [Bool.eq_iff_iff];simp [];omega),rfl,rfl⟩

theorem ZoZ (c:UInt8) (B:Kn):ZaX (pj J) 264 [.int .u8 c.toNat] B (.bool (ZbH c)):=by
 refine cB 17 Tryz.func264 (h:=?_)
 refine Za (xA (h:=ZW [(0,_),(2,_)] t2 (Za (xM (h:=ZdN (h:=xM (h:=Zq (d:=5) rfl (fun g1=>?_) (fun g1=>?_))))))))
 try simp only [sQ,ne_eq] at g1
 refine xM (h:=ZcO (h:=xT (h:=xM (h:=Zq (d:=9) rfl (fun g2=>?_) (fun g2=>?_)))))
 try simp only [sQ,ne_eq] at g2
 refine xP (h:=xP (h:=xP (h:=xP (h:=xP (h:=xP (h:=xT (h:=xA (h:=ZW [(0,_),(2,_)] t2 (Zd ?_)))))))))
 exact eR t1 ⟨by exact Zk (by rw [Bool.eq_iff_iff];simp [ZbH];omega),rfl,rfl⟩
 try simp only [sQ,ne_eq] at g2
 refine xM (h:=ZdN (h:=xM (h:=Zq (d:=12) rfl (fun g3=>?_) (fun g3=>?_))))
 try simp only [sQ,ne_eq] at g3
 refine xM (h:=ZcO (h:=xT (h:=xF (h:=xA (h:=ZW [(0,_),(2,_)] t2 (Zd ?_))))))
 exact eR t1 ⟨by exact Zk (by rw [Bool.eq_iff_iff];simp [ZbH];omega),rfl,rfl⟩
 try simp only [sQ,ne_eq] at g3
 refine xP (h:=xP (h:=xF (h:=xF (h:=xA (h:=ZW [(0,_),(2,_)] t2 (Zd ?_))))))
 exact eR t1 ⟨by exact Zk (by rw [Bool.eq_iff_iff];simp [ZbH];omega),rfl,rfl⟩
 try simp only [sQ,ne_eq] at g1
 refine xP (h:=xP (h:=xF (h:=xM (h:=xM (h:=ZdN (h:=xM (h:=Zq (d:=12) rfl (fun g4=>?_) (fun g4=>?_))))))))
 try simp only [sQ,ne_eq] at g4
 refine xM (h:=ZcO (h:=xT (h:=xF (h:=xA (h:=ZW [(0,_),(2,_)] t2 (Zd ?_))))))
 exact eR t1 ⟨by exact Zk (by rw [Bool.eq_iff_iff];simp [ZbH];omega),rfl,rfl⟩
 try simp only [sQ,ne_eq] at g4
 refine xP (h:=xP (h:=xF (h:=xF (h:=xA (h:=ZW [(0,_),(2,_)] t2 (Zd ?_))))))
 exact eR t1 ⟨by exact Zk (by rw [Bool.eq_iff_iff];simp [ZbH];omega),rfl,rfl⟩

theorem ZbZ (l:List UInt8) (hl:l.length≤2000000) (B:Kn):ZaX (pj J) 134 [str l] B (.bool (Zal l)):=by
 refine cB 37 Tryz.func134 (h:=?_)
 refine Za (xA (h:=ZW [(0,_),(2,_)] t2 (Zh (Za (xA (h:=ZW [(0,_),(2,_),(3,_)] t3 (Zn (Zk6 (α:=Nat) (fun k=>[(0,str l),(3,.int .i64 k)]) (fun k=>[]) (fun k Bx=>Bx=B∧k≤l.length∧(l.take k).all ZbH=true) (fun k=>l.length - k) 0 t2 rfl (⟨rfl,Nat.zero_le _,by simp⟩) (fun k B1 hle1 hI=>?_)))))))))
 obtain ⟨rfl,hk,ha⟩:=hI
 refine Zh (Za (xM (h:=xM (h:=xVs Tryz.underlying9 (h:=Zag (h:=ZW [(0,_),(3,_),(7,_)] t3 (Zb rfl (fun g1=>?_) (fun g1=>?_))))))))
 try simp only [sQ,ne_eq] at g1
 obtain ⟨c,hc⟩ :∃c,l[k]? = some c:=⟨_,List.getElem?_eq_getElem oz⟩
 refine wSk (Zh (Zn (Zjs 33 (!(ZbH c)) [0,3,7] ?_ ?_)))
 refine xM (h:=xM (h:=Zm (ZeC rfl rfl Tryz.underlying9 rfl rfl oz (by simpa using hc) ?_)))
 refine ZdN (h:=xM (h:=Zq (d:=14) rfl (fun g1=>?_) (fun g1=>?_)))
 try simp only [sQ,ne_eq] at g1
 refine xM (h:=xM (h:=Zm (ZeC rfl rfl Tryz.underlying9 rfl rfl oz (by simpa using hc) ?_)))
 refine ZcO (h:=xT (h:=xN (h:=xM (h:=Zq (d:=21) rfl (fun g2=>?_) (fun g2=>?_)))))
 try simp only [sQ,ne_eq] at g2
 refine xM (h:=xM (h:=Zm (ZeC rfl rfl Tryz.underlying9 rfl rfl oz (by simpa using hc) ?_)))
 refine ZdN (h:=xM (h:=Zq (d:=26) rfl (fun g3=>?_) (fun g3=>?_)))
 try simp only [sQ,ne_eq] at g3
 refine xM (h:=xM (h:=Zm (ZeC rfl rfl Tryz.underlying9 rfl rfl oz (by simpa using hc) ?_)))
 refine ZcO (h:=xT (h:=xN (h:=xT (h:=?_))))
 exact ⟨rfl,rfl,rfl,Zdj rfl (by rw [Bool.eq_iff_iff];simp [ZbH,];omega),t3⟩
 try simp only [sQ,ne_eq] at g3
 refine xP (h:=xP (h:=xP (h:=xP (h:=xF (h:=xN (h:=xT (h:=?_)))))))
 exact ⟨rfl,rfl,rfl,Zdj rfl (by rw [Bool.eq_iff_iff];simp [ZbH,];omega),t3⟩
 try simp only [sQ,ne_eq] at g2
 refine xP (h:=xP (h:=xP (h:=xP (h:=xP (h:=xP (h:=xP (h:=xP (h:=xP (h:=xP (h:=xP (h:=xF (h:=?_))))))))))))
 exact ⟨rfl,rfl,rfl,Zdj rfl (by rw [Bool.eq_iff_iff];simp [ZbH,];omega),t3⟩
 try simp only [sQ,ne_eq] at g1
 refine xP (h:=xP (h:=xP (h:=xP (h:=xF (h:=xN (h:=xM (h:=xM (h:=xM (h:=Zm (ZeC rfl rfl Tryz.underlying9 rfl rfl oz (by simpa using hc) ?_))))))))))
 refine ZdN (h:=xM (h:=Zq (d:=26) rfl (fun g4=>?_) (fun g4=>?_)))
 try simp only [sQ,ne_eq] at g4
 refine xM (h:=xM (h:=Zm (ZeC rfl rfl Tryz.underlying9 rfl rfl oz (by simpa using hc) ?_)))
 refine ZcO (h:=xT (h:=xN (h:=xT (h:=?_))))
 exact ⟨rfl,rfl,rfl,Zdj rfl (by rw [Bool.eq_iff_iff];simp [ZbH,];omega),t3⟩
 try simp only [sQ,ne_eq] at g4
 refine xP (h:=xP (h:=xP (h:=xP (h:=xF (h:=xN (h:=xT (h:=?_)))))))
 exact ⟨rfl,rfl,rfl,Zdj rfl (by rw [Bool.eq_iff_iff];simp [ZbH,];omega),t3⟩
 refine ZW [(0,_),(3,_),(7,_),(33,_)] t4 (Zb rfl (fun g9=>?_) (fun g9=>?_))
 try simp only [sQ,ne_eq] at g9
 refine Za (xA (h:=ZW [(0,_),(2,_),(3,_),(7,_),(33,_)] t5 (Zd (ZI (Zp (Zur (ZI (Zp ?_))))))))
 exact eR t1 ⟨Zk (by simp [Zal,Ztw hc g9]),rfl,rfl⟩
 try simp only [sQ,ne_eq] at g9
 refine ZL (Zw (Zj (Zc (xM (h:=Zm (ZeY rfl rfl rfl rfl (by first | exact ZaY oz oz | rfl) ?_))))))
 refine xA (h:=?_)
 exact ZoL (k+1) oz ⟨rfl,oz,Zor hc g9 ha⟩ t2 rfl
 try simp only [sQ,ne_eq] at g1
 refine ZU (Zak (ZoK (ZK (Zj (Za (xM (h:=xVs Tryz.underlying9 (h:=xR ZjW rfl (Zct _ _ _ _) (h:=xA (h:=ZW [(0,_),(2,_),(3,_),(7,_)] t4 (Zd ?_)))))))))))
 exact eR t1 ⟨Zk (by (obtain rfl:k=l.length:=oz);rw [List.take_length] at ha;rw [Bool.eq_iff_iff];simp [Zal,ha];omega),rfl,rfl⟩

theorem Zom (b:Nat) (l:List UInt8) (i:Nat) (hi:i≤l.length) (hl:l.length≤2000000) (B:Kn):Zt5 (pj J) 175 [ptr ⟨b,0,none⟩] B (cur b l i) (.bool (decide (i=l.length))) (cur b l i):=by
 refine cB 13 Tryz.func175 (h:=?_)
 refine Za (xA (h:=ZW [(0,_),(2,_)] t2 (Zh (ZV (same _ _) mo kr ⟨rfl,rfl⟩ (fun _ _=>?_)))))
 refine aM 0 rfl (h:=aNc 1 rfl (h:=aW 2 rfl Zcp (h:=aT 3 rfl (Zaj fun D=>Ze rfl rfl lk3 rfl (atL 0 rfl rfl rfl) r4) (h:=aM 4 rfl (h:=aNc 5 rfl (h:=aW 6 rfl ZgT (h:=aT 7 rfl (Zaj fun D=>Ze rfl rfl lk9 rfl (atL 0 rfl rfl rfl) r4) (h:=aT 8 rfl (Zaj fun D=>ZpP rfl rfl Tryz.underlying9 rfl r4) (h:=ZrO 9 rfl (h:=aA 10 rfl (h:=Zv kr kr ?_)))))))))))
 refine Zj (ZW [(0,_),(2,_)] t2 (Zd ?_))
 exact e1 0 rfl t1 ⟨Zk (by rw [Bool.eq_iff_iff];simp;omega),rfl,rfl⟩

theorem Zv5 (b:Nat) (l:List UInt8) (i:Nat) (hi:i≤l.length) (hl:l.length≤2000000) (x:UInt8) (B:Kn):Zt5 (pj J) 219 [ptr ⟨b,0,none⟩,.int .u8 x.toNat] B (cur b l i) (.bool (decide (l[i]? = some x))) (cur b l (if l[i]? = some x then i+1 else i)):=by
 refine cB 27 Tryz.func219 (h:=?_)
 refine Za (xA (h:=ZW [(0,_),(1,_),(4,_)] t3 (Zh (Zh8 19 (decide (l[i]?≠some x)) [0,1,4] (same _ _) mo kr ⟨rfl,rfl⟩ (fun _ _=>?_) ?_))))
 refine aM 0 rfl (h:=aT 1 rfl (Zaj fun D=>Zh9 0 rfl rfl rfl Ztg rfl (Zom _ _ _ oz oz _) r4) (h:=?_))
 refine aM 2 rfl (h:=ZaE (d:=7) rfl (fun g1=>?_) (fun g1=>?_))
 try simp only [sQ,ne_eq] at g1
 refine aZ 3 rfl (h:=aZ 4 rfl (h:=aZ 5 rfl (h:=aZ 6 rfl (h:=aZ 7 rfl (h:=aZ 8 rfl (h:=aZ 9 rfl (h:=aZ 10 rfl (h:=aZ 11 rfl (h:=aZ 12 rfl (h:=aZ 13 rfl (h:=aPT 14 rfl (h:=Zv kr kr ?_))))))))))))
 exact ⟨rfl,rfl,rfl,Zdj rfl (by first | (simp [g1];done) | (rw [Bool.eq_iff_iff];simp [hc,← UInt8.toNat_inj];omega)),t3⟩
 try simp only [sQ,ne_eq] at g1
 obtain ⟨c,hc⟩ :∃c,l[i]? = some c:=⟨_,List.getElem?_eq_getElem oz⟩
 refine aM 3 rfl (h:=aNc 4 rfl (h:=aW 5 rfl ZgT (h:=aT 6 rfl (Zaj fun D=>Ze rfl rfl lk9 rfl (atL 0 rfl rfl rfl) r4) (h:=aM 7 rfl (h:=aNc 8 rfl (h:=aW 9 rfl Zcp (h:=aT 10 rfl (Zaj fun D=>Ze rfl rfl lk3 rfl (atL 0 rfl rfl rfl) r4) (h:=aT 11 rfl (Zaj fun D=>ZeC rfl rfl Tryz.underlying9 rfl rfl oz (by simpa using hc) r4) (h:=?_)))))))))
 refine aM 12 rfl (h:=Zw6 13 rfl (h:=aPF 14 rfl (h:=Zv kr kr ?_)))
 exact ⟨rfl,rfl,rfl,Zdj rfl (by first | (simp [g1];done) | (rw [Bool.eq_iff_iff];simp [hc,← UInt8.toNat_inj];omega)),t3⟩
 refine ZW [(0,_),(1,_),(4,_),(19,_)] t4 (Zb rfl (fun g2=>?_) (fun g2=>?_))
 try simp only [sQ,ne_eq] at g2
 refine Za (xA (h:=ZW [(0,_),(1,_),(4,_),(19,_)] t4 (Zd (Zp ?_))))
 exact e1 0 rfl t1 ⟨Zk (by simp [g2]),rfl,by rw [if_neg g2]⟩
 try simp only [sQ,ne_eq] at g2
 refine wSk (Za (xM (h:=xNc (h:=xW Zcp (h:=x1 lk3 0 (h:=Zm (ZeY rfl rfl rfl rfl (by first | exact ZaY oz oz | rfl) ?_)))))))
 refine xNc (h:=xW Zcp (h:=xS [_] 0 [_,_] sz3 (h:=ZN [(0,_),(1,_),(4,_),(19,_)] [_] t4 rfl (Za (xA (h:=ZW [(0,_),(1,_),(4,_),(19,_)] t4 (Zd ?_)))))))
 exact e1 0 rfl t1 ⟨Zk (by simp [g2]),rfl,by rw [if_pos g2];rfl⟩

theorem Zqx (b:Nat) (l:List UInt8) (i:Nat) (hi:i≤l.length) (hl:l.length≤2000000) (B:Kn):Zt5 (pj J) 218 [ptr ⟨b,0,none⟩] B (cur b l i) (.tuple #[str (word l i),.bool (ZdR (word l i))]) (cur b l (i+(word l i).length)):=by
 refine cB 54 Tryz.func218 (h:=?_)
 refine Za (xA (h:=xA (h:=ZW [(0,_),(2,_),(3,_)] t3 (Za (xM (h:=xNc (h:=xW Zcp (h:=x1 lk3 0 (h:=xA (h:=ZW [(0,_),(2,_),(3,_),(4,_)] t4 (Zh (Zn (Zk6 (α:=Nat) (fun k=>[(0,ptr ⟨b,0,none⟩),(4,.int .i64 i)]) (fun k=>[cur b l (i+k)]) (fun k Bx=>Bx=B∧i+k≤l.length∧((l.drop i).take k).all ZbH=true) (fun k=>l.length - i - k) 0 t2 rfl (⟨rfl,oz,by simp⟩) (fun k B1 hle1 hI=>?_))))))))))))))
 obtain ⟨rfl,hk,ha⟩:=hI
 refine Zh (Zh8 24 (match l[i+k]? with | some c=>ZbH c | none=>false) [0,4] (same _ _) mo kr ⟨rfl,rfl⟩ (fun _ _=>?_) ?_)
 refine aM 0 rfl (h:=aT 1 rfl (Zaj fun D=>Zh9 0 rfl rfl rfl Ztg rfl (Zom _ _ _ oz oz _) r4) (h:=?_))
 refine aN 2 rfl (h:=aM 3 rfl (h:=ZaE (d:=13) rfl (fun g1=>?_) (fun g1=>?_)))
 try simp only [sQ,ne_eq] at g1
 obtain ⟨c,hc⟩ :∃c,l[i+k]? = some c:=⟨_,List.getElem?_eq_getElem oz⟩
 refine aM 4 rfl (h:=aNc 5 rfl (h:=aW 6 rfl ZgT (h:=aT 7 rfl (Zaj fun D=>Ze rfl rfl lk9 rfl (atL 0 rfl rfl rfl) r4) (h:=aM 8 rfl (h:=aNc 9 rfl (h:=aW 10 rfl Zcp (h:=aT 11 rfl (Zaj fun D=>Ze rfl rfl lk3 rfl (atL 0 rfl rfl rfl) r4) (h:=aT 12 rfl (Zaj fun D=>ZeC rfl rfl Tryz.underlying9 rfl rfl oz hc r4) (h:=?_)))))))))
 refine aT 13 rfl (Zaj fun D=>ZaF rfl rfl Zyi rfl (ZoZ _ _) r4) (h:=aPT 14 rfl (h:=Zv kr kr ?_))
 exact ⟨rfl,rfl,rfl,Zdj rfl (by first | (rw [hc];done) | (rw [List.getElem?_eq_none oz])),t2⟩
 try simp only [sQ,ne_eq] at g1
 refine aZ 4 rfl (h:=aZ 5 rfl (h:=aZ 6 rfl (h:=aZ 7 rfl (h:=aZ 8 rfl (h:=aZ 9 rfl (h:=aZ 10 rfl (h:=aZ 11 rfl (h:=aZ 12 rfl (h:=aZ 13 rfl (h:=aPF 14 rfl (h:=Zv kr kr ?_)))))))))))
 exact ⟨rfl,rfl,rfl,Zdj rfl (by first | (rw [hc];done) | (rw [List.getElem?_eq_none oz])),t2⟩
 refine ZW [(0,_),(4,_),(24,_)] t3 (Zb rfl (fun g2=>?_) (fun g2=>?_))
 try simp only [sQ,ne_eq] at g2
 refine wSk (Zn (Zc (xM (h:=xNc (h:=xW Zcp (h:=x1 lk3 0 (h:=Zm (ZeY rfl rfl rfl rfl (by first | exact ZaY oz oz | rfl) ?_))))))))
 refine xNc (h:=xW Zcp (h:=xS [_] 0 [_,_] sz3 (h:=Zw ?_)))
 obtain ⟨c,hc,hn⟩:=Zqf g2
 exact ZoL (k+1) (by have:=Zcc hc;omega) ⟨rfl,by have:=Zcc hc;omega,Zor (by simpa using hc) hn ha⟩ t2 rfl
 try simp only [sQ,ne_eq] at g2
 have hw:word l i=(l.drop i).take k:=Zr8 ha (fun c hc=>by rw [hc] at g2;exact g2)
 have hwl:(word l i).length=k:=by rw [hw,List.length_take,List.length_drop];omega
 refine ZU (Zak (ZoK (ZK (Zj (Za (xM (h:=xNc (h:=xW Zcp (h:=x1 lk3 0 (h:=xM (h:=Zm (Zjk rfl rfl rfl rfl (by first | exact ZaY oz oz | rfl) ?_))))))))))))
 refine xA (h:=ZW [(0,_),(4,_),(5,_),(24,_)] t4 (Zh (ZV (same _ _) mo kr ⟨rfl,rfl⟩ (fun _ _=>?_))))
 refine aM 0 rfl (h:=aNc 1 rfl (h:=aW 2 rfl ZgT (h:=aT 3 rfl (Zaj fun D=>Ze rfl rfl lk9 rfl (atL 0 rfl rfl rfl) r4) (h:=aM 4 rfl (h:=aM 5 rfl (h:=aNc 6 rfl (h:=aW 7 rfl Zcp (h:=aT 8 rfl (Zaj fun D=>Ze rfl rfl lk3 rfl (atL 0 rfl rfl rfl) r4) (h:=aT 9 rfl (Zaj fun D=>Zge rfl rfl Tryz.underlying9 rfl (a:=i) (b:=i+k) ⟨_,_,rfl,rfl⟩ ⟨_,_,rfl,oz⟩ oz oz r4) (h:=?_))))))))))
 refine aM 10 rfl (h:=Zw7 11 rfl (h:=aM 12 rfl (h:=ZaE (d:=50) rfl (fun g1=>?_) (fun g1=>?_))))
 try simp only [sQ,ne_eq] at g1
 refine aM 13 rfl (h:=Zvt 14 rfl (h:=aPT 15 rfl (h:=aA 16 rfl (h:=aA 17 rfl (h:=Zv kr kr ?_)))))
 refine Zj (ZW [(0,_),(2,_),(3,_),(4,_),(5,_),(24,_)] t6 (Zd ?_))
 exact Zoj .ret (.inl rfl) [_,_] 0 rfl t2 ⟨Zjw (by rw [ZfK,hw]) (Zk (by rw [Bool.eq_iff_iff];simp [ZdR,hwl];omega)),rfl,by rw [hwl]⟩
 try simp only [sQ,ne_eq] at g1
 refine aZ 13 rfl (h:=aZ 14 rfl (h:=aPF 15 rfl (h:=aA 16 rfl (h:=aA 17 rfl (h:=Zv kr kr ?_)))))
 refine Zj (ZW [(0,_),(2,_),(3,_),(4,_),(5,_),(24,_)] t6 (Zd ?_))
 exact Zoj .ret (.inl rfl) [_,_] 0 rfl t2 ⟨Zjw (by rw [ZfK,hw]) (Zk (by rw [Bool.eq_iff_iff];simp [ZdR,hwl];omega)),rfl,by rw [hwl]⟩

theorem Ztm (b:Nat) (l:List UInt8) (i:Nat) (hi:i≤l.length) (hl:l.length≤2000000) (B:Kn):Zt5 (pj J) 174 [ptr ⟨b,0,none⟩] B (cur b l i) (.tuple #[str (Zi6 l i),.bool (Znr l i)]) (cur b l (dom l i).2):=by
 refine cB 53 Tryz.func174 (h:=?_)
 refine Za (xA (h:=xA (h:=ZW [(0,_),(2,_),(3,_)] t3 (Za (xM (h:=xNc (h:=xW Zcp (h:=x1 lk3 0 (h:=xA (h:=ZW [(0,_),(2,_),(3,_),(4,_)] t4 (Zh (Za (xM (h:=Zm (Zjr 0 rfl rfl rfl Zve rfl (Zqx _ _ _ oz oz _) ?_)))))))))))))))
 refine xM (h:=xE (h:=xE (h:=xA (h:=xA (h:=ZN [(0,_),(2,_),(3,_),(4,_),(6,_)] [_] t5 rfl (Za (xM (h:=xN (h:=ZW [(0,_),(2,_),(3,_),(4,_),(6,_),(20,_)] t6 (Zb rfl (fun g1=>?_) (fun g1=>?_)))))))))))
 try simp only [sQ,ne_eq] at g1
 refine Za (xA (h:=xA (h:=ZW [(0,_),(2,_),(3,_),(4,_),(6,_),(20,_)] t6 (Zd (Zp ?_)))))
 exact Zoj .ret (.inl rfl) [_,_] 0 rfl t2 ⟨Zjw (by simp [Zi6,Znq g1]) (Zk (by simp [Znr,Znq g1])),rfl,by rw [Znq g1]⟩
 try simp only [sQ,ne_eq] at g1
 refine wSk (Zh (Za (xA (h:=ZW [(0,_),(2,_),(3,_),(4,_),(6,_),(7,_),(20,_)] t7 (Zn (Zk6 (α:=Nat × Nat) (fun x=>[(0,ptr ⟨b,0,none⟩),(4,.int .i64 i),(7,.int .i64 x.1)]) (fun x=>[cur b l x.2]) (fun x Bx=>Bx=B∧1≤x.1∧x.1≤3∧i≤x.2∧x.2≤l.length∧dom l i=more (3 - x.1) l x.2) (fun x=>3 - x.1) (1,i+(word l i).length) t3 rfl (⟨rfl,oz,oz,oz,Zh6 hi,Ztn g1⟩) (fun x B1 hle1 hI=>?_)))))))
 obtain ⟨rfl,hk1,hk3,hix,hxl,hd⟩:=hI
 refine Zh (Za (xM (h:=Zag (h:=xM (h:=Zq (d:=23) rfl (fun g2=>?_) (fun g2=>?_))))))
 try simp only [sQ,ne_eq] at g2
 refine xM (h:=Zm (Zjr 0 rfl rfl rfl Zyz rfl (Zv5 _ _ _ oz oz 46 _) ?_))
 refine xT (h:=ZN [(0,_),(4,_),(7,_),(26,_)] [_] t4 rfl (Zb rfl (fun g3=>?_) (fun g3=>?_)))
 try simp only [sQ,ne_eq] at g3
 rw [if_pos g3]
 have hx2:=Zcc g3
 refine wSk (Zh (Zn (Za (xM (h:=Zm (Zjr 0 rfl rfl rfl Zve rfl (Zqx _ _ _ oz oz _) ?_))))))
 refine xM (h:=xE (h:=xE (h:=xA (h:=xA (h:=ZN [(0,_),(4,_),(7,_),(9,_),(26,_)] [_] t5 rfl (Za (xM (h:=xN (h:=ZW [(0,_),(4,_),(7,_),(9,_),(26,_),(35,_)] t6 (Zb rfl (fun g4=>?_) (fun g4=>?_)))))))))))
 try simp only [sQ,ne_eq] at g4
 refine Za (xA (h:=xA (h:=ZW [(0,_),(2,_),(3,_),(4,_),(7,_),(9,_),(26,_),(35,_)] t8 (Zd (ZI (Zp (Zur (ZI (Zp ?_)))))))))
 have hdd:=hd.trans (ZsF oz g3 g4)
 exact Zoj .ret (.inl rfl) [_,_] 0 rfl t2 ⟨Zjw (by simp [Zi6,hdd]) (Zk (by simp [Znr,hdd])),rfl,by rw [hdd]⟩
 try simp only [sQ,ne_eq] at g4
 refine ZL (Zw (Zj (Zc (xM (h:=Zm (ZeY rfl rfl rfl rfl (by first | exact ZaY oz oz | rfl) ?_))))))
 refine xA (h:=?_)
 exact ZoL (x.1+1,x.2+1+(word l (x.2+1)).length) (so) ⟨rfl,so,so,so,Zh6 oz,by rw [hd,ZqC oz g3 g4];rw [show 3 - (x.1+1)=3 - x.1 - 1 from by omega]⟩ t3 rfl
 try simp only [sQ,ne_eq] at g3
 rw [if_neg g3]
 replace hd:=hd.trans (Zix g3)
 refine ZU (Zak (ZoK (ZK (Zj (Zh (ZV (same _ _) mo kr ⟨rfl,rfl⟩ (fun _ _=>?_)))))))
 refine aM 0 rfl (h:=aNc 1 rfl (h:=aW 2 rfl ZgT (h:=aT 3 rfl (Zaj fun D=>Ze rfl rfl lk9 rfl (atL 0 rfl rfl rfl) r4) (h:=aM 4 rfl (h:=aM 5 rfl (h:=aNc 6 rfl (h:=aW 7 rfl Zcp (h:=aT 8 rfl (Zaj fun D=>Ze rfl rfl lk3 rfl (atL 0 rfl rfl rfl) r4) (h:=aT 9 rfl (Zaj fun D=>Zge rfl rfl Tryz.underlying9 rfl (a:=i) (b:=x.2) ⟨_,_,rfl,rfl⟩ ⟨_,_,rfl,rfl⟩ oz oz r4) (h:=?_))))))))))
 refine aM 10 rfl (h:=aNc 11 rfl (h:=aW 12 rfl Zcp (h:=aT 13 rfl (Zaj fun D=>Ze rfl rfl lk3 rfl (atL 0 rfl rfl rfl) r4) (h:=aM 14 rfl (h:=aT 15 rfl (Zaj fun D=>Zjk rfl rfl rfl rfl (by first | exact ZaY oz oz | rfl) r4) (h:=?_))))))
 refine Zvt 16 rfl (h:=aA 17 rfl (h:=aA 18 rfl (h:=Zv kr kr ?_)))
 refine Zj (ZW [(0,_),(2,_),(3,_),(4,_),(7,_),(26,_)] t6 (Zd ?_))
 exact Zoj .ret (.inl rfl) [_,_] 0 rfl t2 ⟨Zjw (by simp [Zi6,hd]) (Zk (by rw [Bool.eq_iff_iff];simp [Znr,hd];omega)),rfl,by rw [hd]⟩
 try simp only [sQ,ne_eq] at g2
 replace hd:dom l i=(true,x.2):=hd.trans (by rw [show 3 - x.1=0 from by omega];rfl)
 refine xP (h:=xP (h:=xF (h:=ZW [(0,_),(4,_),(7,_),(26,_)] t4 (Zb (t:=false) rfl (fun h=>Bool.noConfusion h) (fun _=>ZU (Zak (ZoK (ZK (Zj (Zh (ZV (same _ _) mo kr ⟨rfl,rfl⟩ (fun _ _=>?_))))))))))))
 refine aM 0 rfl (h:=aNc 1 rfl (h:=aW 2 rfl ZgT (h:=aT 3 rfl (Zaj fun D=>Ze rfl rfl lk9 rfl (atL 0 rfl rfl rfl) r4) (h:=aM 4 rfl (h:=aM 5 rfl (h:=aNc 6 rfl (h:=aW 7 rfl Zcp (h:=aT 8 rfl (Zaj fun D=>Ze rfl rfl lk3 rfl (atL 0 rfl rfl rfl) r4) (h:=aT 9 rfl (Zaj fun D=>Zge rfl rfl Tryz.underlying9 rfl (a:=i) (b:=x.2) ⟨_,_,rfl,rfl⟩ ⟨_,_,rfl,rfl⟩ oz oz r4) (h:=?_))))))))))
 refine aM 10 rfl (h:=aNc 11 rfl (h:=aW 12 rfl Zcp (h:=aT 13 rfl (Zaj fun D=>Ze rfl rfl lk3 rfl (atL 0 rfl rfl rfl) r4) (h:=aM 14 rfl (h:=aT 15 rfl (Zaj fun D=>Zjk rfl rfl rfl rfl (by first | exact ZaY oz oz | rfl) r4) (h:=?_))))))
 refine Zvt 16 rfl (h:=aA 17 rfl (h:=aA 18 rfl (h:=Zv kr kr ?_)))
 refine Zj (ZW [(0,_),(2,_),(3,_),(4,_),(7,_),(26,_)] t6 (Zd ?_))
 exact Zoj .ret (.inl rfl) [_,_] 0 rfl t2 ⟨Zjw (by simp [Zi6,hd]) (Zk (by rw [Bool.eq_iff_iff];simp [Znr,hd];omega)),rfl,by rw [hd]⟩

theorem Zcu (l:List UInt8) (hl:l.length≤2000000) (B:Kn):ZaX (pj J) 183 [str l] B (.bool (Zal l)):=by
 refine cB 16 Tryz.func183 (h:=?_)
 refine Za (xA (h:=ZW [(0,_),(2,_)] t2 (Za (xM (h:=xB [(0,_)] [_,_] [_,_] Zwg ZrV (h:=xAl [_,_] ZrV (h:=fun b0=>xS [_,_] 0 [_,_] Zwb (h:=ZN [(0,_),(2,_),(3,_)] [_] t3 rfl (Za (Zm (Zjr 0 rfl rfl rfl Zve rfl (Zqx _ _ 0 oz hl _) ?_)))))))))))
 refine xM (h:=xE (h:=xE (h:=xA (h:=xA (h:=ZN [(0,_),(2,_),(3,_),(5,_)] [_] t4 rfl (Za (xM (h:=xM (h:=Zq (d:=13) rfl (fun g1=>?_) (fun g1=>?_))))))))))
 refine Zm (Zh9 0 rfl rfl rfl Ztg rfl (Zom _ _ (0+(word l 0).length) (Zh6 (Nat.zero_le _)) oz _) ?_)
 refine xT (h:=xA (h:=ZW [(0,_),(2,_),(3,_),(5,_)] t4 (Zd ?_)))
 exact eR t1 ⟨Zk (by rw [ZdB];simp [g1];try omega),rfl,rfl⟩
 refine xP (h:=xF (h:=xA (h:=ZW [(0,_),(2,_),(3,_),(5,_)] t4 (Zd ?_))))
 exact eR t1 ⟨Zk (by rw [ZdB];simp [g1];try omega),rfl,rfl⟩

abbrev rd (b : Nat) (q : Option Addr) (m cp p : Nat) : Cells := Z8 b [.slice q m cp, .int .i64 p] 198
theorem ZsN (q:Option Addr) (m cp:Nat) (hmc:m≤cp) (B:Kn) (hb:Zan B q m):Zzp (pj J) 70 [.slice q m cp] B (fun v s=>∃b q m cp,v=ptr ⟨b,0,none⟩∧s=rd b q m cp 0∧m≤2000∧Zan B q m):=by
 refine cB 11 Tryz.func70 (h:=?_)
 refine Za (xA (h:=ZW [(0,_),(2,_)] t2 (Zh (Za (xM (h:=xV Tryz.underlying66 (h:=ZbG (h:=ZW [(0,_),(2,_),(5,_)] t3 (Zb rfl (fun g1=>?_) (fun g1=>?_))))))))))
 try simp only [sQ,ne_eq] at g1
 refine Zc (xM (h:=Zm (Zfp rfl rfl Tryz.underlying66 sz5 rfl (a:=0) (b:=2000) rfl ⟨_,_,rfl,rfl⟩ oz oz ?_)))
 refine xA (h:=Zj (Za (xM (h:=xB [(0,_)] [_,_] [_,_] Zwh ZvD (h:=xBx [_,_] (h:=fun b0=>xA (h:=ZN [(0,_),(2,_),(5,_)] [_] t3 rfl (Zd ?_))))))))
 exact e1 0 rfl t1 ⟨rfl,_,rfl,_,_,_,_,rfl,rfl,oz,hb.take oz⟩
 try simp only [sQ,ne_eq] at g1
 refine wSk (Za (xM (h:=xB [(0,_)] [_,_] [_,_] Zwh ZvD (h:=xBx [_,_] (h:=fun b0=>xA (h:=ZN [(0,_),(2,_),(5,_)] [_] t3 rfl (Zd ?_)))))))
 exact e1 0 rfl t1 ⟨rfl,_,rfl,_,_,_,_,rfl,rfl,oz,hb⟩

set_option maxHeartbeats 400000 in
theorem ZJ (b:Nat) (q:Option Addr) (m cp p:Nat) (n:Int) (hp:p≤1000000000000) (hn:1≤n) (hn2:n≤1000000000000) (hm:m≤2000) (B:Kn) (hb:Zan B q m):Ex1 (pj J) 117 [ptr ⟨b,0,none⟩,.int .i64 n] B (rd b q m cp p) (fun v s=>∃r:Int,v = .int .i64 r∧0≤r∧r<n∧s=rd b q m cp (p+1)):=by
 refine ZcX 99 Tryz.func117 rfl rfl rfl (Nat.le_of_ble_eq_true rfl) ?_
 refine Za ?_
 refine xA (h:=?_)
 refine ZW [(0,_),(1,_),(4,_)] t3 ?_
 refine Za ?_
 refine xM (h:=?_)
 refine xM (h:=?_)
 refine xNc (h:=?_)
 refine xW Znm (h:=?_)
 refine x1 lk3 0 (h:=?_)
 refine Zm (ZeY rfl rfl rfl rfl (by first | exact ZaY oz oz | rfl) ?_)
 refine xNc (h:=?_)
 refine xW Znm (h:=?_)
 refine xS [_] 0 [_,_] sz3 (h:=?_)
 refine ZN [(0,_),(1,_),(4,_)] [_] t3 rfl ?_
 refine Zh ?_
 refine Za ?_
 refine xM (h:=?_)
 refine Zag (h:=?_)
 refine xM (h:=?_)
 refine Zq (d:=17) rfl (fun g1=>by have:=of_decide_eq_true g1;omega) (fun g1=>?_)
 try simp only [sQ,ne_eq] at g1
 refine xM (h:=?_)
 refine xNc (h:=?_)
 refine xW Zff (h:=?_)
 refine x1 ZtV 0 (h:=?_)
 refine xV Tryz.underlying66 (h:=?_)
 refine ZG (h:=?_)
 refine xF (h:=?_)
 refine ZW [(0,_),(1,_),(4,_),(24,_)] t4 ?_
 refine Zb rfl (fun g2=>?_) (fun g2=>?_)
 try simp only [sQ,ne_eq] at g2
 refine Za ?_
 refine xA (h:=?_)
 refine ZW [(0,_),(1,_),(4,_),(24,_)] t4 ?_
 refine Zd (Zp ?_)
 exact Zoj .ret (.inl rfl) [_] 0 rfl t1 ⟨rfl,_,rfl,0,rfl,oz,oz,rfl⟩
 try simp only [sQ,ne_eq] at g2
 have hm0:0<m:=by omega
 obtain ⟨a,rfl,hc⟩:=hb.at hm0
 refine ZL ?_
 refine Zj ?_
 refine Za ?_
 refine xM (h:=?_)
 refine xNc (h:=?_)
 refine xW Znm (h:=?_)
 refine x1 lk3 0 (h:=?_)
 refine Zm (Zjk rfl rfl rfl rfl (by first | exact ZaY oz oz | rfl) ?_)
 refine xA (h:=?_)
 refine ZW [(0,_),(1,_),(4,_),(5,_),(24,_)] t5 ?_
 refine Zh ?_
 refine Za ?_
 refine xM (h:=?_)
 refine xM (h:=?_)
 refine xNc (h:=?_)
 refine xW Zff (h:=?_)
 refine x1 ZtV 0 (h:=?_)
 refine xV Tryz.underlying66 (h:=?_)
 refine Zag (h:=?_)
 refine ZW [(0,_),(1,_),(4,_),(5,_),(24,_),(36,_)] t6 ?_
 refine Zb rfl (fun g3=>?_) (fun g3=>?_)
 try simp only [sQ,ne_eq] at g3
 obtain ⟨z,hz,h1⟩:=hc (↑p+1 - 1) oz oz
 refine Za ?_
 refine xM (h:=?_)
 refine xNc (h:=?_)
 refine xW Zff (h:=?_)
 refine x1 ZtV 0 (h:=?_)
 refine xM (h:=?_)
 refine Zm (Za9 rfl rfl Tryz.underlying66 sz5 rfl rfl oz oz ?_)
 refine Zm (Ze rfl rfl lk5 rfl (h1 _) ?_)
 refine Zm (Zmw rfl rfl Tryz.underlying5 Tryz.underlying3 rfl (by first | exact ZaY oz oz | rfl) ?_)
 refine xM (h:=?_)
 refine Zm (ZhB rfl rfl rfl rfl oz (by first | exact ZaY oz oz | rfl) ?_)
 refine xA (h:=?_)
 refine ZW [(0,_),(1,_),(4,_),(5,_),(24,_),(36,_)] t6 ?_
 refine Zd (Zp ?_)
 exact Zoj .ret (.inl rfl) [_] 0 rfl t1 ⟨rfl,_,rfl,_,rfl,Int.tmod_nonneg _ oz,Int.tmod_lt_of_pos _ oz,rfl⟩
 try simp only [sQ,ne_eq] at g3
 obtain ⟨z,hz,h1⟩:=hc (Int.tmod (↑p+1 - 1) ↑m) (Int.tmod_nonneg _ oz) (Int.tmod_lt_of_pos _ oz)
 obtain ⟨z2,hz2,h2⟩:=hc (Int.tmod ((↑p+1 - 1)*7+3) ↑m) (Int.tmod_nonneg _ oz) (Int.tmod_lt_of_pos _ oz)
 have ht0:0≤Int.tdiv (↑p+1 - 1) ↑m:=Int.tdiv_nonneg oz oz
 have ht1:Int.tdiv (↑p+1 - 1) ↑m≤↑p+1 - 1:=Int.tdiv_le_self _ oz
 refine ZL ?_
 refine Zj ?_
 refine Zh ?_
 refine ZV (same _ _) mo kr ⟨rfl,rfl⟩ (fun _ _=>?_)
 refine aM 0 rfl (h:=?_)
 refine aNc 1 rfl (h:=?_)
 refine aW 2 rfl Zff (h:=?_)
 refine aT 3 rfl (Zaj fun D=>Ze rfl rfl ZtV rfl (atL 0 rfl rfl rfl) r4) (h:=?_)
 refine aM 4 rfl (h:=?_)
 refine aM 5 rfl (h:=?_)
 refine aNc 6 rfl (h:=?_)
 refine aW 7 rfl Zff (h:=?_)
 refine aT 8 rfl (Zaj fun D=>Ze rfl rfl ZtV rfl (atL 0 rfl rfl rfl) r4) (h:=?_)
 refine aV 9 rfl Tryz.underlying66 (h:=?_)
 refine aT 10 rfl (Zaj fun D=>ZhB rfl rfl rfl rfl oz (by first | exact ZaY oz oz | rfl) r4) (h:=?_)
 refine aT 11 rfl (Zaj fun D=>Za9 rfl rfl Tryz.underlying66 sz5 rfl rfl (Int.tmod_nonneg _ oz) (Int.tmod_lt_of_pos _ oz) r4) (h:=?_)
 refine aT 12 rfl (Zaj fun D=>Ze rfl rfl lk5 rfl (h1 _) r4) (h:=?_)
 refine aT 13 rfl (Zaj fun D=>Zmw rfl rfl Tryz.underlying5 Tryz.underlying3 rfl (by first | exact ZaY oz oz | rfl) r4) (h:=?_)
 refine aT 14 rfl (Zaj fun D=>Zk4 rfl rfl rfl rfl (by first | exact ZaY oz oz | rfl) r4) (h:=?_)
 refine aM 15 rfl (h:=?_)
 refine aNc 16 rfl (h:=?_)
 refine aW 17 rfl Zff (h:=?_)
 refine aT 18 rfl (Zaj fun D=>Ze rfl rfl ZtV rfl (atL 0 rfl rfl rfl) r4) (h:=?_)
 refine aM 19 rfl (h:=?_)
 refine aT 20 rfl (Zaj fun D=>Zk4 rfl rfl rfl rfl (by first | exact ZaY oz oz | rfl) r4) (h:=?_)
 refine aT 21 rfl (Zaj fun D=>ZeY rfl rfl rfl rfl (by first | exact ZaY oz oz | rfl) r4) (h:=?_)
 refine aM 22 rfl (h:=?_)
 refine aNc 23 rfl (h:=?_)
 refine aW 24 rfl Zff (h:=?_)
 refine aT 25 rfl (Zaj fun D=>Ze rfl rfl ZtV rfl (atL 0 rfl rfl rfl) r4) (h:=?_)
 refine aV 26 rfl Tryz.underlying66 (h:=?_)
 refine aT 27 rfl (Zaj fun D=>ZhB rfl rfl rfl rfl oz (by first | exact ZaY oz oz | rfl) r4) (h:=?_)
 refine aT 28 rfl (Zaj fun D=>Za9 rfl rfl Tryz.underlying66 sz5 rfl rfl (Int.tmod_nonneg _ oz) (Int.tmod_lt_of_pos _ oz) r4) (h:=?_)
 refine aT 29 rfl (Zaj fun D=>Ze rfl rfl lk5 rfl (h2 _) r4) (h:=?_)
 refine aT 30 rfl (Zaj fun D=>Zmw rfl rfl Tryz.underlying5 Tryz.underlying3 rfl (by first | exact ZaY oz oz | rfl) r4) (h:=?_)
 refine aT 31 rfl (Zaj fun D=>Zk4 rfl rfl rfl rfl (by first | exact ZaY oz oz | rfl) r4) (h:=?_)
 refine aT 32 rfl (Zaj fun D=>ZeY rfl rfl rfl rfl (by first | exact ZaY oz oz | rfl) r4) (h:=?_)
 refine aM 33 rfl (h:=?_)
 refine aT 34 rfl (Zaj fun D=>Zk4 rfl rfl rfl rfl (by first | exact ZaY oz oz | rfl) r4) (h:=?_)
 refine aT 35 rfl (Zaj fun D=>ZeY rfl rfl rfl rfl (by first | exact ZaY oz oz | rfl) r4) (h:=?_)
 refine aM 36 rfl (h:=?_)
 refine aM 37 rfl (h:=?_)
 refine aNc 38 rfl (h:=?_)
 refine aW 39 rfl Zff (h:=?_)
 refine aT 40 rfl (Zaj fun D=>Ze rfl rfl ZtV rfl (atL 0 rfl rfl rfl) r4) (h:=?_)
 refine aV 41 rfl Tryz.underlying66 (h:=?_)
 refine aT 42 rfl (Zaj fun D=>Zia rfl rfl rfl rfl oz (by first | exact ZaY oz oz | rfl) r4) (h:=?_)
 refine aT 43 rfl (Zaj fun D=>Zk4 rfl rfl rfl rfl (by first | exact ZaY oz oz | rfl) r4) (h:=?_)
 refine aT 44 rfl (Zaj fun D=>ZeY rfl rfl rfl rfl (by first | exact ZaY oz oz | rfl) r4) (h:=?_)
 refine aA 45 rfl (h:=?_)
 refine Zv kr kr ?_
 refine Zj ?_
 refine ZW [(0,_),(1,_),(4,_),(5,_),(6,_),(24,_),(36,_)] t7 ?_
 generalize hx:(↑z*131+↑z2*1117+(↑p+1 - 1)*29+(↑p+1 - 1:Int).tdiv ↑m*53:Int)=x
 have hx0:0≤x:=by omega
 have hx1:x<1000000000000000:=by omega
 have hy0:0≤Int.tdiv x 64:=Int.tdiv_nonneg oz oz
 have hy1:Int.tdiv x 64≤x:=Int.tdiv_le_self _ oz
 refine Za ?_
 refine xM (h:=?_)
 refine xM (h:=?_)
 refine Zm (Zia rfl rfl rfl rfl oz (by first | exact ZaY oz oz | rfl) ?_)
 refine Zm (Zxs rfl rfl rfl rfl oz oz oz oz (fun y hy2 hy3=>?_))
 refine xA (h:=?_)
 refine ZW [(0,_),(1,_),(4,_),(5,_),(6,_),(24,_),(36,_)] t7 ?_
 refine Za ?_
 refine xM (h:=?_)
 refine xM (h:=?_)
 refine Zm (ZhB rfl rfl rfl rfl oz (by first | exact ZaY oz oz | rfl) ?_)
 refine xA (h:=?_)
 refine ZW [(0,_),(1,_),(4,_),(5,_),(6,_),(24,_),(36,_)] t7 ?_
 refine Zd ?_
 exact Zoj .ret (.inl rfl) [_] 0 rfl t1 ⟨rfl,_,rfl,_,rfl,Int.tmod_nonneg _ oz,Int.tmod_lt_of_pos _ oz,rfl⟩

theorem Zqp (b:Nat) (q:Option Addr) (m cp p:Nat) (b1:Nat) (ls:List (List UInt8)) (hp:p≤1000000000000) (hn:1≤ls.length) (hn2:ls.length≤1000000000000) (hm:m≤2000) (B:Kn) (hbm:Zan B q m):Zu (pj J) 173 [ptr ⟨b,0,none⟩,.slice (some ⟨b1,0,none⟩) ls.length ls.length] B [rd b q m cp p,Z8 b1 (ls.map str) 9] (fun v B' Ls=>B'=B∧∃x,x∈ls∧v=str x∧Ls=[rd b q m cp (p+1)]):=by
 refine cB 12 Tryz.func173 (h:=?_)
 skip
 refine Za (xA (h:=ZW [(0,_),(1,_),(4,_)] t3 (Za (xM (h:=xM (h:=xM (h:=xV Tryz.underlying144 (h:=xX 0 rfl Z6 rfl (ZJ _ _ _ _ _ _ oz oz oz hm _ hbm) (h:=?_)))))))))
 rintro _ _ ⟨r1,rfl,r1a,r1b,rfl⟩
 refine Zm (Za9 rfl rfl Tryz.underlying144 sz9 rfl rfl oz oz ?_)
 obtain ⟨x,hx⟩ :∃x,ls[r1.toNat]? = some x:=⟨_,List.getElem?_eq_getElem oz⟩
 refine Zm (Ze rfl rfl lk9 rfl (ZrF 1 rfl (v:=str x) (by rw [Nat.mul_one,List.getElem?_map,hx];rfl)) ?_)
 refine xA (h:=ZN [(0,_),(1,_),(4,_)] [_,_] t3 rfl (Zd ?_))
 exact eN [0] rfl t1 ⟨rfl,x,List.mem_of_getElem? hx,rfl,rfl⟩

theorem ZcF (b:Nat) (q:Option Addr) (m cp p:Nat) (hp:p≤900000000000) (hm:m≤2000) (B:Kn) (hbm:Zan B q m):Ex1 (pj J) 121 [ptr ⟨b,0,none⟩] B (rd b q m cp p) (fun v s=>∃x:List UInt8,v=str x∧x.length≤9∧s=rd b q m cp (p+2)):=by
 refine cB 12 Tryz.func121 (h:=?_)
 refine Za (xA (h:=ZW [(0,_),(2,_)] t2 (Zh (Za (xM (h:=xX 0 rfl Z6 rfl (ZJ _ _ _ _ _ _ oz oz oz hm _ hbm) (h:=?_)))))))
 rintro _ _ ⟨r1,rfl,r1a,r1b,rfl⟩
 refine ZG (h:=ZN [(0,_),(2,_),(5,_)] [_] t3 rfl (Zb rfl (fun g1=>?_) (fun g1=>?_)))
 refine Za (xM (h:=xBs [(0,_),(1,_),(2,_),(3,_),(4,_),(5,_),(6,_)] [_,_,_,_,_,_,_] Tryz.underlying144 sz9 zo9 (h:=fun b1=>xK [0,1] rfl Zgy rfl (Zqp _ _ _ _ _ _ [[],[65],[116,111,111,108,111,110,103,49,50],[97,45,98],[101,105,103,104,116,56,56,56],[48],[97,110,121,111,110,101]] oz (by decide) (by decide) hm _ hbm) (h:=?_))))
 rintro _ _ _ hle2 ⟨rfl,x2,hx2,rfl,rfl⟩
 refine xA (h:=ZN [(0,_),(2,_),(5,_)] [_,_] t3 rfl (Zd (Zp ?_)))
 exact e1 0 rfl t1 ⟨rfl,_,rfl,x2,rfl,(show∀x∈_,x.length≤9 from by decide) _ hx2,rfl⟩
 refine wSk (Za (xM (h:=xBs [(0,_),(1,_),(2,_),(3,_),(4,_),(5,_)] [_,_,_,_,_,_] Tryz.underlying144 sz9 zo9 (h:=fun b1=>xK [0,1] rfl Zgy rfl (Zqp _ _ _ _ _ _ [[97,109,121],[98,111,98],[99,121,100],[100,97,110],[98,111,120,49],[120]] oz (by decide) (by decide) hm _ hbm) (h:=?_)))))
 rintro _ _ _ hle3 ⟨rfl,x3,hx3,rfl,rfl⟩
 refine xA (h:=ZN [(0,_),(2,_),(5,_)] [_,_] t3 rfl (Zd ?_))
 exact e1 0 rfl t1 ⟨rfl,_,rfl,x3,rfl,(show∀x∈_,x.length≤9 from by decide) _ hx3,rfl⟩

abbrev Zxg (s : Cells) (q : Option Addr) (m cp : Nat) (ls : List (List UInt8)) : Prop := Zh0 s q m cp 9 1 (ls.map str)
theorem Zk8 {s:Cells} {q:Option Addr} {m cp:Nat} {ls:List (List UInt8)} {a:List UInt8} (h:Zh0 s q m cp 9 1 (ls.map str ++ [str a])):Zxg s q m cp (ls ++ [a]):=by
 unfold Zxg
 rw [List.map_append]
 exact h
theorem ZuL (l:List UInt8) (hl:l.length≤2000000) (x0:UInt8) (B:Kn):Zzp (pj J) 133 [str l,.int .u8 x0.toNat] B (fun v s=>∃q cp,v = .slice q (cut x0 l).length cp∧Zxg s q (cut x0 l).length cp (cut x0 l)):=by
 refine cB 35 Tryz.func133 (h:=?_)
 refine Za (xA (h:=ZW [(0,_),(1,_),(4,_)] t3 (Za (xBs [] [] Tryz.underlying144 sz9 zo9 (h:=fun b0=>xA (h:=ZN [(0,_),(1,_),(4,_),(5,_)] [_] t4 rfl (Za (xA (h:=ZW [(0,_),(1,_),(4,_),(5,_),(6,_)] t5 (Zh (Za (xA (h:=ZW [(0,_),(1,_),(4,_),(5,_),(6,_),(7,_)] t6 (Zn (Zk6 (α:=CutSt) (fun x=>[(0,str l),(1,.int .u8 x0.toNat),(5,.slice x.q x.m x.cp),(6,.int .i64 x.f),(7,.int .i64 x.i)]) (fun x=>[x.s]) (fun x Bx=>Bx=B∧x.f≤x.i∧x.i≤l.length∧x.m≤x.i∧x.m=x.ps.length∧Zxg x.s x.q x.m x.cp x.ps∧cut x0 l=x.ps ++ glue ((l.take x.i).drop x.f) (cut x0 (l.drop x.i))) (fun x=>l.length - x.i) ⟨0,0,0,[],some ⟨b0,0,none⟩,0,Z8 b0 [] 9⟩ t5 rfl (⟨rfl,Nat.le_refl _,Nat.zero_le _,Nat.le_refl _,rfl,Zh0.lit rfl,by simp [Zod (Zoo x0 l)]⟩) (fun x B1 hle1 hI=>?_))))))))))))))))
 obtain ⟨rfl,hf,hi,hn,hm,hv,hc⟩:=hI
 refine Zh (Za (xM (h:=xM (h:=xVs Tryz.underlying9 (h:=Zag (h:=ZW [(0,_),(1,_),(5,_),(6,_),(7,_),(12,_)] t6 (Zb rfl (fun g1=>?_) (fun g1=>?_))))))))
 try simp only [sQ,ne_eq] at g1
 obtain ⟨c,hx⟩ :∃c,l[x.i]? = some c:=⟨_,List.getElem?_eq_getElem oz⟩
 refine wSk (Zh (Zn (Za (xM (h:=xM (h:=Zm (ZeC rfl rfl Tryz.underlying9 rfl rfl oz hx ?_)))))))
 refine xM (h:=ZG (h:=ZW [(0,_),(1,_),(5,_),(6,_),(7,_),(12,_),(19,_)] t7 (Zb rfl (fun g2=>?_) (fun g2=>?_))))
 try simp only [sQ,ne_eq] at g2
 refine Za (xM (h:=xM (h:=xM (h:=xM (h:=Zm (Zge rfl rfl Tryz.underlying9 rfl (a:=x.f) (b:=x.i) ⟨_,_,rfl,rfl⟩ ⟨_,_,rfl,rfl⟩ oz oz ?_))))))
 refine xBs [(0,_)] [_] Tryz.underlying144 sz9 zo9 (h:=fun b1=>Zm (ZeE 0 rfl (hv) rfl rfl ZgY ZgG rfl rfl (ZaO.box 1 rfl) rfl rfl oz (fun l1 p1 c1 hv1=>?_)))
 refine xA (h:=ZN [(0,_),(1,_),(5,_),(6,_),(7,_),(12,_),(19,_)] [_,_] t7 rfl (Zuc [0] rfl (Zc (xM (h:=Zm (ZeY rfl rfl rfl rfl (by first | exact ZaY oz oz | rfl) ?_))))))
 refine xA (h:=Zw (Zj (Zc (xM (h:=Zm (ZeY rfl rfl rfl rfl (by first | exact ZaY oz oz | rfl) ?_))))))
 refine xA (h:=?_)
 exact ZoL ⟨x.i+1,x.i+1,x.m+1,x.ps ++ [(l.take x.i).drop x.f],p1,c1,l1⟩ (so) ⟨rfl,Nat.le_refl _,so,so,by simp [hm],Zk8 hv1,by rw [hc,Zvm hx (Zxx g2),List.append_assoc];simp [Zs9,Zod (Zoo x0 _)]⟩ t5 rfl
 try simp only [sQ,ne_eq] at g2
 refine ZL (Zw (Zj (Zc (xM (h:=Zm (ZeY rfl rfl rfl rfl (by first | exact ZaY oz oz | rfl) ?_))))))
 refine xA (h:=?_)
 exact ZoL ⟨x.i+1,x.f,x.m,x.ps,x.q,x.cp,x.s⟩ (so) ⟨rfl,so,so,so,hm,hv,by rw [hc,Ztp hx (Zxw g2),Zq4,Zp5 hx hf]⟩ t5 rfl
 try simp only [sQ,ne_eq] at g1
 obtain hie:x.i=l.length:=by omega
 rw [hie,List.take_length,List.drop_length] at hc
 refine ZU (Zak (ZoK (ZK (Zj (Za (xM (h:=xM (h:=xM (h:=Zm (Zge rfl rfl Tryz.underlying9 rfl (a:=x.f) (b:=l.length) ⟨_,_,rfl,rfl⟩ rfl oz oz ?_))))))))))
 refine xBs [(0,_)] [_] Tryz.underlying144 sz9 zo9 (h:=fun b1=>Zm (ZeE 0 rfl (hv) rfl rfl ZgY ZgG rfl rfl (ZaO.box 1 rfl) rfl rfl oz (fun l2 p2 c2 hv2=>?_)))
 refine xA (h:=ZN [(0,_),(1,_),(4,_),(5,_),(6,_),(7,_),(12,_)] [_,_] t7 rfl (Zd ?_))
 have he:cut x0 l=x.ps ++ [l.drop x.f]:=by rw [hc];simp [cut,glue]
 have hlen:(cut x0 l).length=x.m+1:=by rw [he];simp [hm]
 exact Zat .ret (.inl rfl) [_] [0] rfl ⟨rfl,trivial⟩ ⟨rfl,_,rfl,p2,c2,by rw [hlen];rfl,by rw [hlen,he];rw [List.take_length] at hv2;exact Zk8 hv2⟩

theorem Zlp (l:List UInt8) (hl:l.length≤2000000) (B:Kn):ZaX (pj J) 79 [str l] B (.bool (Zcm l)):=by
 refine cB 27 Tryz.func79 (h:=?_)
 refine Za (xA (h:=ZW [(0,_),(2,_)] t2 (Za (xM (h:=Zm (ZtJ rfl rfl Zze rfl (ZuL _ hl 46 _) ?_))))))
 rintro _ s ⟨q,cp,rfl,hv⟩
 refine xA (h:=ZN [(0,_),(2,_),(3,_)] [_] t3 rfl (Zh (Za (xA (h:=ZW [(0,_),(2,_),(3,_),(4,_)] t4 (Zn (Zk6 (α:=Nat) (fun k=>[(0,str l),(3,.slice q (cut 46 l).length cp),(4,.int .i64 k)]) (fun k=>[s]) (fun k Bx=>Bx=B∧k≤(cut 46 l).length∧((cut 46 l).take k).all Zal=true) (fun k=>(cut 46 l).length - k) 0 t3 rfl (⟨rfl,Nat.zero_le _,by simp⟩) (fun k B1 hle1 hI=>?_))))))))
 obtain ⟨rfl,hk,ha⟩:=hI
 have hcc:=Zma 46 l
 refine Zh (Za (xM (h:=xM (h:=xV Tryz.underlying144 (h:=Zag (h:=ZW [(0,_),(3,_),(4,_),(10,_)] t4 (Zb rfl (fun g1=>?_) (fun g1=>?_))))))))
 try simp only [sQ,ne_eq] at g1
 obtain ⟨y,hy⟩ :∃y,(cut 46 l)[k]? = some y:=⟨_,List.getElem?_eq_getElem oz⟩
 have hyl:=Zns 46 l y (List.mem_of_getElem? hy)
 obtain ⟨a,rfl,hsp,hat⟩:=hv.at (B:=B1) (L:=[s]) (i:=k) (v:=str y) 0 rfl (by rw [List.getElem?_map,hy];rfl)
 refine wSk (Zh (Zn (Za (xM (h:=xM (h:=Zm (Za9 rfl rfl Tryz.underlying144 sz9 rfl rfl oz oz ?_)))))))
 refine Zm (Ze rfl rfl lk9 rfl (ZwY hat) (xR ZkK rfl (ZbZ _ oz _) (h:=?_)))
 refine xN (h:=ZW [(0,_),(3,_),(4,_),(10,_),(18,_)] t5 (Zb rfl (fun g2=>?_) (fun g2=>?_)))
 try simp only [sQ,ne_eq] at g2
 refine Za (xA (h:=ZW [(0,_),(2,_),(3,_),(4,_),(10,_),(18,_)] t6 (Zd (ZI (Zp (Zur (ZI (Zp ?_))))))))
 exact eR t1 ⟨Zk (by simp [Zcm,Zmk hy g2]),rfl,rfl⟩
 try simp only [sQ,ne_eq] at g2
 refine ZL (Zw (Zj (Zc (xM (h:=Zm (ZeY rfl rfl rfl rfl (by first | exact ZaY oz oz | rfl) ?_))))))
 refine xA (h:=?_)
 exact ZoL (k+1) oz ⟨rfl,oz,Zjg hy g2 ha⟩ t3 rfl
 try simp only [sQ,ne_eq] at g1
 obtain hke:k=(cut 46 l).length:=by omega
 rw [hke,List.take_length] at ha
 refine ZU (Zak (ZoK (ZK (Zj (Za (xM (h:=xV Tryz.underlying144 (h:=ZcO (h:=xM (h:=Zq (d:=22) rfl (fun g3=>?_) (fun g3=>?_)))))))))))
 try simp only [sQ,ne_eq] at g3
 refine xM (h:=xVs Tryz.underlying9 (h:=ZcO (h:=xT (h:=xA (h:=ZW [(0,_),(2,_),(3,_),(4,_),(10,_)] t5 (Zd ?_))))))
 exact eR t1 ⟨Zk (by rw [Bool.eq_iff_iff];simp [Zcm,ha];omega),rfl,rfl⟩
 try simp only [sQ,ne_eq] at g3
 refine xP (h:=xP (h:=xP (h:=xF (h:=xA (h:=ZW [(0,_),(2,_),(3,_),(4,_),(10,_)] t5 (Zd ?_))))))
 exact eR t1 ⟨Zk (by rw [Bool.eq_iff_iff];simp [Zcm,ha];omega),rfl,rfl⟩

theorem Zc6 (q:Option Addr) (cp:Nat) (us:List DUser) (u:Str) (B:Kn) (hu:SlK B q cp 3 ZA us):ZaX (pj J) 84 [.slice q us.length cp,str u] B (.int .i64 (ZdO us u)):=by
 refine cB 20 Tryz.func84 (h:=?_)
 have hun:=hu.len
 refine Za (xA (h:=Zh (Za (xA (h:=Zn (ZQ (α:=Nat) [0,1] (fun k=>[(5,.int .i64 k)]) [] (fun k=>[]) (fun k Bx=>Bx=B∧k≤us.length∧∀x,x∈us.take k→x.name≠u) (fun k=>us.length - k) 0 t1 rfl (⟨rfl,Nat.zero_le _,by simp⟩) (fun k B1 hle1 hI=>?_)))))))
 obtain ⟨rfl,hk,ha⟩:=hI
 refine ZN [(0,_),(1,_),(5,_)] [] t3 rfl (Zh (Za (xM (h:=xM (h:=xV Tryz.underlying38 (h:=Zag (h:=Zb rfl (fun g1=>?_) (fun g1=>?_))))))))
 try simp only [sQ,ne_eq] at g1
 refine wSk (Zh (Zn (Za (xM (h:=xM (h:=?_))))))
 obtain ⟨x,hx⟩:=ZaA (xs:=us) (i:=k) om
 obtain ⟨bb3,oo3,rfl⟩:=hu.base hx
 obtain ⟨_,⟨rfl,hb4,hb4b⟩,hc4⟩:=hu.elem hx
 refine xIx Tryz.underlying38 ZbQ (h:=xW Zb7 (h:=y1 lk9 hc4 0 (h:=xM (h:=Zeh (h:=Zb rfl (fun g2=>?_) (fun g2=>?_))))))
 try simp only [sQ,ne_eq] at g2
 refine Za (xM (h:=xA (h:=Zd (ZI (Zp (Z7 (ZI (Zp ?_))))))))
 exact eR t1 ⟨ZaH (ZsV hx g2 ha).symm,rfl,rfl⟩
 try simp only [sQ,ne_eq] at g2
 refine ZL (Zw (Zj (Zc (xM (h:=xD (h:=xA (h:=?_)))))))
 exact ZD (k+1) [] so2 ⟨rfl,oz,Zbk hx ha g2⟩ t3 rfl
 try simp only [sQ,ne_eq] at g1
 refine ZU (Zak (Z3 (ZK (Zj (Za (xA (h:=Zd ?_)))))))
 exact eR t1 ⟨ZaH (ZqR (Zby oz ha)).symm,rfl,rfl⟩

theorem Zoa (q:Option Addr) (cp:Nat) (xs:List Str) (u:Str) (B:Kn) (ha:SlK B q cp 1 ZbO xs):ZaX (pj J) 244 [.slice q xs.length cp,str u] B (.bool (decide (u∈xs))):=by
 refine cB 18 Tryz.func244 (h:=?_)
 have han:=ha.len
 refine Za (xA (h:=Zh (Za (xA (h:=Zn (ZQ (α:=Nat) [0,1] (fun k=>[(5,.int .i64 k)]) [] (fun k=>[]) (fun k Bx=>Bx=B∧k≤xs.length∧∀x,x∈xs.take k→x≠u) (fun k=>xs.length - k) 0 t1 rfl (⟨rfl,Nat.zero_le _,by simp⟩) (fun k B1 hle1 hI=>?_)))))))
 obtain ⟨rfl,hk,hn⟩:=hI
 refine ZN [(0,_),(1,_),(5,_)] [] t3 rfl (Zh (Za (xM (h:=xM (h:=xV Tryz.underlying144 (h:=Zag (h:=Zb rfl (fun g1=>?_) (fun g1=>?_))))))))
 try simp only [sQ,ne_eq] at g1
 refine wSk (Zh (Zn (Za (xM (h:=xM (h:=?_))))))
 obtain ⟨x,hx⟩:=ZaA (xs:=xs) (i:=k) om
 obtain ⟨bb3,oo3,rfl⟩:=ha.base hx
 obtain ⟨_,⟨rfl,hb4⟩,hc4⟩:=ha.elem hx
 refine xIx Tryz.underlying144 sz9 (h:=y1 lk9 hc4 0 (h:=xM (h:=Zeh (h:=Zb rfl (fun g2=>?_) (fun g2=>?_)))))
 try simp only [sQ,ne_eq] at g2
 refine Za (xA (h:=Zd (ZI (Zp (Z7 (ZI (Zp ?_)))))))
 exact eR t1 ⟨Zk (ZzK hx g2),rfl,rfl⟩
 try simp only [sQ,ne_eq] at g2
 refine ZL (Zw (Zj (Zc (xM (h:=xD (h:=xA (h:=?_)))))))
 exact ZD (k+1) [] so2 ⟨rfl,oz,Zbk hx hn g2⟩ t3 rfl
 try simp only [sQ,ne_eq] at g1
 refine ZU (Zak (Z3 (ZK (Zj (Za (xA (h:=Zd ?_)))))))
 exact eR t1 ⟨Zk (ZzL (Zby oz hn)),rfl,rfl⟩

theorem Zo7 (q:Option Addr) (cp:Nat) (xs:List Str) (B:Kn) (ha:SlK B q cp 1 ZbO xs):ZaX (pj J) 192 [.slice q xs.length cp] B (.bool (ZcS xs)):=by
 refine cB 29 Tryz.func192 (h:=?_)
 have han:=ha.len
 refine Za (xA (h:=Zh (Za (xA (h:=Zn (ZQ (α:=Nat) [0] (fun k=>[(3,.int .i64 k)]) [] (fun k=>[]) (fun k Bx=>Bx=B∧k≤xs.length∧(xs.take k).all Zal=true∧(xs.take k).Nodup) (fun k=>xs.length - k) 0 t1 rfl (⟨rfl,Nat.zero_le _,by simp,by simp⟩) (fun k B1 hle1 hI=>?_)))))))
 obtain ⟨rfl,hk,hv,hn⟩:=hI
 refine ZN [(0,_),(3,_)] [] t2 rfl (Zh (Za (xM (h:=xM (h:=xV Tryz.underlying144 (h:=Zag (h:=Zb rfl (fun g1=>?_) (fun g1=>?_))))))))
 try simp only [sQ,ne_eq] at g1
 refine wSk (Zh (Zn (Zh (ZV (same _ _) mo kr ⟨rfl,rfl⟩ (fun _ _=>?_)))))
 refine aM 0 rfl (h:=aM 1 rfl (h:=?_))
 obtain ⟨x,hx⟩:=ZaA (xs:=xs) (i:=k) om
 obtain ⟨bb3,oo3,rfl⟩:=ha.base hx
 obtain ⟨_,⟨rfl,hb4⟩,hc4⟩:=ha.elem hx
 refine aIx 2 rfl Tryz.underlying144 sz9 (h:=aT 3 rfl (Zaj fun D=>Ze rfl rfl lk9 rfl (hc4 _ 0 _ rfl) r4) (h:=aT 4 rfl (Zaj fun D=>ZaF rfl rfl ZkK rfl (ZbZ _ om2 _) r4) (h:=?_)))
 refine aN 5 rfl (h:=aM 6 rfl (h:=ZaE (d:=16) rfl (fun g2=>?_) (fun g2=>?_)))
 try simp only [sQ,ne_eq] at g2
 refine aZ 7 rfl (h:=aZ 8 rfl (h:=aZ 9 rfl (h:=aZ 10 rfl (h:=aZ 11 rfl (h:=aZ 12 rfl (h:=aZ 13 rfl (h:=aZ 14 rfl (h:=aPT 15 rfl (h:=Zv kr kr ?_)))))))))
 refine Zj (Zb (t:=true) rfl (fun _=>Za (xA (h:=Zd (ZI (Zp (Z7 (ZI (Zp ?_)))))))) (fun h=>Bool.noConfusion h))
 exact eR t1 ⟨Zk (Zhp hx g2),rfl,rfl⟩
 try simp only [sQ,ne_eq] at g2
 refine aM 7 rfl (h:=aM 8 rfl (h:=?_))
 obtain ⟨hq6,q6,cp6,hv6,hr6⟩:=ha.cutE 0 k om om
 have hr6n:=hr6.len
 refine aT 9 rfl (Zaj fun D=>Zhg (a:=0) (b:=k) hv6 om hq6 rfl rfl Tryz.underlying144 sz9 rfl rfl ⟨_,_,rfl,by first | omega | (simp;done) | (simp;omega)⟩ r4) (h:=?_)
 refine aM 10 rfl (h:=aM 11 rfl (h:=aIx 12 rfl Tryz.underlying144 sz9 (h:=aT 13 rfl (Zaj fun D=>Ze rfl rfl lk9 rfl (hc4 _ 0 _ rfl) r4) (h:=aT 14 rfl (Zaj fun D=>ZaF rfl rfl ZwE rfl (Zoa _ _ _ _ _ hr6) r4) (h:=aPF 15 rfl (h:=Zv kr kr ?_))))))
 refine Zj (Zb rfl (fun g3=>?_) (fun g3=>?_))
 try simp only [sQ,ne_eq] at g3
 refine Za (xA (h:=Zd (ZI (Zp (Z7 (ZI (Zp ?_)))))))
 exact eR t1 ⟨Zk (Zho hx (by simpa using g3)),rfl,rfl⟩
 try simp only [sQ,ne_eq] at g3
 refine ZL (Zw (Zj (Zc (xM (h:=xD (h:=xA (h:=?_)))))))
 exact ZD (k+1) [] so2 ⟨rfl,oz,Zjg hx g2 hv,Zqv hx hn (by simpa using g3)⟩ t2 rfl
 try simp only [sQ,ne_eq] at g1
 refine ZU (Zak (Z3 (ZK (Zj (Za (xM (h:=xV Tryz.underlying144 (h:=ZcO (h:=xA (h:=Zd ?_))))))))))
 exact eR t1 ⟨Zk (Ziw oz hv hn),rfl,rfl⟩

theorem Ze1 (q:Option Addr) (cp:Nat) (x:DLetter) (B:Kn) (ha:SlK B q cp 1 ZbO x.to_) (h1:x.fr.length≤2000000) (h2:x.text.length≤2000000):ZaX (pj J) 135 [.agg #[str x.fr,.slice q x.to_.length cp,str x.text]] B (.bool (ZaM x)):=by
 refine cB 23 Tryz.func135 (h:=?_)
 refine Za (xBx [_,_,_] (h:=fun b1=>xA (h:=tL1 (Za (xW ZiY (h:=x1 lk9 0 (h:=xR ZkK rfl (ZbZ _ om2 _) (h:=?_))))))))
 refine xM (h:=Zq (d:=6) rfl (fun g1=>?_) (fun g1=>?_))
 try simp only [sQ,ne_eq] at g1
 refine xW ZiX (h:=x1 Zda 0 (h:=xR ZyI rfl (Zo7 _ _ _ _ ha) (h:=xT (h:=xM (h:=Zq (d:=11) rfl (fun g2=>?_) (fun g2=>?_))))))
 try simp only [sQ,ne_eq] at g2
 refine xW ZiX (h:=x1 Zda 0 (h:=xV Tryz.underlying144 (h:=ZbG (h:=xT (h:=xM (h:=Zq (d:=17) rfl (fun g3=>?_) (fun g3=>?_)))))))
 try simp only [sQ,ne_eq] at g3
 refine xW Znl (h:=x1 lk9 0 (h:=xVs Tryz.underlying9 (h:=ZcO (h:=xT (h:=xA (h:=Zd ?_))))))
 exact eR t1 ⟨Zk (by rw [Bool.eq_iff_iff];simp [ZaM,g1,g2,g3];try omega),rfl,rfl⟩
 try simp only [sQ,ne_eq] at g3
 refine xP (h:=xP (h:=xP (h:=xP (h:=xF (h:=xA (h:=Zd ?_))))))
 exact eR t1 ⟨Zk (by rw [Bool.eq_iff_iff];simp [ZaM,g1,g2,g3];try omega),rfl,rfl⟩
 try simp only [sQ,ne_eq] at g2
 refine xP (h:=xP (h:=xP (h:=xP (h:=xF (h:=xM (h:=xP (h:=xP (h:=xP (h:=xP (h:=xF (h:=xA (h:=Zd ?_))))))))))))
 exact eR t1 ⟨Zk (by rw [Bool.eq_iff_iff];simp [ZaM,g1,g2];try omega),rfl,rfl⟩
 try simp only [sQ,ne_eq] at g1
 refine xP (h:=xP (h:=xP (h:=xF (h:=xM (h:=xP (h:=xP (h:=xP (h:=xP (h:=xF (h:=xM (h:=xP (h:=xP (h:=xP (h:=xP (h:=xF (h:=xA (h:=Zd ?_)))))))))))))))))
 exact eR t1 ⟨Zk (by rw [Bool.eq_iff_iff];simp [ZaM,g1];try omega),rfl,rfl⟩

theorem ZuR (q:Option Addr) (cp:Nat) (xs:List Str) (v:Str) (B:Kn) (ha:SlK B q cp 1 ZbO xs):ZaX (pj J) 284 [.slice q xs.length cp,str v] B (.int .i64 (ZxT xs v)):=by
 refine cB 19 Tryz.func284 (h:=?_)
 have han:=ha.len
 refine Za (xA (h:=Zh (Za (xM (h:=xV Tryz.underlying144 (h:=xM (h:=Zn (ZQ (α:=Nat) [0,1,7] (fun k=>[(8,.int .i64 k)]) [] (fun k=>[]) (fun k Bx=>Bx=B∧k≤xs.length∧∀x,x∈xs.take k→decide (x=v)=false) (fun k=>xs.length - k) 0 t1 rfl (⟨rfl,Nat.zero_le _,by simp⟩) (fun k B1 hle1 hI=>?_)))))))))
 obtain ⟨rfl,hk,hn⟩:=hI
 refine ZN [(0,_),(1,_),(7,_),(8,_)] [] t4 rfl (Za (Zag (h:=Zh (Zb rfl (fun g1=>?_) (fun g1=>?_)))))
 try simp only [sQ,ne_eq] at g1
 refine wSk (Zh (Zn (Za (xM (h:=xA (h:=Za (xM (h:=xM (h:=xM (h:=?_))))))))))
 obtain ⟨x,hx⟩:=ZaA (xs:=xs) (i:=k) om
 obtain ⟨bb3,oo3,rfl⟩:=ha.base hx
 obtain ⟨_,⟨rfl,hb4⟩,hc4⟩:=ha.elem hx
 refine xIx Tryz.underlying144 sz9 (h:=y1 lk9 hc4 0 (h:=Zeh (h:=Zb rfl (fun g2=>?_) (fun g2=>?_))))
 try simp only [sQ,ne_eq] at g2
 refine Za (xM (h:=xA (h:=Zd (ZI (Zp (Z7 (ZI (Zp ?_))))))))
 exact eR t1 ⟨ZaH (ZhS hx (by simp [g2]) hn).symm,rfl,rfl⟩
 try simp only [sQ,ne_eq] at g2
 refine ZL (Zw (Zj (Zc (xD (h:=xM (h:=?_))))))
 exact ZD (k+1) [] so2 ⟨rfl,oz,Zbk hx hn (by simp [Ne.symm g2])⟩ t4 rfl
 try simp only [sQ,ne_eq] at g1
 refine ZU (Zak (Z3 (ZK (Zj (Za (xA (h:=Zd ?_)))))))
 exact eR t1 ⟨ZaH (Zfc (Zby oz hn)).symm,rfl,rfl⟩

theorem Zps (q:Option Addr) (cp:Nat) (xs:List Str) (v:Str) (B:Kn) (ha:SlK B q cp 1 ZbO xs):ZaX (pj J) 265 [.slice q xs.length cp,str v] B (.bool (decide (v∈xs))):=by
 refine cB 9 Tryz.func265 (h:=?_)
 refine Za (xA (h:=Za (xM (h:=xM (h:=xR Zyc rfl (ZuR _ _ _ _ _ ha) (h:=ZdN (h:=xA (h:=Zd ?_))))))))
 exact eR t1 ⟨Zk (by rw [Bool.eq_iff_iff];simp [ZsW]),rfl,rfl⟩

theorem ZmP (q:Option Addr) (cp:Nat) (xs:List Str) (B:Kn) (ha:SlK B q cp 1 ZbO xs):ZaX (pj J) 220 [.slice q xs.length cp] B (.bool (decide (1≤xs.length) && ZcS xs)):=by
 refine cB 31 Tryz.func220 (h:=?_)
 have han:=ha.len
 refine Za (xA (h:=Zh (Za (xM (h:=xV Tryz.underlying144 (h:=Zag (h:=xM (h:=Zq (d:=8) rfl (fun g1=>?_) (fun g1=>?_)))))))))
 try simp only [sQ,ne_eq] at g1
 refine xP (h:=xP (h:=xP (h:=xT (h:=Zb (t:=true) rfl (fun _=>Za (xA (h:=Zd (Zp ?_)))) (fun h=>Bool.noConfusion h)))))
 exact eR t1 ⟨Zk (by simp;omega),rfl,rfl⟩
 try simp only [sQ,ne_eq] at g1
 refine xM (h:=xV Tryz.underlying144 (h:=ZbG (h:=xF (h:=Zb rfl (fun g2=>?_) (fun g2=>?_)))))
 try simp only [sQ,ne_eq] at g2
 refine Za (xA (h:=Zd (Zp ?_)))
 exact eR t1 ⟨Zk (by simp [ZcS];omega),rfl,rfl⟩
 try simp only [sQ,ne_eq] at g2
 refine wSk (Zh (Za (xM (h:=xV Tryz.underlying144 (h:=xM (h:=Zn (ZQ (α:=Nat) [0,12,13,14] (fun k=>[(15,.int .i64 k)]) [] (fun k=>[]) (fun k Bx=>Bx=B∧k≤xs.length∧(xs.take k).all Zal=true∧(xs.take k).Nodup) (fun k=>xs.length - k) 0 t1 rfl (⟨rfl,Nat.zero_le _,by simp,by simp⟩) (fun k B1 hle1 hI=>?_))))))))
 obtain ⟨rfl,hk,hv,hn⟩:=hI
 refine ZN [(0,_),(12,_),(13,_),(14,_),(15,_)] [] t5 rfl (Za (Zag (h:=Zh (Zb rfl (fun g3=>?_) (fun g3=>?_)))))
 try simp only [sQ,ne_eq] at g3
 refine wSk (Zh (Zn (Za (xM (h:=?_)))))
 obtain ⟨x,hx⟩:=ZaA (xs:=xs) (i:=k) om
 obtain ⟨bb3,oo3,rfl⟩:=ha.base hx
 obtain ⟨_,⟨rfl,hb4⟩,hc4⟩:=ha.elem hx
 refine xIx Tryz.underlying144 sz9 (h:=y1 lk9 hc4 0 (h:=xA (h:=xA (h:=Za (xM (h:=xR Zl7 rfl (Zcu _ om2 _) (h:=?_)))))))
 refine xN (h:=xM (h:=Zq (d:=23) rfl (fun g4=>?_) (fun g4=>?_)))
 try simp only [sQ,ne_eq] at g4
 refine xP (h:=xP (h:=xP (h:=xP (h:=xP (h:=xT (h:=Zb (t:=true) rfl (fun _=>Za (xA (h:=Zd (ZI (Zp (Z7 (ZI (Zp ?_)))))))) (fun h=>Bool.noConfusion h)))))))
 exact eR t1 ⟨Zk (by rw [← Zhp hx g4,Bool.and_false]),rfl,rfl⟩
 try simp only [sQ,ne_eq] at g4
 refine xM (h:=xM (h:=?_))
 obtain ⟨hq6,q6,cp6,hv6,hr6⟩:=ha.cutE 0 k om om
 have hr6n:=hr6.len
 refine Zm (Zhg (a:=0) (b:=k) hv6 om hq6 rfl rfl Tryz.underlying144 sz9 rfl rfl ⟨_,_,rfl,by first | omega | (simp;done) | (simp;omega)⟩ ?_)
 refine xM (h:=xR Zyh rfl (Zps _ _ _ _ _ hr6) (h:=xF (h:=Zb rfl (fun g5=>?_) (fun g5=>?_))))
 try simp only [sQ,ne_eq] at g5
 refine Za (xA (h:=Zd (ZI (Zp (Z7 (ZI (Zp ?_)))))))
 exact eR t1 ⟨Zk (by rw [← Zho hx (by simpa using g5),Bool.and_false]),rfl,rfl⟩
 try simp only [sQ,ne_eq] at g5
 refine ZL (Zw (Zj (Zc (xD (h:=xM (h:=?_))))))
 exact ZD (k+1) [] so2 ⟨rfl,oz,Zjg hx g4 hv,Zqv hx hn (by simpa using g5)⟩ t5 rfl
 try simp only [sQ,ne_eq] at g3
 refine ZU (Zak (Z3 (ZK (Zj (Za (xA (h:=Zd ?_)))))))
 exact eR t1 ⟨Zk (by rw [← Ziw oz hv hn];simp;omega),rfl,rfl⟩

theorem ZlQ (q:Option Addr) (cp:Nat) (x:DLetter) (B:Kn) (ha:SlK B q cp 1 ZbO x.to_) (h1:x.fr.length≤2000000) (h2:x.text.length≤2000000):ZaX (pj J) 177 [.agg #[str x.fr,.slice q x.to_.length cp,str x.text]] B (.bool (ZaM x)):=by
 refine cB 17 Tryz.func177 (h:=?_)
 refine Za (xBx [_,_,_] (h:=fun b1=>xA (h:=tL1 (Za (xW ZiY (h:=x1 lk9 0 (h:=xR Zl7 rfl (Zcu _ om2 _) (h:=?_))))))))
 refine xM (h:=Zq (d:=6) rfl (fun g1=>?_) (fun g1=>?_))
 refine xW ZiX (h:=x1 Zda 0 (h:=xR Zyy rfl (ZmP _ _ _ _ ha) (h:=xT (h:=xM (h:=Zq (d:=11) rfl (fun g2=>?_) (fun g2=>?_))))))
 refine xW Znl (h:=x1 lk9 0 (h:=xVs Tryz.underlying9 (h:=ZcO (h:=xT (h:=xA (h:=Zd ?_))))))
 exact eR t1 ⟨Zk (by rw [Ze8];simp [g1,g2]),rfl,rfl⟩
 refine xP (h:=xP (h:=xP (h:=xP (h:=xF (h:=xA (h:=Zd ?_))))))
 exact eR t1 ⟨Zk (by rw [Ze8];simp [g1,g2]),rfl,rfl⟩
 refine xP (h:=xP (h:=xP (h:=xF (h:=xM (h:=xP (h:=xP (h:=xP (h:=xP (h:=xF (h:=xA (h:=Zd ?_)))))))))))
 exact eR t1 ⟨Zk (by rw [Ze8];simp [g1]),rfl,rfl⟩

theorem Zm3 (b:Nat) (q:Option Addr) (m cp p:Nat) (hp:p≤900000000000) (hm:m≤2000) (B:Kn) (hbm:Zan B q m):Ex1 (pj J) 165 [ptr ⟨b,0,none⟩] B (rd b q m cp p) (fun v s=>∃x:Str,v=str x∧x.length≤40∧s=rd b q m cp (p+2)):=by
 refine cB 12 Tryz.func165 (h:=?_)
 refine Za (xA (h:=Zh (Za (xM (h:=xX 0 rfl Z6 rfl (ZJ _ _ _ _ _ _ oz oz oz hm _ hbm) (h:=?_))))))
 rintro _ _ ⟨r1,rfl,r1a,r1b,rfl⟩
 refine ZG (h:=tL1 (Zb rfl (fun g1=>?_) (fun g1=>?_)))
 refine Za (xM (h:=xBs [(0,_),(1,_),(2,_),(3,_),(4,_),(5,_),(6,_),(7,_),(8,_)] [_,_,_,_,_,_,_,_,_] Tryz.underlying144 sz9 zo9 (h:=fun b2=>xK [0,1] rfl Zgy rfl (Zqp _ _ _ _ _ _ ([[],[46],[97,46,46,98],[97,46,98,46,99,46,100],[97,46,98,46,99],[97,98,99,100,101,102,103,104,46,97,98,99,100,101,102,103,104,46,97,98,99],[97,98,99,100,101,102,103,104,46,97,98,99,100,101,102,103,104,46,97,98],[104,111,115,116,46],[72,111,115,116,46,111,114,103]]:List Str) oz (by decide) (by decide) hm _ hbm) (h:=?_))))
 rintro _ B3 _ hle3 ⟨rfl,x3,hx3,rfl,rfl⟩
 replace hx3:=(show∀y∈( ([[],[46],[97,46,46,98],[97,46,98,46,99,46,100],[97,46,98,46,99],[97,98,99,100,101,102,103,104,46,97,98,99,100,101,102,103,104,46,97,98,99],[97,98,99,100,101,102,103,104,46,97,98,99,100,101,102,103,104,46,97,98],[104,111,115,116,46],[72,111,115,116,46,111,114,103]]:List Str):List Str),y.length≤40 from by decide) _ hx3
 refine xA (h:=tL2 (Zd (Zp ?_)))
 exact e1 0 rfl t1 ⟨rfl,_,rfl,_,rfl,hx3,rfl⟩
 refine wSk (Za (xM (h:=xBs [(0,_),(1,_),(2,_),(3,_)] [_,_,_,_] Tryz.underlying144 sz9 zo9 (h:=fun b4=>xK [0,1] rfl Zgy rfl (Zqp _ _ _ _ _ _ ([[104,111,115,116,46,111,114,103],[104,111,115,116],[97,46,98,46,99],[111,116,104,101,114,46,110,101,116]]:List Str) oz (by decide) (by decide) hm _ hbm) (h:=?_)))))
 rintro _ B5 _ hle5 ⟨rfl,x5,hx5,rfl,rfl⟩
 replace hx5:=(show∀y∈( ([[104,111,115,116,46,111,114,103],[104,111,115,116],[97,46,98,46,99],[111,116,104,101,114,46,110,101,116]]:List Str):List Str),y.length≤40 from by decide) _ hx5
 refine xA (h:=tL2 (Zd ?_))
 exact e1 0 rfl t1 ⟨rfl,_,rfl,_,rfl,hx5,rfl⟩

theorem ZfT (aq:Option Addr) (cq:Nat) (q:DQueue) (B:Kn) (hq:SlK B aq cq 4 ZC q.items):ZaX (pj J) 81 [.agg #[.int .i64 q.next,.slice aq q.items.length cq]] B (.bool (Zad q)):=by
 refine cB 48 Tryz.func81 (h:=?_)
 have hqn:=hq.len
 refine Za (xBx [_,_] (h:=fun b1=>xA (h:=tL1 (Za (xA (h:=Zh (Za (xA (h:=Zn (ZQ (α:=Nat × Int) [0,1] (fun p=>[(3,.int .i64 p.2),(4,.int .i64 p.1)]) [] (fun p=>[]) (fun p Bx=>Bx=B∧p.1≤q.items.length∧Zc2 0 q.items=Zc2 p.2 (q.items.drop p.1)∧0≤p.2∧p.2≤99) (fun p=>q.items.length - p.1) (0,0) t2 rfl (⟨rfl,Nat.zero_le _,rfl,by decide,by decide⟩) (fun p B2 hle2 hI=>?_)))))))))))
 obtain ⟨rfl,hk,hs,hl0,hl1⟩:=hI
 refine ZN [(0,_),(1,_),(3,_),(4,_)] [_] t4 rfl (Zh (Za (xM (h:=xW ZaC (h:=x1 Ze7 0 (h:=xV Tryz.underlying40 (h:=Zag (h:=Zb rfl (fun g1=>?_) (fun g1=>?_)))))))))
 try simp only [sQ,ne_eq] at g1
 refine wSk (Zh (Zn (Za (xW ZaC (h:=x1 Ze7 0 (h:=xM (h:=?_)))))))
 obtain ⟨x,hx⟩:=ZaA (xs:=q.items) (i:=p.1) om
 obtain ⟨bb4,oo4,rfl⟩:=hq.base hx
 obtain ⟨_,⟨qi5,ci5,rfl,hi5,hb5,hb5b⟩,hc5⟩:=hq.elem hx
 have hi5n:=hi5.len
 refine xIx Tryz.underlying40 Zbn (h:=?_)
 replace hs:=Zqh hs hx
 refine yL [_,_,_,_] Zec hc5 0 (h:=xAl [_,_,_,_] Zc1 (h:=fun b6=>xS [_,_,_,_] 1 [_,_,_,_] Zbn (h:=tL2 (Zh (Za (xW ZdE (h:=x1 lk3 1 (h:=xM (h:=xD (h:=xR ZjW rfl (Zct _ _ _ _) (h:=xN (h:=xM (h:=Zq (d:=24) rfl (fun g2=>?_) (fun g2=>?_))))))))))))))
 try simp only [sQ,ne_eq] at g2
 refine xP (h:=xP (h:=xP (h:=xP (h:=xP (h:=xP (h:=xP (h:=xP (h:=xP (h:=xT (h:=Zb (t:=true) rfl (fun _=>Za (xA (h:=Zd (Zp (ZI (Zp (Z7 (ZI (Zp ?_))))))))) (fun h=>Bool.noConfusion h)))))))))))
 exact eR t1 ⟨Zk (ZnZ (by rw [hs,if_neg];intro h;simp [h.1] at g2)),rfl,rfl⟩
 try simp only [sQ,ne_eq] at g2
 simp only [Bool.and_eq_true,decide_eq_true_eq] at g2
 refine xW ZkH (h:=x1 lk9 1 (h:=xW ZaR (h:=x1 Zda 1 (h:=xW Znn (h:=x1 lk9 1 (h:=xB [(0,_),(1,_),(2,_)] [_,_,_] [_,_,_] Zsv Zov (h:=xR Zvj rfl (Ze1 _ _ ⟨x.fr,x.left,x.text⟩ _ hi5 oa oa) (h:=?_))))))))
 refine xN (h:=xF (h:=Zb rfl (fun g3=>?_) (fun g3=>?_)))
 try simp only [sQ,ne_eq] at g3
 refine Za (xA (h:=Zd (Zp (ZI (Zp (Z7 (ZI (Zp ?_))))))))
 exact eR t1 ⟨Zk (ZnZ (by rw [hs,if_neg];intro h;rw [ZcH,g3] at h;cases h.2)),rfl,rfl⟩
 try simp only [sQ,ne_eq] at g3
 refine wSk (Zc (xW ZdE (h:=x1 lk3 1 (h:=xA (h:=Zw (Zj (Zc (xM (h:=xD (h:=xA (h:=?_)))))))))))
 exact ZD (p.1+1,x.id) [0] so2 ⟨rfl,so,by rw [hs,if_pos ⟨g2,g3⟩],so,so⟩ t4 rfl
 try simp only [sQ,ne_eq] at g1
 rw [Zrs oz,Zc2] at hs
 refine ZU (Zak (Z3 (ZK (Zj (Za (xW ZeU (h:=x1 lk3 0 (h:=xM (h:=xD (h:=xR ZjW rfl (Zct _ _ _ _) (h:=xM (h:=Zq (d:=42) rfl (fun g1=>?_) (fun g1=>?_)))))))))))))
 try simp only [sQ,ne_eq] at g1
 refine xW ZaC (h:=x1 Ze7 0 (h:=xV Tryz.underlying40 (h:=ZcO (h:=xT (h:=xA (h:=Zd ?_))))))
 exact eR t1 ⟨Zk (by rw [← ZnY hs,Bool.eq_iff_iff];simp [g1,g1];try omega),rfl,rfl⟩
 try simp only [sQ,ne_eq] at g1
 refine xP (h:=xP (h:=xP (h:=xP (h:=xF (h:=xA (h:=Zd ?_))))))
 exact eR t1 ⟨Zk (by rw [← ZnY hs,Bool.eq_iff_iff];simp [g1,g1];try omega),rfl,rfl⟩

theorem ZsO (l:Str) (n:Nat) (hl:l.length*n≤100000) (hn:n≤100000) (hl2:l.length≤100000) (B:Kn):ZaX (pj J) 255 [str l,.int .i64 n] B (str (rep l n)):=by
 refine cB 20 Tryz.func255 (h:=?_)
 refine Za (xA (h:=Za (xA (h:=Zh (Zn (ZQ (α:=Str × Str × Nat) [4] (fun p=>[(0,str p.1),(1,.int .i64 p.2.2),(5,str p.2.1)]) [] (fun p=>[]) (fun p Bx=>Bx=B∧rep l n=p.2.1 ++ rep p.1 p.2.2∧p.2.2≤n∧p.1.length≤200000∧p.2.1.length≤100000∧(0<p.2.2→p.1.length≤100000)) (fun p=>p.2.2) (l,[],n) t3 rfl (⟨rfl,rfl,Nat.le_refl _,so,by simp,fun _=>hl2⟩) (fun p B1 hle1 hI=>?_)))))))
 obtain ⟨rfl,hr,h1,h2,h3,h4⟩:=hI
 have hrl:=congrArg List.length hr
 rw [List.length_append,Zkg,Zkg,Nat.mul_comm] at hrl
 refine ZN [(0,_),(1,_),(4,_),(5,_)] [] t4 rfl (Zh (Za (xM (h:=ZbG (h:=Zb rfl (fun g1=>?_) (fun g1=>?_))))))
 try simp only [sQ,ne_eq] at g1
 have hp0:0<p.2.2:=by omega
 replace h4:=h4 hp0
 have hm1:=Nat.le_mul_of_pos_left p.1.length hp0
 have e1:Int.tdiv (p.2.2:Int) 2=((p.2.2 / 2:Nat):Int):=by rw [Int.tdiv_eq_ediv_of_nonneg oz];omega
 have e2:Int.tmod (p.2.2:Int) 2=((p.2.2 % 2:Nat):Int):=by rw [Int.tmod_eq_emod_of_nonneg oz];omega
 refine wSk (Zn (Zh (Za (xM (h:=Zm (ZhB rfl rfl rfl rfl oz rfl ?_))))))
 refine ZG (h:=Zb rfl (fun g2=>?_) (fun g2=>?_))
 try simp only [sQ,ne_eq] at g2
 rw [e2] at g2
 have hro:=Zus p.1 p.2.2 oz
 have hol:=Zkg (p.1 ++ p.1) (p.2.2 / 2)
 refine Zc (xM (h:=xM (h:=Zm (Zud rfl rfl rfl rfl (by first | omega | (simp;omega)) ?_))))
 refine xA (h:=Zj (Za (xM (h:=xM (h:=Zm (Zud rfl rfl rfl rfl (by first | omega | (simp;omega)) ?_))))))
 refine xA (h:=Zc (xM (h:=Zm (Zia rfl rfl rfl rfl oz (by first | exact ZaY om om | rfl) ?_))))
 refine xA (h:=Zw ?_)
 exact ZD (p.1 ++ p.1,p.2.1 ++ p.1,p.2.2 / 2) [] so2 ⟨rfl,by rw [hr,hro,List.append_assoc],so,by simp only [List.length_append];omega,by simp only [List.length_append];omega,fun h=>by simp only [List.length_append] at h ⊢;have:=Nat.mul_le_mul_right p.1.length (show 2≤p.2.2 by omega);omega⟩ t4 rfl
 try simp only [sQ,ne_eq] at g2
 rw [e2] at g2
 have hro:=Zsp p.1 p.2.2 oz
 refine wSk (Za (xM (h:=xM (h:=Zm (Zud rfl rfl rfl rfl (by first | omega | (simp;omega)) ?_)))))
 refine xA (h:=Zc (xM (h:=Zm (Zia rfl rfl rfl rfl oz (by first | exact ZaY om om | rfl) ?_))))
 refine xA (h:=Zw ?_)
 exact ZD (p.1 ++ p.1,p.2.1,p.2.2 / 2) [] so2 ⟨rfl,by rw [hr,hro],so,by simp only [List.length_append];omega,h3,fun h=>by simp only [List.length_append] at h ⊢;have:=Nat.mul_le_mul_right p.1.length (show 2≤p.2.2 by omega);omega⟩ t4 rfl
 try simp only [sQ,ne_eq] at g1
 refine ZU (Zak (Z3 (ZK (Zj (Za (xM (h:=xA (h:=Zd ?_))))))))
 exact eR t1 ⟨Zwd (by rw [hr,show p.2.2=0 from by omega];simp [rep]),rfl,rfl⟩

theorem Ze9 (b:Nat) (q:Option Addr) (m cp p:Nat) (hp:p≤900000000000) (hm:m≤2000) (B:Kn) (hbm:Zan B q m):Ex1 (pj J) 212 [ptr ⟨b,0,none⟩] B (rd b q m cp p) (fun v s=>∃x:Str,v=str x∧x.length≤40∧s=rd b q m cp (p+2)):=by
 refine cB 13 Tryz.func212 (h:=?_)
 refine Za (xA (h:=Zh (Za (xM (h:=xX 0 rfl Z6 rfl (ZJ _ _ _ _ _ _ oz oz oz hm _ hbm) (h:=?_))))))
 rintro _ _ ⟨r1,rfl,r1a,r1b,rfl⟩
 refine ZG (h:=tL1 (Zb rfl (fun g1=>?_) (fun g1=>?_)))
 refine Za (xM (h:=xX 0 rfl Z6 rfl (ZJ _ _ _ _ _ _ oz oz oz hm _ hbm) (h:=?_)))
 rintro _ _ ⟨ra,rfl,raa,rab,rfl⟩
 refine xD (h:=?_)
 obtain ⟨n3,hn3⟩:=Int.eq_ofNat_of_zero_le (show 0≤19+ra by omega)
 rw [hn3]
 refine xR Zyq rfl (ZsO [120] n3 (by simp;omega) oz (by decide) _) (h:=?_)
 refine xA (h:=tL1 (Zd (Zp ?_)))
 exact e1 0 rfl t1 ⟨rfl,_,rfl,_,rfl,by rw [Zkg];simp;omega,rfl⟩
 refine wSk (Za (xM (h:=xBs [(0,_),(1,_),(2,_),(3,_),(4,_),(5,_)] [_,_,_,_,_,_] Tryz.underlying144 sz9 zo9 (h:=fun b4=>xK [0,1] rfl Zgy rfl (Zqp _ _ _ _ _ _ ([[],[104,101,108,108,111],[97,109,121,32,97,110,100,32,98,111,98],[120],[98,111,120,49,32,111,114,32,120],[116,111,32,98,111,98]]:List Str) oz (by decide) (by decide) hm _ hbm) (h:=?_)))))
 rintro _ B5 _ hle5 ⟨rfl,x5,hx5,rfl,rfl⟩
 replace hx5:=(show∀y∈( ([[],[104,101,108,108,111],[97,109,121,32,97,110,100,32,98,111,98],[120],[98,111,120,49,32,111,114,32,120],[116,111,32,98,111,98]]:List Str):List Str),y.length≤40 from by decide) _ hx5
 refine xA (h:=tL2 (Zd ?_))
 exact e1 0 rfl t1 ⟨rfl,_,rfl,_,rfl,hx5,rfl⟩

theorem ZuJ (b:Nat) (q:Option Addr) (m cp p:Nat) (hp:p≤900000000000) (hm:m≤2000) (B:Kn) (hbm:Zan B q m):Zu (pj J) 256 [ptr ⟨b,0,none⟩] B [rd b q m cp p] (fun v B' Ls=>∃q' cp' xs p',v = .slice q' xs.length cp'∧SlK B' q' cp' 1 ZbO xs∧xs.length≤6∧p'≤p+6∧Ls=[rd b q m cp p']):=by
 refine cB 53 Tryz.func256 (h:=?_)
 refine Za (xA (h:=Za (xBs [] [] Tryz.underlying144 sz9 zo9 (h:=fun b1=>xA (h:=tL2 (Za (xBs [(0,_),(1,_),(2,_),(3,_)] [_,_,_,_] Tryz.underlying144 sz9 zo9 (h:=fun b2=>xA (h:=tL3 (ZdS 2 rfl (ZT.strs (ls:=([[97,109,121],[98,111,98],[99,121,100],[100,97,110]]:List Str)) (by first | decide | (simp;done) | (simp;omega))) ZbO.mono om3 (fun B3 hle3 hr3=>?_)))))))))))
 replace hbm:=hbm.mono hle3
 have hr3n:=hr3.len
 refine Zh (Za (xA (h:=tL3 (Zn (ZQ (α:=Gh Str) [0,2,4] (fun x=>[(3,.slice x.a x.xs.length x.c),(5,.int .i64 x.k)]) [0,1] (fun x=>[rd b q m cp x.p,x.l]) (fun x Bx=>Bx=B3∧x.k≤3∧x.xs.length≤x.k∧x.p≤p+x.k∧ZT Bx x.l x.a x.c 9 1 ZbO x.xs) (fun x=>3 - x.k) ⟨0,p,_,_,_,[]⟩ t2 rfl (⟨rfl,Nat.zero_le _,Nat.le_refl _,Nat.le_refl _,.lit0⟩) (fun x B4 hle4 hI=>?_))))))
 obtain ⟨rfl,hk,hxk,hxp,hv⟩:=hI
 refine ZN [(0,_),(2,_),(3,_),(4,_),(5,_)] [_,_,_] t5 rfl (Zh (Za (xM (h:=Zag (h:=Zb rfl (fun g1=>?_) (fun g1=>?_))))))
 try simp only [sQ,ne_eq] at g1
 refine wSk (Zh (Zn (Za (xM (h:=xX 0 rfl Z6 rfl (ZJ _ _ _ _ _ _ oz oz oz hm _ hbm) (h:=?_))))))
 rintro _ _ ⟨r5,rfl,r5a,r5b,rfl⟩
 refine ZG (h:=tL3 (Zb rfl (fun g2=>?_) (fun g2=>?_)))
 try simp only [sQ,ne_eq] at g2
 refine Zc (xM (h:=xM (h:=xM (h:=?_))))
 obtain ⟨y,hy⟩:=ZaA (xs:=([[97,109,121],[98,111,98],[99,121,100],[100,97,110]]:List Str)) (i:=x.k) om
 obtain ⟨_,⟨rfl,hb7⟩,hc7⟩:=hr3.elem hy
 refine xIx Tryz.underlying144 sz9 (h:=y1 lk9 hc7 0 (h:=xBs [(0,_)] [_] Tryz.underlying144 sz9 zo9 (h:=fun b8=>Zm (Zbe (z:=y) (R:=ZbO) 1 rfl hv rfl rfl rfl ZgY ZgG rfl rfl (ZaO.box 3 rfl) rfl rfl (⟨rfl,by first | assumption | omega | (simp;done) | (simp;omega)⟩) om (fun l9 p9 c9 hv9=>?_)))))
 refine xA (h:=Zw (Zj (Zc (xM (h:=xD (h:=xA (h:=?_)))))))
 exact ZD ⟨x.k+1,(x.p+1),l9,p9,c9,(x.xs ++ [y])⟩ [0,1,2] so2 ⟨rfl,so,by simp;omega,so,hv9⟩ t5 rfl
 try simp only [sQ,ne_eq] at g2
 refine ZL (Zw (Zj (Zc (xM (h:=xD (h:=xA (h:=?_)))))))
 exact ZD ⟨x.k+1,(x.p+1),x.l,x.a,x.c,x.xs⟩ [0,1,2] so2 ⟨rfl,so,so,so,hv⟩ t5 rfl
 try simp only [sQ,ne_eq] at g1
 refine ZU (Zak (Z3 (ZK (Zj (Zh (Za (xM (h:=xV Tryz.underlying144 (h:=ZG (h:=Zb rfl (fun g3=>?_) (fun g3=>?_)))))))))))
 try simp only [sQ,ne_eq] at g3
 refine Zc (xM (h:=xM (h:=xM (h:=xX 0 rfl Z6 rfl (ZJ _ _ _ _ _ _ oz oz oz hm _ hbm) (h:=?_)))))
 rintro _ _ ⟨r10,rfl,r10a,r10b,rfl⟩
 obtain ⟨z,hz⟩:=Zey (xs:=([[97,109,121],[98,111,98],[99,121,100],[100,97,110]]:List Str)) (i:=r10) om om
 obtain ⟨_,⟨rfl,hb12⟩,hc12⟩:=hr3.elem hz
 refine xIx Tryz.underlying144 sz9 (h:=y1 lk9 hc12 0 (h:=xBs [(0,_)] [_] Tryz.underlying144 sz9 zo9 (h:=fun b13=>Zm (Zbe (z:=z) (R:=ZbO) 1 rfl hv rfl rfl rfl ZgY ZgG rfl rfl (ZaO.box 3 rfl) rfl rfl (⟨rfl,by first | assumption | omega | (simp;done) | (simp;omega)⟩) om (fun l14 p14 c14 hv14=>?_)))))
 refine xA (h:=Zj (Zh (Za (xM (h:=xX 0 rfl Z6 rfl (ZJ _ _ _ _ _ _ oz oz oz hm _ hbm) (h:=?_))))))
 rintro _ _ ⟨r15,rfl,r15a,r15b,rfl⟩
 refine tL4 (Zn (Za (ZG (h:=xA (h:=Zb rfl (fun g4=>?_) (fun g4=>?_))))))
 try simp only [sQ,ne_eq] at g4
 refine Zc (xM (h:=xM (h:=?_)))
 obtain ⟨w,hw⟩:=ZaA (xs:=(x.xs ++ [z])) (i:=0) om
 obtain ⟨bb17,_,hp17,⟨rfl,hb17⟩,hw17,hc17⟩:=hv14.row hw
 refine xIp hp17 Tryz.underlying144 sz9 (h:=Zm (Ze rfl rfl lk9 rfl (hc17 _ 1 rfl 0 _ rfl) (xBs [(0,_)] [_] Tryz.underlying144 sz9 zo9 (h:=fun b18=>Zm (Zbe (z:=w) (R:=ZbO) 1 rfl hv14 rfl rfl rfl ZgY ZgG rfl rfl (ZaO.box 4 rfl) rfl rfl (⟨rfl,by first | assumption | omega | (simp;done) | (simp;omega)⟩) om (fun l19 p19 c19 hv19=>?_))))))
 refine xA (h:=Zw (Zj (ZdS 1 rfl hv19 ZbO.mono om3 (fun B20 hle20 hr20=>?_))))
 replace hbm:=hbm.mono hle20
 have hr20n:=hr20.len
 refine Za (xM (h:=xA (h:=tL5 (Zd ?_))))
 exact eN [0] rfl t1 ⟨_,_,_,_,rfl,hr20,by first | omega | (simp;done) | (simp;omega),oz,rfl⟩
 try simp only [sQ,ne_eq] at g4
 refine Za (ZG (h:=xA (h:=Zb rfl (fun g5=>?_) (fun g5=>?_))))
 try simp only [sQ,ne_eq] at g5
 refine Zc (xM (h:=Zm (Zfp rfl rfl Tryz.underlying144 sz9 rfl (a:=0) (b:=0) rfl ⟨_,_,rfl,rfl⟩ oz oz ?_)))
 refine xA (h:=Zw (Zj (Za (xM (h:=xA (h:=Zd ?_))))))
 exact eN [0] rfl t1 ⟨_,_,[],_,rfl,SlK.nil,Nat.zero_le _,oz,rfl⟩
 try simp only [sQ,ne_eq] at g5
 refine Za (ZG (h:=xA (h:=Zb rfl (fun g6=>?_) (fun g6=>?_))))
 try simp only [sQ,ne_eq] at g6
 refine Zc (xM (h:=xBs [(0,_),(1,_)] [_,_] Tryz.underlying144 sz9 zo9 (h:=fun b21=>Zm (ZnM (rows:=(([[100,97,110],[101,118,101]]:List Str)).map fun x=>[str x]) (ys:=([[100,97,110],[101,118,101]]:List Str)) (R:=ZbO) 1 rfl hv14 rfl rfl rfl ZgY ZgG rfl rfl rfl (ZaO.box 4 rfl) rfl ZvH (Zvp (by decide)) om (fun l22 p22 c22 hv22=>?_)))))
 refine xA (h:=Zw (Zj (ZdS 1 rfl hv22 ZbO.mono om3 (fun B23 hle23 hr23=>?_))))
 replace hbm:=hbm.mono hle23
 have hr23n:=hr23.len
 refine Za (xM (h:=xA (h:=tL5 (Zd ?_))))
 exact eN [0] rfl t1 ⟨_,_,_,_,rfl,hr23,by first | omega | (simp;done) | (simp;omega),oz,rfl⟩
 try simp only [sQ,ne_eq] at g6
 refine ZL (Zw (Zj (ZdS 1 rfl hv14 ZbO.mono om3 (fun B24 hle24 hr24=>?_))))
 replace hbm:=hbm.mono hle24
 have hr24n:=hr24.len
 refine Za (xM (h:=xA (h:=tL4 (Zd ?_))))
 exact eN [0] rfl t1 ⟨_,_,_,_,rfl,hr24,by first | omega | (simp;done) | (simp;omega),oz,rfl⟩
 try simp only [sQ,ne_eq] at g3
 refine wSk (Zh (Za (xM (h:=xX 0 rfl Z6 rfl (ZJ _ _ _ _ _ _ oz oz oz hm _ hbm) (h:=?_)))))
 rintro _ _ ⟨r25,rfl,r25a,r25b,rfl⟩
 refine tL3 (Zn (Za (ZG (h:=xA (h:=Zb rfl (fun g4=>?_) (fun g4=>?_))))))
 try simp only [sQ,ne_eq] at g4
 refine Zc (xM (h:=xM (h:=?_)))
 obtain ⟨w,hw⟩:=ZaA (xs:=x.xs) (i:=0) om
 obtain ⟨bb27,_,hp27,⟨rfl,hb27⟩,hw27,hc27⟩:=hv.row hw
 refine xIp hp27 Tryz.underlying144 sz9 (h:=Zm (Ze rfl rfl lk9 rfl (hc27 _ 1 rfl 0 _ rfl) (xBs [(0,_)] [_] Tryz.underlying144 sz9 zo9 (h:=fun b28=>Zm (Zbe (z:=w) (R:=ZbO) 1 rfl hv rfl rfl rfl ZgY ZgG rfl rfl (ZaO.box 3 rfl) rfl rfl (⟨rfl,by first | assumption | omega | (simp;done) | (simp;omega)⟩) om (fun l29 p29 c29 hv29=>?_))))))
 refine xA (h:=Zw (Zj (ZdS 1 rfl hv29 ZbO.mono om3 (fun B30 hle30 hr30=>?_))))
 have hr30n:=hr30.len
 refine Za (xM (h:=xA (h:=tL4 (Zd ?_))))
 exact eN [0] rfl t1 ⟨_,_,_,_,rfl,hr30,by first | omega | (simp;done) | (simp;omega),oz,rfl⟩
 try simp only [sQ,ne_eq] at g4
 refine Za (ZG (h:=xA (h:=Zb rfl (fun g5=>?_) (fun g5=>?_))))
 try simp only [sQ,ne_eq] at g5
 refine Zc (xM (h:=Zm (Zfp rfl rfl Tryz.underlying144 sz9 rfl (a:=0) (b:=0) rfl ⟨_,_,rfl,rfl⟩ oz oz ?_)))
 refine xA (h:=Zw (Zj (Za (xM (h:=xA (h:=Zd ?_))))))
 exact eN [0] rfl t1 ⟨_,_,[],_,rfl,SlK.nil,Nat.zero_le _,oz,rfl⟩
 try simp only [sQ,ne_eq] at g5
 refine Za (ZG (h:=xA (h:=Zb rfl (fun g6=>?_) (fun g6=>?_))))
 try simp only [sQ,ne_eq] at g6
 refine Zc (xM (h:=xBs [(0,_),(1,_)] [_,_] Tryz.underlying144 sz9 zo9 (h:=fun b31=>Zm (ZnM (rows:=(([[100,97,110],[101,118,101]]:List Str)).map fun x=>[str x]) (ys:=([[100,97,110],[101,118,101]]:List Str)) (R:=ZbO) 1 rfl hv rfl rfl rfl ZgY ZgG rfl rfl rfl (ZaO.box 3 rfl) rfl ZvH (Zvp (by decide)) om (fun l32 p32 c32 hv32=>?_)))))
 refine xA (h:=Zw (Zj (ZdS 1 rfl hv32 ZbO.mono om3 (fun B33 hle33 hr33=>?_))))
 have hr33n:=hr33.len
 refine Za (xM (h:=xA (h:=tL4 (Zd ?_))))
 exact eN [0] rfl t1 ⟨_,_,_,_,rfl,hr33,by first | omega | (simp;done) | (simp;omega),oz,rfl⟩
 try simp only [sQ,ne_eq] at g6
 refine ZL (Zw (Zj (ZdS 1 rfl hv ZbO.mono om3 (fun B34 hle34 hr34=>?_))))
 have hr34n:=hr34.len
 refine Za (xM (h:=xA (h:=tL3 (Zd ?_))))
 exact eN [0] rfl t1 ⟨_,_,_,_,rfl,hr34,by first | omega | (simp;done) | (simp;omega),oz,rfl⟩

theorem Zaz (aq:Option Addr) (cq:Nat) (q:DQueue) (B:Kn) (hq:SlK B aq cq 4 ZC q.items):Zu (pj J) 101 [.agg #[.int .i64 q.next,.slice aq q.items.length cq]] B [] (fun v B' Ls=>∃l a cp,Ls=[l]∧v = .agg #[.int .i64 q.next,.slice a q.items.length cp]∧ZT (B'.less B) l a cp 146 4 ZC q.items):=by
 refine cB 34 Tryz.func101 (h:=?_)
 have hqn:=hq.len
 refine Za (xBx [_,_] (h:=fun b1=>xAl [_,_] ZhA (h:=fun b2=>tL2 (Za (xW ZeU (h:=x1 lk3 0 (h:=xBs [] [] Tryz.underlying40 Zbn Zc1 (h:=fun b3=>xB [(0,_),(1,_)] [_,_] [_,_] ZtQ ZhA (h:=xAl [_,_] ZhA (h:=fun b4=>xS [_,_] 3 [_,_] Zfz (h:=tL4 (Zh (Za (xA (h:=Zn (ZQ (α:=Gh DItem) [0,1,2,3] (fun g=>[(4,.int .i64 g.k)]) [2,3] (fun g=>[g.l,Z8 b4 [.int .i64 q.next,.slice g.a g.xs.length g.c] 42]) (fun g Bx=>g.k≤q.items.length∧g.xs=q.items.take g.k∧ZT (Bx.less B) g.l g.a g.c 146 4 ZC g.xs) (fun g=>q.items.length - g.k) ⟨0,0,_,_,_,[]⟩ t1 rfl (⟨Nat.zero_le _,rfl,.lit0⟩) (fun g B5 hle5 hI=>?_)))))))))))))))))
 obtain ⟨hk,hxs,hv⟩:=hI
 have hxn:=congrArg List.length hxs
 rw [List.length_take] at hxn
 replace hq:=up1 hle5 hq
 refine ZN [(0,_),(1,_),(2,_),(3,_),(4,_)] [_,_,_,_] t5 rfl (Zh (Za (xM (h:=xW ZaC (h:=x1 Ze7 0 (h:=xV Tryz.underlying40 (h:=Zag (h:=Zb rfl (fun g1=>?_) (fun g1=>?_)))))))))
 try simp only [sQ,ne_eq] at g1
 refine wSk (Zh (Zn (Za (xW ZaC (h:=x1 Ze7 0 (h:=xM (h:=?_)))))))
 obtain ⟨x,hx⟩:=ZaA (xs:=q.items) (i:=g.k) om
 obtain ⟨bb7,oo7,rfl⟩:=hq.base hx
 obtain ⟨_,⟨qi8,ci8,rfl,hi8,hb8,hb8b⟩,hc8⟩:=hq.elem hx
 have hi8n:=hi8.len
 refine xIx Tryz.underlying40 Zbn (h:=yL [_,_,_,_] Zec hc8 0 (h:=xAl [_,_,_,_] Zc1 (h:=fun b9=>xS [_,_,_,_] 4 [_,_,_,_] Zbn (h:=tL5 (Za (xBs [] [] Tryz.underlying144 sz9 zo9 (h:=fun b10=>xW ZaR (h:=x1 Zda 4 (h:=Zm (ZaP (R:=ZbO) 5 rfl (ZT.lit0 (R:=ZbO)) rfl rfl rfl ZgY ZgG rfl rfl rfl hi8.rows ZbO.one rfl om (fun l11 p11 c11 hv11=>?_)))))))))))
 refine xW ZaR (h:=xS [_] 4 [_,_,_,_] ZoD (h:=tL6 (ZpI 5 rfl hv11 ZbO.any om3 hle5 (fun B12 hle12 hr12f=>?_))))
 have hr12:=hr12f.mono ZbO.mono Kn.less_le
 replace hv:=hv.mono ZC.mono (Kn.less_mono hle12)
 have hr12n:=hr12.len
 refine Zc (xW ZaC (h:=x1 Ze7 3 (h:=xL [_,_,_,_] Zec 4 (h:=xBs [(0,_)] [_,_,_,_] Tryz.underlying40 Zbn Zc1 (h:=fun b13=>Zm (Zbe (z:=⟨x.id,x.fr,x.text,x.left⟩) (R:=ZC) 2 rfl hv rfl rfl rfl ZvA Zvy rfl rfl (ZaO.box 6 rfl) rfl rfl (⟨_,_,rfl,hr12f,by first | assumption | omega | (simp;done) | (simp;omega),by first | assumption | omega | (simp;done) | (simp;omega)⟩) om (fun l14 p14 c14 hv14=>?_)))))))
 refine xW ZaC (h:=xS [_] 3 [_,_] Zvx (h:=Zw (Zj (Zc (xM (h:=xD (h:=xA (h:=?_))))))))
 exact ZD ⟨g.k+1,0,l14,p14,c14,(g.xs ++ [⟨x.id,x.fr,x.text,x.left⟩])⟩ [0,1,2,3] so2 ⟨so,by simp only [];rw [Zaw hx,hxs],hv14⟩ t5 rfl
 try simp only [sQ,ne_eq] at g1
 have hxe:g.xs=q.items:=by rw [hxs];exact List.take_of_length_le oz
 refine ZU (Zak (Z3 (ZK (Zj (Za (xL [_,_] Zd1 3 (h:=xS [_,_] 1 [_,_] Zfz (h:=tL4 (Zd ?_)))))))))
 exact Zat .ret (.inl rfl) [_] [2] rfl ⟨⟨_,rfl,.inr ⟨[_,_],Zd1,Zaa 1 rfl rfl rfl,rfl⟩⟩,trivial⟩ ⟨_,_,_,rfl,by rw [← hxe];rfl,hxe ▸ hv⟩

theorem Zgl (aq:Option Addr) (cq:Nat) (q:DQueue) (qx:Option Addr) (cx:Nat) (x:DLetter) (B:Kn) (hq:SlK B aq cq 4 ZC q.items) (hx:SlK B qx cx 1 ZbO x.to_) (h1:x.fr.length≤2000000) (h2:x.text.length≤2000000):Zu (pj J) 213 [.agg #[.int .i64 q.next,.slice aq q.items.length cq],.agg #[str x.fr,.slice qx x.to_.length cx,str x.text]] B [] (fun v B' Ls=>(∃l a cp,Ls=[l]∧v = .tuple #[.agg #[.int .i64 (ZhZ q x).1.next,.slice a (ZhZ q x).1.items.length cp],.bool (ZhZ q x).2]∧ZT (B'.less B) l a cp 146 4 ZC (ZhZ q x).1.items)):=by
 refine cB 49 Tryz.func213 (h:=?_)
 have hqn:=hq.len
 have hxn:=hx.len
 refine Za (xBx [_,_] (h:=fun b1=>xBx [_,_,_] (h:=fun b2=>xAl [_,_] ZhA (h:=fun b3=>xA (h:=tL3 (Zh (Za (xL [_,_] Zd1 0 (h:=xR Zx1 rfl (ZfT _ _ q _ hq) (h:=xN (h:=xM (h:=Zq (d:=10) rfl (fun g1=>?_) (fun g1=>?_)))))))))))))
 try simp only [sQ,ne_eq] at g1
 refine xP (h:=xP (h:=xP (h:=xT (h:=Zb (t:=true) rfl (fun _=>Za (xB [] [_,_] [_,_] ZtQ ZhA (h:=xS [_,_] 2 [_,_] Zfz (h:=xA (h:=tL3 (Zd (Zp ?_))))))) (fun h=>Bool.noConfusion h)))))
 have he:=ZrK (x:=x) g1
 exact Zvb .ret (.inl rfl) [_,_] ⟨⟨_,rfl,.inr ⟨[_,_],Zd1,Zaa 2 rfl rfl rfl,rfl⟩⟩,rfl,trivial⟩ ⟨_,none,0,rfl,by rw [he];rfl,by rw [he];exact ZT.nil⟩
 try simp only [sQ,ne_eq] at g1
 refine xL [_,_,_] Zm0 1 (h:=xR Zvj rfl (Ze1 _ _ x _ hx oa oa) (h:=?_))
 refine xN (h:=xF (h:=Zb rfl (fun g2=>?_) (fun g2=>?_)))
 try simp only [sQ,ne_eq] at g2
 refine Za (xB [] [_,_] [_,_] ZtQ ZhA (h:=xS [_,_] 2 [_,_] Zfz (h:=xA (h:=tL3 (Zd (Zp ?_))))))
 have he:=ZrJ (q:=q) g2
 exact Zvb .ret (.inl rfl) [_,_] ⟨⟨_,rfl,.inr ⟨[_,_],Zd1,Zaa 2 rfl rfl rfl,rfl⟩⟩,rfl,trivial⟩ ⟨_,none,0,rfl,by rw [he];rfl,by rw [he];exact ZT.nil⟩
 try simp only [sQ,ne_eq] at g2
 have hqb:=Ze4 g1
 refine wSk (Za (xL [_,_] Zd1 0 (h:=xC Zeu rfl (Zaz _ _ q _ hq) (h:=?_))))
 rintro _ Bk _ hlek ⟨lk,ak,ck,rfl,rfl,hvk⟩
 replace hx:=up1 hlek hx
 replace hvk:=hvk.mono ZC.mono (Kn.less_up (Kn.le.refl _) (Kn.le.refl _))
 refine xAl [_,_] ZhA (h:=fun b7=>xS [_,_] 4 [_,_] Zfz (h:=tL5 (Zh (Za (xW ZaC (h:=x1 Ze7 0 (h:=xV Tryz.underlying40 (h:=ZdN (h:=xM (h:=Zq (d:=22) rfl (fun g3=>?_) (fun g3=>?_)))))))))))
 try simp only [sQ,ne_eq] at g3
 refine xP (h:=xP (h:=xP (h:=xT (h:=Zb (t:=true) rfl (fun _=>Za (xL [_,_] Zd1 4 (h:=xS [_,_] 2 [_,_] Zfz (h:=xA (h:=tL5 (Zd (Zp ?_))))))) (fun h=>Bool.noConfusion h)))))
 have he:=Zmn g1 g2 (.inl oz)
 exact Zat .ret (.inl rfl) [_,_] [3] rfl ⟨⟨_,rfl,.inr ⟨[_,_],Zd1,Zaa 2 rfl rfl rfl,rfl⟩⟩,rfl,trivial⟩ ⟨_,_,_,rfl,by rw [he];rfl,by rw [he];exact hvk⟩
 try simp only [sQ,ne_eq] at g3
 refine xW ZeU (h:=x1 lk3 0 (h:=ZbG (h:=xF (h:=Zb rfl (fun g4=>?_) (fun g4=>?_)))))
 try simp only [sQ,ne_eq] at g4
 refine Za (xL [_,_] Zd1 4 (h:=xS [_,_] 2 [_,_] Zfz (h:=xA (h:=tL5 (Zd (Zp ?_))))))
 have he:=Zmn g1 g2 (.inr oz)
 exact Zat .ret (.inl rfl) [_,_] [3] rfl ⟨⟨_,rfl,.inr ⟨[_,_],Zd1,Zaa 2 rfl rfl rfl,rfl⟩⟩,rfl,trivial⟩ ⟨_,_,_,rfl,by rw [he];rfl,by rw [he];exact hvk⟩
 try simp only [sQ,ne_eq] at g4
 refine wSk (Zh (ZV (keeps _ [0,1,4] _) mo kr ⟨Kn.le.refl _,Zae.refl _ _⟩ (fun _ _=>?_)))
 refine aW 0 rfl ZaC (h:=aT 1 rfl (Zx fun D B L hI=>Ze rfl rfl Ze7 rfl (atL 4 (hI.2.2.2.1.trans rfl) rfl rfl) r4) (h:=aW 2 rfl ZeU (h:=aT 3 rfl (Zx fun D B L hI=>Ze rfl rfl lk3 rfl (atL 0 (hI.2.1.trans rfl) rfl rfl) r4) (h:=aW 4 rfl ZiY (h:=aT 5 rfl (Zx fun D B L hI=>Ze rfl rfl lk9 rfl (atL 1 (hI.2.2.1.trans rfl) rfl rfl) r4) (h:=aW 6 rfl Znl (h:=aT 7 rfl (Zx fun D B L hI=>Ze rfl rfl lk9 rfl (atL 1 (hI.2.2.1.trans rfl) rfl rfl) r4) (h:=aW 9 rfl ZiX (h:=aT 10 rfl (Zx fun D B L hI=>Ze rfl rfl Zda rfl (atL 1 (hI.2.2.1.trans rfl) rfl rfl) r4) (h:=Zo 8 kr rfl kr (Zs (parts:=[]) [] rfl rfl Tryz.underlying144 sz9 zo9 rfl rfl rfl rfl rfl (fun b8=>?_))))))))))))
 refine ⟨⟨Kn.le.refl _,t3⟩,(Zo 11 kr rfl kr (ZaP (R:=ZbO) 5 rfl (ZT.lit0 (R:=ZbO)) rfl rfl rfl ZgY ZgG rfl rfl rfl hx.rows ZbO.one rfl om (fun l9 p9 c9 hv9=>?_)))⟩
 refine ⟨⟨Kn.le.refl _,t3⟩,(Zw5 5 rfl hv9 ZbO.any om3 hlek (fun B' hle'=>⟨hle',t3⟩) (fun B10 hle10 hr10f=>?_))⟩
 have hr10:=hr10f.mono ZbO.mono Kn.less_le
 replace hvk:=hvk.mono ZC.mono (Kn.less_mono hle10)
 have hr10n:=hr10.len
 refine aT 12 rfl (Zx fun D B L hI=>Zam (parts:=[(0,_),(1,_),(2,_),(3,_)]) [_,_,_,_] [_,_,_,_] rfl rfl ZxL Zc1 rfl rfl rfl r4) (h:=Zo 13 kr rfl kr (Zs (parts:=[(0,_)]) [_,_,_,_] rfl rfl Tryz.underlying40 Zbn Zc1 rfl rfl rfl rfl rfl (fun b11=>?_)))
 refine ⟨⟨hle10,t3⟩,(Zo 14 kr rfl kr (Zbe (z:=⟨q.next,x.fr,x.text,x.to_⟩) (R:=ZC) 3 rfl hvk rfl rfl rfl ZvA Zvy rfl rfl (ZaO.box 6 rfl) rfl rfl (⟨_,_,rfl,hr10f,by first | assumption | omega | (simp;done) | (simp;omega),by first | assumption | omega | (simp;done) | (simp;omega)⟩) om (fun l12 p12 c12 hv12=>?_)))⟩
 refine ⟨⟨hle10,t3⟩,(aW 15 rfl ZaC (h:=ZO 16 kr rfl kr kr kr (ZE [_] 4 [_,_] rfl rfl Zvx rfl rfl rfl rfl rfl rfl rfl rfl ?_)))⟩
 refine Zj (tL7 (Za (xW ZeU (h:=x1 lk3 0 (h:=xD (h:=xW ZeU (h:=xS [_] 4 [_,_] sz3 (h:=tL7 (Za (xL [_,_] Zd1 4 (h:=xS [_,_] 2 [_,_] Zfz (h:=xA (h:=tL7 (Zd ?_))))))))))))))
 have he:=Zvq g1 g2 oz oz
 exact Zat .ret (.inl rfl) [_,_] [3] rfl ⟨⟨_,rfl,.inr ⟨[_,_],Zd1,Zaa 2 rfl rfl rfl,rfl⟩⟩,rfl,trivial⟩ ⟨_,_,_,rfl,by rw [he];rfl,by rw [he];exact hv12⟩

theorem ZlN (q:Option Addr) (cp:Nat) (xs:List Str) (u:Str) (B:Kn) (ha:SlK B q cp 1 ZbO xs):Zu (pj J) 282 [.slice q xs.length cp,str u] B [] (fun v B' Ls=>Ls=[]∧∃a cp,v = .slice a (without xs u).length cp∧SlK (B'.less B) a cp 1 ZbO (without xs u)):=by
 refine cB 28 Tryz.func282 (h:=?_)
 have han:=ha.len
 refine Za (xA (h:=Za (xBs [] [] Tryz.underlying144 sz9 zo9 (h:=fun b1=>xA (h:=tL1 (Zh (Za (xA (h:=Zn (ZQ (α:=Gh Str) [0,1,4] (fun g=>[(5,.slice g.a g.xs.length g.c),(6,.int .i64 g.k)]) [0] (fun g=>[g.l]) (fun g Bx=>Bx=B∧g.k≤xs.length∧g.xs=without (xs.take g.k) u∧g.xs.length≤g.k∧ZT Bx g.l g.a g.c 9 1 ZbO g.xs) (fun g=>xs.length - g.k) ⟨0,0,_,_,_,[]⟩ t2 rfl (⟨rfl,Nat.zero_le _,rfl,Nat.le_refl _,.lit0⟩) (fun g B2 hle2 hI=>?_)))))))))))
 obtain ⟨rfl,hk,hxs,hgl,hv⟩:=hI
 refine ZN [(0,_),(1,_),(4,_),(5,_),(6,_)] [_] t5 rfl (Zh (Za (xM (h:=xM (h:=xV Tryz.underlying144 (h:=Zag (h:=Zb rfl (fun g1=>?_) (fun g1=>?_))))))))
 try simp only [sQ,ne_eq] at g1
 refine wSk (Zh (Zn (Za (xM (h:=xM (h:=?_))))))
 obtain ⟨x,hx⟩:=ZaA (xs:=xs) (i:=g.k) om
 obtain ⟨bb4,oo4,rfl⟩:=ha.base hx
 obtain ⟨_,⟨rfl,hb5⟩,hc5⟩:=ha.elem hx
 refine xIx Tryz.underlying144 sz9 (h:=y1 lk9 hc5 0 (h:=xM (h:=Zjp (h:=Zb rfl (fun g2=>?_) (fun g2=>?_)))))
 try simp only [sQ,ne_eq] at g2
 refine Zc (xM (h:=xM (h:=xM (h:=xIx Tryz.underlying144 sz9 (h:=y1 lk9 hc5 0 (h:=xBs [(0,_)] [_] Tryz.underlying144 sz9 zo9 (h:=fun b6=>Zm (Zbe (z:=x) (R:=ZbO) 0 rfl hv rfl rfl rfl ZgY ZgG rfl rfl (ZaO.box 1 rfl) rfl rfl (⟨rfl,by first | assumption | omega | (simp;done) | (simp;omega)⟩) om (fun l7 p7 c7 hv7=>?_)))))))))
 refine xA (h:=Zw (Zj (Zc (xM (h:=xD (h:=xA (h:=?_)))))))
 exact ZD ⟨g.k+1,0,l7,p7,c7,(g.xs ++ [x])⟩ [0] so2 ⟨rfl,so,by simp only [];rw [Zk3 hx g2,hxs],by simp;omega,hv7⟩ t5 rfl
 try simp only [sQ,ne_eq] at g2
 refine ZL (Zw (Zj (Zc (xM (h:=xD (h:=xA (h:=?_)))))))
 exact ZD ⟨g.k+1,0,g.l,g.a,g.c,g.xs⟩ [0] so2 ⟨rfl,so,by simp only [];rw [Zk2 hx g2,hxs],so,hv⟩ t5 rfl
 try simp only [sQ,ne_eq] at g1
 have hxe:g.xs=without xs u:=by rw [hxs,List.take_of_length_le oz]
 refine ZU (Zak (Z3 (ZK (Zj (ZpI 0 rfl hv ZbO.any om3 (Kn.le.refl _) (fun B8 hle8 hr8f=>?_))))))
 have hr8:=hr8f.mono ZbO.mono Kn.less_le
 have hr8n:=hr8.len
 refine Za (xM (h:=xA (h:=tL1 (Zd ?_))))
 exact Zat .ret (.inl rfl) [_] [] rfl ⟨rfl,trivial⟩ ⟨rfl,_,_,by rw [← hxe];rfl,hxe ▸ hr8f⟩

theorem ZlO (aq:Option Addr) (cq:Nat) (q:DQueue) (id:Int) (u:Str) (B:Kn) (hq:SlK B aq cq 4 ZC q.items):Zu (pj J) 257 [.agg #[.int .i64 q.next,.slice aq q.items.length cq],.int .i64 id,str u] B [] (fun v B' Ls=>(∃l a cp,Ls=[l]∧v = .tuple #[.agg #[.int .i64 (Zca q id u).1.next,.slice a (Zca q id u).1.items.length cp],str (Zca q id u).2.1,.bool (Zca q id u).2.2]∧ZT (B'.less B) l a cp 146 4 ZC (Zca q id u).1.items∧(Zca q id u).2.1.length≤2000000)):=by
 refine cB 65 Tryz.func257 (h:=?_)
 have hqn:=hq.len
 refine Za (xBx [_,_] (h:=fun b1=>xAl [_,_] ZhA (h:=fun b2=>xA (h:=xA (h:=tL2 (Za (xW ZeU (h:=x1 lk3 0 (h:=xBs [] [] Tryz.underlying40 Zbn Zc1 (h:=fun b3=>xB [(0,_),(1,_)] [_,_] [_,_] ZtQ ZhA (h:=xAl [_,_] ZhA (h:=fun b4=>xS [_,_] 3 [_,_] Zfz (h:=tL4 (Za (xA (h:=Za (xA (h:=Zh (Za (xA (h:=Zn (ZQ (α:=Gh2 DItem (Str × Bool)) [0,1,2,3,6,7,8,9] (fun g=>[(10,str g.e.1),(11,.bool g.e.2),(12,.int .i64 g.k)]) [2,3] (fun g=>[g.l,Z8 b4 [.int .i64 q.next,.slice g.a g.xs.length g.c] 42]) (fun g Bx=>g.k≤q.items.length∧g.e=ZfR id u (q.items.take g.k)∧g.e.1.length≤2000000∧g.xs=ZeW id u (q.items.take g.k)∧ZT (Bx.less B) g.l g.a g.c 146 4 ZC g.xs) (fun g=>q.items.length - g.k) ⟨0,0,_,_,_,[],([],false)⟩ t3 rfl (⟨Nat.zero_le _,rfl,Nat.zero_le _,rfl,.lit0⟩) (fun g B5 hle5 hI=>?_)))))))))))))))))))))))
 obtain ⟨hk,he,htl,hxs,hv⟩:=hI
 have hxn:g.xs.length≤g.k:=by rw [hxs];exact Nat.le_trans (Zij _ _ _) (by rw [List.length_take];omega)
 replace hq:=up1 hle5 hq
 refine ZN [(0,_),(1,_),(2,_),(3,_),(6,_),(7,_),(8,_),(9,_),(10,_),(11,_),(12,_)] [_,_,_,_] t11 rfl (Zh (Za (xM (h:=xW ZaC (h:=x1 Ze7 0 (h:=xV Tryz.underlying40 (h:=Zag (h:=Zb rfl (fun g1=>?_) (fun g1=>?_)))))))))
 try simp only [sQ,ne_eq] at g1
 refine wSk (Zh (Zn (Za (xW ZaC (h:=x1 Ze7 0 (h:=xM (h:=?_)))))))
 obtain ⟨x,hx⟩:=ZaA (xs:=q.items) (i:=g.k) om
 obtain ⟨bb7,oo7,rfl⟩:=hq.base hx
 obtain ⟨_,⟨qi8,ci8,rfl,hi8,hb8,hb8b⟩,hc8⟩:=hq.elem hx
 have hi8n:=hi8.len
 refine xIx Tryz.underlying40 Zbn (h:=yL [_,_,_,_] Zec hc8 0 (h:=xAl [_,_,_,_] Zc1 (h:=fun b9=>xS [_,_,_,_] 4 [_,_,_,_] Zbn (h:=tL5 (Za (xBs [] [] Tryz.underlying144 sz9 zo9 (h:=fun b10=>xW ZaR (h:=x1 Zda 4 (h:=Zm (ZaP (R:=ZbO) 5 rfl (ZT.lit0 (R:=ZbO)) rfl rfl rfl ZgY ZgG rfl rfl rfl hi8.rows ZbO.one rfl om (fun l11 p11 c11 hv11=>?_)))))))))))
 refine xW ZaR (h:=xS [_] 4 [_,_,_,_] ZoD (h:=tL6 (Zh (ZpI 5 rfl hv11 ZbO.any om3 hle5 (fun B12 hle12 hr12f=>?_)))))
 have hr12:=hr12f.mono ZbO.mono Kn.less_le
 replace hv:=hv.mono ZC.mono (Kn.less_mono hle12)
 have hr12n:=hr12.len
 refine Za (xW ZdE (h:=x1 lk3 4 (h:=xM (h:=ZG (h:=xM (h:=Zq (d:=39) rfl (fun g2=>?_) (fun g2=>?_)))))))
 try simp only [sQ,ne_eq] at g2
 refine xW ZaR (h:=x1 Zda 4 (h:=xM (h:=xR ZwE rfl (Zoa _ _ _ _ _ hr12) (h:=xT (h:=tL6 (Zb rfl (fun g3=>?_) (fun g3=>?_)))))))
 try simp only [sQ,ne_eq] at g3
 have hwl:=Zh7 x.left u
 refine Za (xA (h:=Za (xW Znn (h:=x1 lk9 4 (h:=xA (h:=Zc (xW ZaR (h:=x1 Zda 4 (h:=xM (h:=xQ Zyd rfl (ZlN _ _ _ _ _ hr12) (h:=?_)))))))))))
 intro v14 B14 hle14
 rintro ⟨a14,c14,rfl,hw14f⟩
 replace hr12f:=hr12f.mono ZbO.mono (Kn.less_mono hle14)
 replace hv:=hv.mono ZC.mono (Kn.less_mono hle14)
 replace hw14f:=hw14f.mono ZbO.mono (Kn.less_up (hle5.trans hle12) (Kn.le.refl _))
 have hw14:=hw14f.mono ZbO.mono Kn.less_le
 refine xW ZaR (h:=xS [_] 4 [_,_,_,_] ZoD (h:=Zj (Za (xW ZaR (h:=x1 Zda 4 (h:=xV Tryz.underlying144 (h:=ZbG (h:=tL6 (Zb rfl (fun g4=>?_) (fun g4=>?_))))))))))
 try simp only [sQ,ne_eq] at g4
 refine Zc (xW ZaC (h:=x1 Ze7 3 (h:=xL [_,_,_,_] Zec 4 (h:=xBs [(0,_)] [_,_,_,_] Tryz.underlying40 Zbn Zc1 (h:=fun b15=>Zm (Zbe (z:=⟨x.id,x.fr,x.text,(without x.left u)⟩) (R:=ZC) 2 rfl hv rfl rfl rfl ZvA Zvy rfl rfl (ZaO.box 6 rfl) rfl rfl (⟨_,_,rfl,hw14f,by first | assumption | omega | (simp;done) | (simp;omega),by first | assumption | omega | (simp;done) | (simp;omega)⟩) om (fun l16 p16 c16 hv16=>?_)))))))
 refine xW ZaC (h:=xS [_] 3 [_,_] Zvx (h:=Zw (Zj (Zc (xM (h:=xD (h:=xA (h:=?_))))))))
 exact ZD ⟨g.k+1,0,l16,p16,c16,(g.xs ++ [⟨x.id,x.fr,x.text,(without x.left u)⟩]),(x.text,true)⟩ [0,1,2,3] so2 ⟨so,by simp only [];rw [Zll hx g2 g3],by simp only [];first | assumption | omega,by simp only [];rw [hxs,Zik hx (ZeZ g2 g3) (by simpa using g4)],hv16⟩ t11 rfl
 try simp only [sQ,ne_eq] at g4
 refine ZL (Zw (Zj (Zc (xM (h:=xD (h:=xA (h:=?_)))))))
 exact ZD ⟨g.k+1,0,g.l,g.a,g.c,g.xs,(x.text,true)⟩ [0,1,2,3] so2 ⟨so,by simp only [];rw [Zll hx g2 g3],by simp only [];first | assumption | omega,by simp only [];rw [hxs,ZgF hx (ZeZ g2 g3) (by simpa using g4)],hv⟩ t11 rfl
 try simp only [sQ,ne_eq] at g3
 refine wSk (Za (xW ZaR (h:=x1 Zda 4 (h:=xV Tryz.underlying144 (h:=ZbG (h:=Zb rfl (fun g4=>?_) (fun g4=>?_)))))))
 try simp only [sQ,ne_eq] at g4
 refine Zc (xW ZaC (h:=x1 Ze7 3 (h:=xL [_,_,_,_] Zec 4 (h:=xBs [(0,_)] [_,_,_,_] Tryz.underlying40 Zbn Zc1 (h:=fun b17=>Zm (Zbe (z:=⟨x.id,x.fr,x.text,x.left⟩) (R:=ZC) 2 rfl hv rfl rfl rfl ZvA Zvy rfl rfl (ZaO.box 6 rfl) rfl rfl (⟨_,_,rfl,hr12f,by first | assumption | omega | (simp;done) | (simp;omega),by first | assumption | omega | (simp;done) | (simp;omega)⟩) om (fun l18 p18 c18 hv18=>?_)))))))
 refine xW ZaC (h:=xS [_] 3 [_,_] Zvx (h:=Zw (Zj (Zc (xM (h:=xD (h:=xA (h:=?_))))))))
 exact ZD ⟨g.k+1,0,l18,p18,c18,(g.xs ++ [⟨x.id,x.fr,x.text,x.left⟩]),g.e⟩ [0,1,2,3] so2 ⟨so,by simp only [];rw [Zlj hx g3];exact he,by simp only [];first | assumption | omega,by simp only [];rw [hxs,Zik hx (Zhj g3) (by simpa using g4)],hv18⟩ t11 rfl
 try simp only [sQ,ne_eq] at g4
 refine ZL (Zw (Zj (Zc (xM (h:=xD (h:=xA (h:=?_)))))))
 exact ZD ⟨g.k+1,0,g.l,g.a,g.c,g.xs,g.e⟩ [0,1,2,3] so2 ⟨so,by simp only [];rw [Zlj hx g3];exact he,by simp only [];first | assumption | omega,by simp only [];rw [hxs,ZgF hx (Zhj g3) (by simpa using g4)],hv⟩ t11 rfl
 try simp only [sQ,ne_eq] at g2
 refine xP (h:=xP (h:=xP (h:=xP (h:=xF (h:=tL6 (Zb (t:=false) rfl (fun h=>Bool.noConfusion h) (fun _=>wSk (Za (xW ZaR (h:=x1 Zda 4 (h:=xV Tryz.underlying144 (h:=ZbG (h:=Zb rfl (fun g3=>?_) (fun g3=>?_))))))))))))))
 try simp only [sQ,ne_eq] at g3
 refine Zc (xW ZaC (h:=x1 Ze7 3 (h:=xL [_,_,_,_] Zec 4 (h:=xBs [(0,_)] [_,_,_,_] Tryz.underlying40 Zbn Zc1 (h:=fun b19=>Zm (Zbe (z:=⟨x.id,x.fr,x.text,x.left⟩) (R:=ZC) 2 rfl hv rfl rfl rfl ZvA Zvy rfl rfl (ZaO.box 6 rfl) rfl rfl (⟨_,_,rfl,hr12f,by first | assumption | omega | (simp;done) | (simp;omega),by first | assumption | omega | (simp;done) | (simp;omega)⟩) om (fun l20 p20 c20 hv20=>?_)))))))
 refine xW ZaC (h:=xS [_] 3 [_,_] Zvx (h:=Zw (Zj (Zc (xM (h:=xD (h:=xA (h:=?_))))))))
 exact ZD ⟨g.k+1,0,l20,p20,c20,(g.xs ++ [⟨x.id,x.fr,x.text,x.left⟩]),g.e⟩ [0,1,2,3] so2 ⟨so,by simp only [];rw [Zlk hx g2];exact he,by simp only [];first | assumption | omega,by simp only [];rw [hxs,Zik hx (Zhk g2) (by simpa using g3)],hv20⟩ t11 rfl
 try simp only [sQ,ne_eq] at g3
 refine ZL (Zw (Zj (Zc (xM (h:=xD (h:=xA (h:=?_)))))))
 exact ZD ⟨g.k+1,0,g.l,g.a,g.c,g.xs,g.e⟩ [0,1,2,3] so2 ⟨so,by simp only [];rw [Zlk hx g2];exact he,by simp only [];first | assumption | omega,by simp only [];rw [hxs,ZgF hx (Zhk g2) (by simpa using g3)],hv⟩ t11 rfl
 try simp only [sQ,ne_eq] at g1
 have hkl:q.items.take g.k=q.items:=List.take_of_length_le oz
 rw [hkl] at he hxs
 refine ZU (Zak (Z3 (ZK (Zj (Za (xL [_,_] Zd1 3 (h:=xM (h:=xM (h:=xS [_,_] 1 [_,_] Zfz (h:=xA (h:=xA (h:=tL4 (Zd ?_)))))))))))))
 exact Zat .ret (.inl rfl) [_,_,_] [2] rfl ⟨⟨_,rfl,.inr ⟨[_,_],Zd1,Zaa 1 rfl rfl rfl,rfl⟩⟩,rfl,rfl,trivial⟩ ⟨_,_,_,rfl,by simp only [Zca,← he,← hxs];rfl,by simp only [Zca,← hxs];exact hv,by simp only [Zca,← he];exact htl⟩

theorem Zjz (aq:Option Addr) (cq:Nat) (q:DQueue) (id:Int) (u:Str) (B:Kn) (hq:SlK B aq cq 4 ZC q.items):Zu (pj J) 215 [.agg #[.int .i64 q.next,.slice aq q.items.length cq],.int .i64 id,str u] B [] (fun v B' Ls=>(∃l a cp,Ls=[l]∧v = .tuple #[.agg #[.int .i64 (Zc9 q id u).1.next,.slice a (Zc9 q id u).1.items.length cp],str (Zc9 q id u).2.1,.bool (Zc9 q id u).2.2]∧ZT (B'.less B) l a cp 146 4 ZC (Zc9 q id u).1.items∧(Zc9 q id u).2.1.length≤2000000)):=by
 refine cB 20 Tryz.func215 (h:=?_)
 refine Za (xBx [_,_] (h:=fun b1=>xAl [_,_] ZhA (h:=fun b2=>xA (h:=xA (h:=tL2 (Zh (Za (xL [_,_] Zd1 0 (h:=xR Zx1 rfl (ZfT _ _ q _ hq) (h:=xN (h:=Zb rfl (fun g1=>?_) (fun g1=>?_))))))))))))
 try simp only [sQ,ne_eq] at g1
 refine Za (xB [] [_,_] [_,_] ZtQ ZhA (h:=xS [_,_] 1 [_,_] Zfz (h:=xA (h:=xA (h:=tL2 (Zd (Zp ?_)))))))
 have he:Zc9 q id u=(⟨0,[]⟩,[],false):=by simp [Zc9,g1]
 exact Zvb .ret (.inl rfl) [_,_,_] ⟨⟨_,rfl,.inr ⟨[_,_],Zd1,Zaa 1 rfl rfl rfl,rfl⟩⟩,rfl,rfl,trivial⟩ ⟨_,none,0,rfl,by rw [he];rfl,by rw [he];exact ZT.nil,by rw [he];exact Nat.zero_le _⟩
 try simp only [sQ,ne_eq] at g1
 refine wSk (Za (xL [_,_] Zd1 0 (h:=xM (h:=xM (h:=xC ZwC rfl (ZlO _ _ q id u _ hq) (h:=?_))))))
 rintro _ Bk _ hlek ⟨lk,ak,ck,rfl,rfl,hvk,htk⟩
 replace hvk:=hvk.mono ZC.mono (Kn.less_up (Kn.le.refl _) (Kn.le.refl _))
 refine xE (h:=xE (h:=xE (h:=xS [_,_] 1 [_,_] Zfz (h:=xA (h:=xA (h:=tL3 (Zd ?_)))))))
 have he:Zc9 q id u=Zca q id u:=by simp [Zc9,g1]
 exact Zat .ret (.inl rfl) [_,_,_] [2] rfl ⟨⟨_,rfl,.inr ⟨[_,_],Zd1,Zaa 1 rfl rfl rfl,rfl⟩⟩,rfl,rfl,trivial⟩ ⟨_,_,_,rfl,by rw [he];rfl,by rw [he];exact hvk,by rw [he];exact htk⟩

theorem ZiB (b:Nat) (q:Option Addr) (m cp p:Nat) (hp:p≤850000000000) (hm:m≤2000) (B:Kn) (hbm:Zan B q m):Zu (pj J) 214 [ptr ⟨b,0,none⟩] B [rd b q m cp p] (fun v B' Ls=>∃(qx:Option Addr) (cx:Nat) (x:DLetter) (p':Nat),v = .agg #[str x.fr,.slice qx x.to_.length cx,str x.text]∧SlK B' qx cx 1 ZbO x.to_∧x.fr.length≤40∧x.text.length≤40∧x.to_.length≤6∧p'≤p+20∧Ls=[rd b q m cp p']):=by
 refine cB 19 Tryz.func214 (h:=?_)
 refine Za (xAl [_,_,_] Zov (h:=fun b1=>tL2 (Za (xM (h:=xBs [(0,_),(1,_),(2,_)] [_,_,_] Tryz.underlying144 sz9 zo9 (h:=fun b2=>xK [0,2] rfl Zgy rfl (Zqp _ _ _ _ _ _ ([[97,109,121],[98,111,98],[99,121,100]]:List Str) oz (by decide) (by decide) hm _ hbm) (h:=?_)))))))
 rintro _ B3 _ hle3 ⟨rfl,x3,hx3,rfl,rfl⟩
 replace hx3:=(show∀y∈( ([[97,109,121],[98,111,98],[99,121,100]]:List Str):List Str),y.length≤40 from by decide) _ hx3
 refine xM (h:=xK [0] rfl Zyp rfl (ZuJ _ _ _ _ _ oz hm _ hbm) (h:=?_))
 rintro _ B4 _ hle4 ⟨q4,cp4,xs4,p4,rfl,ht4,htn4,hp4,rfl⟩
 replace hbm:=hbm.mono hle4
 refine xM (h:=xX 0 rfl Zro rfl (Ze9 _ _ _ _ _ oz hm _ hbm) (h:=?_))
 rintro _ _ ⟨x5,rfl,hx5,rfl⟩
 refine xB [(0,_),(1,_),(2,_)] [_,_,_] [_,_,_] Zsv Zov (h:=xAl [_,_,_] Zov (h:=fun b6=>xS [_,_,_] 3 [_,_,_] Zum (h:=tL4 (Zh (Za (xM (h:=xX 0 rfl Z6 rfl (ZJ _ _ _ _ _ _ oz oz oz hm _ hbm) (h:=?_))))))))
 rintro _ _ ⟨r7,rfl,r7a,r7b,rfl⟩
 refine ZG (h:=tL4 (Zb rfl (fun g1=>?_) (fun g1=>?_)))
 refine Zc (xM (h:=xX 0 rfl ZkL rfl (ZcF _ _ _ _ _ oz hm _ hbm) (h:=?_)))
 rintro _ _ ⟨x8,rfl,hx8,rfl⟩
 refine xW ZiY (h:=xS [_] 3 [_,_,_] sz9 (h:=Zj (Za (xL [_,_,_] Zm0 3 (h:=xS [_,_,_] 1 [_,_,_] Zum (h:=tL4 (Zd ?_)))))))
 exact eN [0] rfl ⟨⟨_,rfl,.inr ⟨[_,_,_],Zm0,Zaa 1 rfl rfl rfl,rfl⟩⟩,trivial⟩ ⟨_,_,⟨x8,xs4,x5⟩,_,rfl,ht4,so2,so2,so2,oz,rfl⟩
 refine wSk (Za (xL [_,_,_] Zm0 3 (h:=xS [_,_,_] 1 [_,_,_] Zum (h:=tL4 (Zd ?_)))))
 exact eN [0] rfl ⟨⟨_,rfl,.inr ⟨[_,_,_],Zm0,Zaa 1 rfl rfl rfl,rfl⟩⟩,trivial⟩ ⟨_,_,⟨x3,xs4,x5⟩,_,rfl,ht4,so2,so2,so2,oz,rfl⟩

theorem Zo4 (b:Nat) (q:Option Addr) (m cp p:Nat) (hp:p≤800000000000) (hm:m≤2000) (B:Kn) (hbm:Zan B q m):Zu (pj J) 169 [ptr ⟨b,0,none⟩] B [rd b q m cp p] (fun v B' Ls=>∃(aq:Option Addr) (cq:Nat) (qq:DQueue) (p':Nat),v = .agg #[.int .i64 qq.next,.slice aq qq.items.length cq]∧SlK B' aq cq 4 ZC qq.items∧p'≤p+1000∧Ls=[rd b q m cp p']):=by
 refine cB 84 Tryz.func169 (h:=?_)
 refine Za (xAl [_,_] ZhA (h:=fun b1=>tL2 (Za (xM (h:=xX 0 rfl Z6 rfl (ZJ _ _ _ _ _ _ oz oz oz hm _ hbm) (h:=?_))))))
 rintro _ _ ⟨ra,rfl,raa,rab,rfl⟩
 refine xD (h:=xBs [] [] Tryz.underlying40 Zbn Zc1 (h:=fun b3=>xB [(0,_),(1,_)] [_,_] [_,_] ZtQ ZhA (h:=xAl [_,_] ZhA (h:=fun b4=>xS [_,_] 3 [_,_] Zfz (h:=tL4 (Za (xM (h:=xX 0 rfl Z6 rfl (ZJ _ _ _ _ _ _ oz oz oz hm _ hbm) (h:=?_)))))))))
 rintro _ _ ⟨rb,rfl,rba,rbb,rfl⟩
 refine xA (h:=tL4 (Zh (Za (xA (h:=Zn (ZQ (α:=GQ) [0,2,3,4] (fun g=>[(5,.int .i64 g.k)]) [0,2,3] (fun g=>[rd b q m cp g.p,g.l,Z8 b4 [.int .i64 g.q.next,.slice g.a g.q.items.length g.c] 42]) (fun g Bx=>g.k≤8∧g.p≤p+2+40*g.k∧g.q.items.length≤2000000 - 8+g.k∧ZT Bx g.l g.a g.c 146 4 ZC g.q.items) (fun g=>8 - g.k) ⟨0,p+2,_,_,_,⟨_,[]⟩⟩ t1 rfl (⟨Nat.zero_le _,Nat.le_refl _,Nat.zero_le _,.lit0⟩) (fun g B6 hle6 hI=>?_)))))))
 obtain ⟨hk,hgp,hgn,hv⟩:=hI
 replace hbm:=hbm.mono hle6
 refine ZN [(0,_),(2,_),(3,_),(4,_),(5,_)] [_,_,_,_] t5 rfl (Zh (Za (xM (h:=xM (h:=Zag (h:=Zb rfl (fun g1=>?_) (fun g1=>?_)))))))
 try simp only [sQ,ne_eq] at g1
 refine wSk (Zh (Zn (Zk5 (α:=GM) [0,2,3,4,5,17] (fun h=>[(6,ptr ⟨h.b,0,none⟩),(7,.bool h.f)]) [0] (fun h=>[rd b q m cp h.p]) (fun h=>[Z8 h.b [.int .i64 h.q.next,.slice h.a h.q.items.length h.c] 42,h.l]) (fun h Bx=>h.p≤g.p+20∧h.q.items.length≤g.q.items.length+1∧ZT Bx h.l h.a h.c 146 4 ZC h.q.items) ?_ (fun h B7 hle7 hF=>?_))))
 refine ZV (keeps _ [3] _) mo kr ⟨Kn.le.refl _,Zae.refl _ _⟩ (fun _ _=>?_)
 refine aT 0 rfl (Zx fun D B L hI=>ZX [_,_] rfl rfl Zd1 rfl (Zaa 3 (hI.2.1.trans rfl) rfl rfl) r4) (h:=aM 1 rfl (h:=Zaf [2,7] kr kr kr ⟨?_,?_⟩))
 refine (Zao [0] rfl rfl rfl rfl ZwH rfl (ZiB _ _ _ _ _ oz hm _ hbm) ?_)
 rintro _ Bu _ hleu ⟨qxu,cxu,xu,pu,rfl,htu,hfu,hwu,htnu,hpu,rfl⟩
 replace hv:=hv.mono ZC.mono hleu
 replace hbm:=hbm.mono hleu
 refine ⟨⟨hleu,t1⟩,(Zaf [3,7] kr kr kr ⟨?_,?_⟩)⟩
 refine (Zao [2] rfl rfl rfl rfl Zte rfl (Zu.borrow fun hmv=>Zgl _ _ g.q _ _ xu _ (hv.lend ZC.mono hmv om) (htu.mono ZbO.mono (Kn.le_add _ _)) (by first | assumption | omega | (simp;omega)) (by first | assumption | omega | (simp;omega))) ?_)
 rintro _ Bv _ hlev ⟨BBv,_,rfl,hBv,_,hmv,_,lv,av,cv,rfl,rfl,hvv⟩
 replace htu:=up1 hlev htu
 replace hv:=hv.mono ZC.mono hlev
 replace hbm:=hbm.mono hlev
 replace hvv:=hvv.mono ZC.mono (Kn.less_minus' hmv hBv)
 refine ⟨⟨(hleu.trans hlev),t1⟩,(aM 4 rfl (h:=aE 5 rfl (h:=aE 6 rfl (h:=Zo 7 kr rfl kr (Zac (l:=[_,_]) rfl rfl ZhA rfl (fun b10=>?_))))))⟩
 refine ⟨⟨(hleu.trans hlev),t1⟩,(Za4 8 kr rfl kr kr (ZE [_,_] 5 [_,_] rfl rfl Zfz rfl rfl rfl rfl rfl rfl rfl rfl ?_))⟩
 refine aA 9 rfl (h:=Zv kr kr ?_)
 exact ZH ⟨_,pu,lv,av,cv,(ZhZ g.q xu).1,_⟩ [0,1,2,3,5,4] ⟨hpu,ZhY _ _,hvv⟩ t8 rfl
 refine (Zac (l:=[_,_]) rfl rfl ZhA rfl (fun b11=>⟨⟨hleu,t1⟩,(Zo 3 kr rfl kr (Zao [2] rfl rfl rfl rfl Zte rfl (Zu.borrow fun hmv=>Zgl _ _ g.q _ _ xu _ (hv.lend ZC.mono hmv om) (htu.mono ZbO.mono (Kn.le_add _ _)) (by first | assumption | omega | (simp;omega)) (by first | assumption | omega | (simp;omega))) ?_))⟩))
 rintro _ Bv _ hlev ⟨BBv,_,rfl,hBv,_,hmv,_,lv,av,cv,rfl,rfl,hvv⟩
 replace htu:=up1 hlev htu
 replace hv:=hv.mono ZC.mono hlev
 replace hbm:=hbm.mono hlev
 replace hvv:=hvv.mono ZC.mono (Kn.less_minus' hmv hBv)
 refine ⟨⟨(hleu.trans hlev),t1⟩,(aM 4 rfl (h:=aE 5 rfl (h:=aE 6 rfl (h:=Za4 8 kr rfl kr kr (ZE [_,_] 4 [_,_] rfl rfl Zfz rfl rfl rfl rfl rfl rfl rfl rfl ?_)))))⟩
 refine aA 9 rfl (h:=Zv kr kr ?_)
 exact ZH ⟨_,pu,lv,av,cv,(ZhZ g.q xu).1,_⟩ [0,1,2,3,4,5] ⟨hpu,ZhY _ _,hvv⟩ t8 rfl
 refine (Zac (l:=[_,_]) rfl rfl ZhA rfl (fun b13=>⟨⟨Kn.le.refl _,t1⟩,(Zo 2 kr rfl kr (Zao [0] rfl rfl rfl rfl ZwH rfl (ZiB _ _ _ _ _ oz hm _ hbm) ?_))⟩))
 rintro _ Bu _ hleu ⟨qxu,cxu,xu,pu,rfl,htu,hfu,hwu,htnu,hpu,rfl⟩
 replace hv:=hv.mono ZC.mono hleu
 replace hbm:=hbm.mono hleu
 refine ⟨⟨hleu,t1⟩,(Zo 3 kr rfl kr (Zao [2] rfl rfl rfl rfl Zte rfl (Zu.borrow fun hmv=>Zgl _ _ g.q _ _ xu _ (hv.lend ZC.mono hmv om) (htu.mono ZbO.mono (Kn.le_add _ _)) (by first | assumption | omega | (simp;omega)) (by first | assumption | omega | (simp;omega))) ?_))⟩
 rintro _ Bv _ hlev ⟨BBv,_,rfl,hBv,_,hmv,_,lv,av,cv,rfl,rfl,hvv⟩
 replace hv:=hv.mono ZC.mono hlev
 replace hbm:=hbm.mono hlev
 replace hvv:=hvv.mono ZC.mono (Kn.less_minus' hmv hBv)
 refine ⟨⟨(hleu.trans hlev),t1⟩,(aM 4 rfl (h:=aE 5 rfl (h:=aE 6 rfl (h:=Za4 8 kr rfl kr kr (ZE [_,_] 4 [_,_] rfl rfl Zfz rfl rfl rfl rfl rfl rfl rfl rfl ?_)))))⟩
 refine aA 9 rfl (h:=Zv kr kr ?_)
 exact ZH ⟨_,pu,lv,av,cv,(ZhZ g.q xu).1,_⟩ [0,1,2,3,4,5] ⟨hpu,ZhY _ _,hvv⟩ t8 rfl
 obtain ⟨hhp,hhn,hw⟩:=hF
 replace hv:=hv.mono ZC.mono hle7
 replace hbm:=hbm.mono hle7
 refine ZN [(0,_),(2,_),(3,_),(4,_),(5,_),(6,_),(7,_),(17,_)] [_,_,_,_,_,_] t8 rfl (ZpN (α:=GQ) [0,2,3,4,5,6,7,17] (fun o=>[]) (fun o=>[rd b q m cp o.p,Z8 b1 [.int .i64 0,.slice none 0 0] 42,o.l,Z8 b4 [.int .i64 o.q.next,.slice o.a o.q.items.length o.c] 42]) (fun o Bx=>o.p≤g.p+20∧o.q.items.length≤g.q.items.length+1∧ZT Bx o.l o.a o.c 146 4 ZC o.q.items) ?_ (fun o B16 hle16 hF=>?_))
 refine Za (xM (h:=Zb rfl (fun g2=>?_) (fun g2=>?_)))
 try simp only [sQ,ne_eq] at g2
 refine Zc (xL [_,_] Zd1 4 (h:=xS [_,_] 3 [_,_] Zfz (h:=?_)))
 exact ZH ⟨0,h.p,h.l,h.a,h.c,h.q⟩ [0,1,5,3] ⟨hhp,hhn,hw⟩ t8 rfl
 try simp only [sQ,ne_eq] at g2
 refine ZL ?_
 exact ZH ⟨0,h.p,g.l,g.a,g.c,g.q⟩ [0,1,2,3] ⟨hhp,so,hv⟩ t8 rfl
 clear hv
 obtain ⟨hop,hon,hv⟩:=hF
 replace hbm:=hbm.mono hle16
 refine ZN [(0,_),(2,_),(3,_),(4,_),(5,_),(6,_),(7,_),(17,_)] [_,_,_,_] t8 rfl (Za (xW ZaC (h:=x1 Ze7 3 (h:=xV Tryz.underlying40 (h:=ZbG (h:=xM (h:=Zq (d:=33) rfl (fun g3=>?_) (fun g3=>?_))))))))
 try simp only [sQ,ne_eq] at g3
 refine xM (h:=xX 0 rfl Z6 rfl (ZJ _ _ _ _ _ _ oz oz oz hm _ hbm) (h:=?_))
 rintro _ _ ⟨r17,rfl,r17a,r17b,rfl⟩
 refine ZG (h:=xT (h:=tL4 (Zb rfl (fun g4=>?_) (fun g4=>?_))))
 try simp only [sQ,ne_eq] at g4
 refine ZV (keeps _ [2,3] _) mo kr ⟨Kn.le.refl _,Zae.refl _ _⟩ (fun _ _=>?_)
 refine aT 0 rfl (Zx fun D B L hI=>ZX [_,_] rfl rfl Zd1 rfl (Zaa 3 (hI.2.2.1.trans rfl) rfl rfl) r4) (h:=aW 1 rfl ZaC (h:=aT 2 rfl (Zx fun D B L hI=>Ze rfl rfl Ze7 rfl (atL 3 (hI.2.2.1.trans rfl) rfl rfl) r4) (h:=aM 3 rfl (h:=aW 4 rfl ZaC (h:=aT 5 rfl (Zx fun D B L hI=>Ze rfl rfl Ze7 rfl (atL 3 (hI.2.2.1.trans rfl) rfl rfl) r4) (h:=aV 6 rfl Tryz.underlying40 (h:=aM 11 rfl (h:=Zaf [7,12] kr kr kr ⟨?_,?_⟩))))))))
 refine (ZcA 0 rfl rfl rfl Z6 rfl (ZJ _ _ _ _ _ _ oz oz oz hm _ hbm) ?_)
 rintro _ _ ⟨r18,rfl,r18a,r18b,rfl⟩
 refine ⟨⟨Kn.le.refl _,t2⟩,?_⟩
 obtain ⟨z19,hz19⟩:=Zey (xs:=o.q.items) (i:=r18) om om
 obtain ⟨bb20,_,hp20,⟨qi20,ci20,rfl,hi20,hb20,hb20b⟩,hw20,hc20⟩:=hv.row hz19
 have hi20n:=hi20.len
 refine aT 8 rfl (Zx fun D B L hI=>Zgf hp20 rfl rfl Tryz.underlying40 Zbn rfl rfl om om r4) (h:=?_)
 refine aW 9 rfl ZdE (h:=aT 10 rfl (Zx fun D B L hI=>Ze rfl rfl lk3 rfl (hc20 _ 2 (hI.2.1.trans rfl) 0 _ rfl) r4) (h:=Zo 12 kr rfl kr (Zs (parts:=[(0,_),(1,_),(2,_)]) [_,_,_] rfl rfl Tryz.underlying144 sz9 zo9 rfl rfl rfl rfl rfl (fun b21=>?_))))
 refine ⟨⟨Kn.le.refl _,t2⟩,(Zo 13 kr rfl kr (Zao [0,4] rfl rfl rfl rfl Zgy rfl (Zqp _ _ _ _ _ _ ([[97,109,121],[98,111,98],[99,121,100]]:List Str) oz (by decide) (by decide) hm _ hbm) ?_))⟩
 rintro _ Bw _ hlew ⟨rfl,xw,hxw,rfl,rfl⟩
 replace hxw:=(show∀y∈( ([[97,109,121],[98,111,98],[99,121,100]]:List Str):List Str),y.length≤40 from by decide) _ hxw
 refine ⟨⟨Kn.le.refl _,t2⟩,(Zo 14 kr rfl kr (Zao [2] rfl rfl rfl rfl ZwG rfl (Zu.borrow fun hm23=>Zjz _ _ o.q z19.id xw _ (hv.lend ZC.mono hm23 om)) ?_))⟩
 rintro _ B23 _ hle23 ⟨BB23,_,rfl,hB23,_,hm23,_,l23,a23,c23,rfl,rfl,hv23,ht23⟩
 replace hv:=hv.mono ZC.mono hle23
 replace hbm:=hbm.mono hle23
 replace hv23:=hv23.mono ZC.mono (Kn.less_minus' hm23 hB23)
 refine ⟨⟨hle23,t2⟩,(aM 15 rfl (h:=aE 16 rfl (h:=aE 17 rfl (h:=aE 18 rfl (h:=Za4 19 kr rfl kr kr (ZE [_,_] 3 [_,_] rfl rfl Zfz rfl rfl rfl rfl rfl rfl rfl rfl ?_))))))⟩
 refine Zv kr kr ?_
 refine Zw (Zj (Zc (xM (h:=xD (h:=xA (h:=?_))))))
 exact ZD ⟨g.k+1,(((o.p+1)+1)+1),l23,a23,c23,((Zc9 o.q z19.id xw).1)⟩ [0,1,5,3] so2 ⟨so,so,Nat.le_trans (Zly _ _ _) (so),hv23⟩ t5 rfl
 refine (Zs (parts:=[(0,_),(1,_),(2,_)]) [_,_,_] rfl rfl Tryz.underlying144 sz9 zo9 rfl rfl rfl rfl rfl (fun b24=>⟨⟨Kn.le.refl _,t2⟩,(Zo 7 kr rfl kr (ZcA 0 rfl rfl rfl Z6 rfl (ZJ _ _ _ _ _ _ oz oz oz hm _ hbm) ?_))⟩))
 rintro _ _ ⟨r25,rfl,r25a,r25b,rfl⟩
 refine ⟨⟨Kn.le.refl _,t2⟩,?_⟩
 obtain ⟨z26,hz26⟩:=Zey (xs:=o.q.items) (i:=r25) om om
 obtain ⟨bb27,_,hp27,⟨qi27,ci27,rfl,hi27,hb27,hb27b⟩,hw27,hc27⟩:=hv.row hz26
 have hi27n:=hi27.len
 refine aT 8 rfl (Zx fun D B L hI=>Zgf hp27 rfl rfl Tryz.underlying40 Zbn rfl rfl om om r4) (h:=?_)
 refine aW 9 rfl ZdE (h:=aT 10 rfl (Zx fun D B L hI=>Ze rfl rfl lk3 rfl (hc27 _ 2 (hI.2.1.trans rfl) 0 _ rfl) r4) (h:=Zo 13 kr rfl kr (Zao [0,4] rfl rfl rfl rfl Zgy rfl (Zqp _ _ _ _ _ _ ([[97,109,121],[98,111,98],[99,121,100]]:List Str) oz (by decide) (by decide) hm _ hbm) ?_)))
 rintro _ Bw _ hlew ⟨rfl,xw,hxw,rfl,rfl⟩
 replace hxw:=(show∀y∈( ([[97,109,121],[98,111,98],[99,121,100]]:List Str):List Str),y.length≤40 from by decide) _ hxw
 refine ⟨⟨Kn.le.refl _,t2⟩,(Zo 14 kr rfl kr (Zao [2] rfl rfl rfl rfl ZwG rfl (Zu.borrow fun hm29=>Zjz _ _ o.q z26.id xw _ (hv.lend ZC.mono hm29 om)) ?_))⟩
 rintro _ B29 _ hle29 ⟨BB29,_,rfl,hB29,_,hm29,_,l29,a29,c29,rfl,rfl,hv29,ht29⟩
 replace hv:=hv.mono ZC.mono hle29
 replace hbm:=hbm.mono hle29
 replace hv29:=hv29.mono ZC.mono (Kn.less_minus' hm29 hB29)
 refine ⟨⟨hle29,t2⟩,(aM 15 rfl (h:=aE 16 rfl (h:=aE 17 rfl (h:=aE 18 rfl (h:=Za4 19 kr rfl kr kr (ZE [_,_] 3 [_,_] rfl rfl Zfz rfl rfl rfl rfl rfl rfl rfl rfl ?_))))))⟩
 refine Zv kr kr ?_
 refine Zw (Zj (Zc (xM (h:=xD (h:=xA (h:=?_))))))
 exact ZD ⟨g.k+1,(((o.p+1)+1)+1),l29,a29,c29,((Zc9 o.q z26.id xw).1)⟩ [0,1,5,3] so2 ⟨so,so,Nat.le_trans (Zly _ _ _) (so),hv29⟩ t5 rfl
 try simp only [sQ,ne_eq] at g4
 refine ZL (Zw (Zj (Zc (xM (h:=xD (h:=xA (h:=?_)))))))
 exact ZD ⟨g.k+1,(o.p+1),o.l,o.a,o.c,o.q⟩ [0,1,2,3] so2 ⟨so,so,so,hv⟩ t5 rfl
 try simp only [sQ,ne_eq] at g3
 refine xP (h:=xP (h:=xP (h:=xF (h:=Zb (t:=false) rfl (fun h=>Bool.noConfusion h) (fun _=>ZL (Zw (Zj (Zc (xM (h:=xD (h:=xA (h:=?_))))))))))))
 exact ZD ⟨g.k+1,o.p,o.l,o.a,o.c,o.q⟩ [0,1,2,3] so2 ⟨so,so,so,hv⟩ t5 rfl
 try simp only [sQ,ne_eq] at g1
 refine ZU (Zak (Z3 (ZK (Zj (Zh (Za (xM (h:=xX 0 rfl Z6 rfl (ZJ _ _ _ _ _ _ oz oz oz hm _ hbm) (h:=?_)))))))))
 rintro _ _ ⟨r30,rfl,r30a,r30b,rfl⟩
 refine tL4 (Zn (Za (ZG (h:=xA (h:=Zb rfl (fun g2=>?_) (fun g2=>?_))))))
 try simp only [sQ,ne_eq] at g2
 refine Zc (xBs [(0,_),(1,_),(2,_),(3,_),(4,_)] [_,_,_,_,_] Tryz.underlying57 sz3 zo3 (h:=fun b31=>ZZ 4 rfl (ZT.ints (ls:=([0,1,99,100,101]:List Int))) Zb9.mono om3 (fun B32 hle32 hr32=>?_)))
 replace hv:=hv.mono ZC.mono hle32
 replace hbm:=hbm.mono hle32
 have hr32n:=hr32.len
 refine xM (h:=xX 0 rfl Z6 rfl (ZJ _ _ _ _ _ _ oz oz oz hm _ hbm) (h:=?_))
 rintro _ _ ⟨r33,rfl,r33a,r33b,rfl⟩
 obtain ⟨z34,hz34⟩:=Zey (xs:=([0,1,99,100,101]:List Int)) (i:=r33) om om
 obtain ⟨_,rfl,hc35⟩:=hr32.elem hz34
 refine xIx Tryz.underlying57 sz3 (h:=y1 lk3 hc35 0 (h:=xW ZeU (h:=xS [_] 3 [_,_] sz3 (h:=Zw (Zj (ZdS 2 rfl hv ZC.mono om3 (fun B36 hle36 hr36=>?_)))))))
 replace hbm:=hbm.mono hle36
 have hr36n:=hr36.len
 refine Za (xL [_,_] Zd1 3 (h:=xS [_,_] 1 [_,_] Zfz (h:=tL5 (Zd ?_))))
 exact eN [0] rfl ⟨⟨_,rfl,.inr ⟨[_,_],Zd1,Zaa 1 rfl rfl rfl,rfl⟩⟩,trivial⟩ ⟨_,_,⟨z34,g.q.items⟩,_,(ol),hr36,oz,rfl⟩
 try simp only [sQ,ne_eq] at g2
 refine Za (ZG (h:=xA (h:=Zb rfl (fun g3=>?_) (fun g3=>?_))))
 try simp only [sQ,ne_eq] at g3
 refine Za (xW ZaC (h:=x1 Ze7 3 (h:=xV Tryz.underlying40 (h:=ZbG (h:=Zb rfl (fun g4=>?_) (fun g4=>?_))))))
 try simp only [sQ,ne_eq] at g4
 refine ZV (keeps _ [2,3] _) mo kr ⟨Kn.le.refl _,Zae.refl _ _⟩ (fun _ _=>?_)
 refine aW 0 rfl ZaC (h:=aT 1 rfl (Zx fun D B L hI=>Ze rfl rfl Ze7 rfl (atL 3 (hI.2.2.1.trans rfl) rfl rfl) r4) (h:=aM 2 rfl (h:=aW 3 rfl ZaC (h:=aT 4 rfl (Zx fun D B L hI=>Ze rfl rfl Ze7 rfl (atL 3 (hI.2.2.1.trans rfl) rfl rfl) r4) (h:=aV 5 rfl Tryz.underlying40 (h:=Zaf [6,7] kr kr kr ⟨?_,?_⟩))))))
 refine (ZcA 0 rfl rfl rfl Z6 rfl (ZJ _ _ _ _ _ _ oz oz oz hm _ hbm) ?_)
 rintro _ _ ⟨r37,rfl,r37a,r37b,rfl⟩
 refine ⟨⟨Kn.le.refl _,t2⟩,(Zo 7 kr rfl kr (Zs (parts:=[]) [] rfl rfl Tryz.underlying144 sz9 zo9 rfl rfl rfl rfl rfl (fun b38=>?_)))⟩
 refine ⟨⟨Kn.le.refl _,t2⟩,?_⟩
 obtain ⟨z39,hz39⟩:=Zey (xs:=g.q.items) (i:=r37) om om
 obtain ⟨bb40,_,hp40,⟨qi40,ci40,rfl,hi40,hb40,hb40b⟩,hw40,hc40⟩:=hv.row hz39
 have hi40n:=hi40.len
 refine aT 8 rfl (Zx fun D B L hI=>Zgf hp40 rfl rfl Tryz.underlying40 Zbn rfl rfl om om r4) (h:=?_)
 refine aW 9 rfl ZaR (h:=ZO 10 kr rfl kr kr kr (ZeA (k:=(r37).toNat) (off:=3) (⟨z39.id,z39.fr,z39.text,[]⟩) [_] 2 hv hp40 hz39 rfl rfl ZoD rfl rfl rfl rfl rfl rfl (by rintro _ ⟨_,_,rfl,_,e1,e2⟩;exact ⟨_,_,rfl,SlK.nil,e1,e2⟩) (fun l41 hv41=>?_)))
 refine Zw (Zj (ZdS 2 rfl hv41 ZC.mono om3 (fun B42 hle42 hr42=>?_)))
 replace hbm:=hbm.mono hle42
 have hr42n:=hr42.len
 refine Za (xL [_,_] Zd1 3 (h:=xS [_,_] 1 [_,_] Zfz (h:=tL5 (Zd ?_))))
 exact Zat .ret (.inl rfl) [_] [0] rfl ⟨⟨_,rfl,.inr ⟨[_,_],Zd1,Zaa 1 rfl rfl rfl,rfl⟩⟩,trivial⟩ ⟨_,_,⟨g.q.next,(g.q.items.set ((r37).toNat) (⟨z39.id,z39.fr,z39.text,[]⟩))⟩,_,(by first | rfl | (simp only [List.length_set];rfl)),hr42,by omega,rfl⟩
 refine (Zs (parts:=[]) [] rfl rfl Tryz.underlying144 sz9 zo9 rfl rfl rfl rfl rfl (fun b43=>⟨⟨Kn.le.refl _,t2⟩,(Zo 6 kr rfl kr (ZcA 0 rfl rfl rfl Z6 rfl (ZJ _ _ _ _ _ _ oz oz oz hm _ hbm) ?_))⟩))
 rintro _ _ ⟨r44,rfl,r44a,r44b,rfl⟩
 refine ⟨⟨Kn.le.refl _,t2⟩,?_⟩
 obtain ⟨z45,hz45⟩:=Zey (xs:=g.q.items) (i:=r44) om om
 obtain ⟨bb46,_,hp46,⟨qi46,ci46,rfl,hi46,hb46,hb46b⟩,hw46,hc46⟩:=hv.row hz45
 have hi46n:=hi46.len
 refine aT 8 rfl (Zx fun D B L hI=>Zgf hp46 rfl rfl Tryz.underlying40 Zbn rfl rfl om om r4) (h:=?_)
 refine aW 9 rfl ZaR (h:=ZO 10 kr rfl kr kr kr (ZeA (k:=(r44).toNat) (off:=3) (⟨z45.id,z45.fr,z45.text,[]⟩) [_] 2 hv hp46 hz45 rfl rfl ZoD rfl rfl rfl rfl rfl rfl (by rintro _ ⟨_,_,rfl,_,e1,e2⟩;exact ⟨_,_,rfl,SlK.nil,e1,e2⟩) (fun l47 hv47=>?_)))
 refine Zw (Zj (ZdS 2 rfl hv47 ZC.mono om3 (fun B48 hle48 hr48=>?_)))
 have hr48n:=hr48.len
 refine Za (xL [_,_] Zd1 3 (h:=xS [_,_] 1 [_,_] Zfz (h:=tL5 (Zd ?_))))
 exact Zat .ret (.inl rfl) [_] [0] rfl ⟨⟨_,rfl,.inr ⟨[_,_],Zd1,Zaa 1 rfl rfl rfl,rfl⟩⟩,trivial⟩ ⟨_,_,⟨g.q.next,(g.q.items.set ((r44).toNat) (⟨z45.id,z45.fr,z45.text,[]⟩))⟩,_,(by first | rfl | (simp only [List.length_set];rfl)),hr48,by omega,rfl⟩
 try simp only [sQ,ne_eq] at g4
 refine ZL (Zw (Zj (ZdS 2 rfl hv ZC.mono om3 (fun B49 hle49 hr49=>?_))))
 have hr49n:=hr49.len
 refine Za (xL [_,_] Zd1 3 (h:=xS [_,_] 1 [_,_] Zfz (h:=tL4 (Zd ?_))))
 exact eN [0] rfl ⟨⟨_,rfl,.inr ⟨[_,_],Zd1,Zaa 1 rfl rfl rfl,rfl⟩⟩,trivial⟩ ⟨_,_,g.q,_,(ol),hr49,oz,rfl⟩
 try simp only [sQ,ne_eq] at g3
 refine ZL (Zw (Zj (ZdS 2 rfl hv ZC.mono om3 (fun B50 hle50 hr50=>?_))))
 have hr50n:=hr50.len
 refine Za (xL [_,_] Zd1 3 (h:=xS [_,_] 1 [_,_] Zfz (h:=tL4 (Zd ?_))))
 exact eN [0] rfl ⟨⟨_,rfl,.inr ⟨[_,_],Zd1,Zaa 1 rfl rfl rfl,rfl⟩⟩,trivial⟩ ⟨_,_,g.q,_,(ol),hr50,oz,rfl⟩

theorem Zm9 (q:Option Addr) (cp:Nat) (x:DItem) (B:Kn) (hx:SlK B q cp 1 ZbO x.left):Zu (pj J) 247 [.agg #[.int .i64 x.id,str x.fr,str x.text,.slice q x.left.length cp]] B [] (fun v B' Ls=>B'=B∧∃ins a c,Ls=[ins]∧v = .agg #[.int .i64 x.id,str x.fr,str x.text,.slice a x.left.length c]∧ZrP 9 ins a c x.left):=by
 refine cB 9 Tryz.func247 (h:=?_)
 have hxn:=hx.len
 refine Za (xBx [_,_,_,_] (h:=fun b1=>xAl [_,_,_,_] Zc1 (h:=fun b2=>tL2 (Za (xBs [] [] Tryz.underlying144 sz9 zo9 (h:=fun b3=>xW ZaR (h:=x1 Zda 0 (h:=Zm (ZaP (R:=ZbO) 2 rfl (ZT.lit0 (R:=ZbO)) rfl rfl rfl ZgY ZgG rfl rfl rfl hx.rows ZbO.one rfl om (fun l4 p4 c4 hv4=>?_))))))))))
 refine xW ZaR (h:=xS [_] 0 [_,_,_,_] ZoD (h:=tL3 (Za (xL [_,_,_,_] Zec 0 (h:=xS [_,_,_,_] 1 [_,_,_,_] Zbn (h:=tL3 (Zd ?_)))))))
 exact eN [2] rfl ⟨⟨_,rfl,.inr ⟨[_,_,_,_],Zec,Zaa 1 rfl rfl rfl,rfl⟩⟩,trivial⟩ ⟨rfl,_,_,_,rfl,rfl,(hv4).anyK ZbO.any⟩

theorem Zpv (q:Option Addr) (m cp:Nat) (B:Kn):Zu (pj J) 246 [.slice q m cp] B [] (fun v B' Ls=>B'=B∧∃b,Ls=[Z8 b [.slice q m cp] 40]∧v = .func (.func 274) #[] #[ptr ⟨b,0,none⟩]):=by
 refine cB 4 Tryz.func246 (h:=?_)
 refine Za (xBx [_] (h:=fun b1=>xA (h:=tL1 (Za (Zm (Zdm (xs:=[]) (ys:=[_]) rfl rfl rfl rfl (xA (h:=Zd ?_))))))))
 exact eN [0] rfl t1 ⟨rfl,_,rfl,rfl⟩

theorem Zvo (l bc:Nat) (q:Option Addr) (cp:Nat) (xs:List DItem) (Inv:Nat→Kn→Cells→Prop) (s0:Cells) (B:Kn) (hq:SlK B q cp 4 ZC xs) (hcc:ZaI B bc 0 [.slice q xs.length cp]) (h0:Inv xs.length B s0) (hround :∀(j:Nat) (i:Int) (x:DItem) (row:List Value) (B':Kn) (s:Cells),B.le B'→Inv (j+1) B' s→xs[j]? = some x→ZC B' row x→∃lp,(l,Obj.loop lp)∈s∧lp.params.size=2∧ZrQ (pj J) l lp.fn (Zmi lp.params lp.tmps [.int .i64 i,.agg row.toArray]) lp.assign lp.body B' s (fun B'' s'=>Inv j B'' s')):Zu (pj J) 274 [.func (.yield l) #[] #[],ptr ⟨bc,0,none⟩] B [s0] (fun v B' Ls=>∃s,Ls=[s]∧Inv 0 B' s):=by
 refine cB 19 Tryz.func274 (h:=?_)
 have hqn:=hq.len
 refine Za (Zm (Ze rfl rfl Ze7 rfl (hcc _ 0 _ rfl) (xV Tryz.underlying40 (h:=xU (h:=xA (h:=Zn (ZQ (α:=Int × Cells) [0,1] (fun g=>[(3,.int .i64 g.1)]) [0] (fun g=>[g.2]) (fun g Bx=>-1≤g.1∧g.1<xs.length∧Inv (g.1+1).toNat Bx g.2) (fun g=>(g.1+1).toNat) ((xs.length:Int) - 1,s0) t1 rfl (⟨so,so,by rw [show ((xs.length:Int) - 1+1).toNat=xs.length from by omega];exact h0⟩) (fun g B1 hle1 hI=>?_))))))))
 obtain ⟨hk1,hk,hI⟩:=hI
 replace hq:=up1 hle1 hq
 replace hcc:=hcc.mono hle1
 refine ZN [(0,_),(1,_),(3,_)] [_] t3 rfl (Zh (Za (xM (h:=ZdN (h:=Zb rfl (fun g1=>?_) (fun g1=>?_))))))
 try simp only [sQ,ne_eq] at g1
 refine wSk (Zh (Zn (Za (xM (h:=xM (h:=Zm (Ze rfl rfl Ze7 rfl (hcc _ 0 _ rfl) (xM (h:=?_)))))))))
 obtain ⟨x,hx⟩:=Zey (xs:=xs) (i:=g.1) om om
 obtain ⟨bb3,oo3,rfl⟩:=hq.base hx
 obtain ⟨_,⟨qi4,ci4,rfl,hi4,hb4,hb4b⟩,hc4⟩:=hq.elem hx
 have hi4n:=hi4.len
 refine xIx Tryz.underlying40 Zbn (h:=?_)
 obtain ⟨lp,hl,hs,hr⟩:=hround g.1.toNat g.1 x _ _ g.2 (oy) (by rw [show g.1.toNat+1=(g.1+1).toNat from by omega];exact hI) hx ⟨_,_,rfl,oy,oy,oy⟩
 refine yL [_,_,_,_] Zec hc4 0 (h:=Zm (Zue (j:=0) rfl hl rfl rfl rfl rfl hs.symm hr (fun Bc sc hlec hIc=>xN (h:=tL1 (Zb rfl (fun g2=>by cases g2) (fun g2=>?_))))))
 try simp only [sQ,ne_eq] at g2
 refine ZL (Zw (Zj (Zc (xM (h:=xU (h:=xA (h:=?_)))))))
 exact ZD (g.1 - 1,sc) [0] so2 ⟨so,so,by simp only [];rw [show (g.1 - 1+1).toNat=g.1.toNat from by omega];exact hIc⟩ t3 rfl
 try simp only [sQ,ne_eq] at g1
 refine ZU (Zak (Z3 (ZK ?_)))
 exact Zat .normal (.inr rfl) [] [0] rfl trivial ⟨_,rfl,by rw [show (g.1+1).toNat=0 from by omega] at hI;exact hI⟩

theorem ZmT (q:Option Addr) (cp:Nat) (x:DQueue) (B:Kn) (hx:SlK B q cp 4 ZC x.items):Zu (pj J) 198 [.agg #[.int .i64 x.next,.slice q x.items.length cp]] B [] (fun v B' Ls=>∃s,Ls=[s]∧Zg7 9 332 v x.items s):=by
 refine Zme 17 Tryz.func198 rfl rfl rfl (Nat.le_of_ble_eq_true rfl) ?_
 refine Ze0 (xBx [_,_] (h:=fun b1=>xA (h:=Zp6 [(0,_),(1,_),(2,_)] [_] t3 rfl (Ze0 (xAl [_] Zxl (h:=fun b2=>Zp6 [(0,_),(1,_),(2,_),(3,_)] [_,_] t4 rfl (Zv6 (Ze0 (xW ZaC (h:=x1 Ze7 0 (h:=xC Zyt rfl (Zpv _ _ _ _) (h:=?_))))))))))))
 rintro _ B3 _ hle3 ⟨rfl,b3,rfl,rfl⟩
 refine Zp6 [(0,_),(1,_),(2,_),(3,_),(8,_)] [_,_,_] t5 rfl (Zul (ZxC 2 rfl (fun B4 hle4 hm4=>?_)))
 replace hx:=up1 hle4 hx
 have hcc:=ZbR hm4
 refine ZxB [1] rfl (Zsg (J:=fun B' L'=>∃v s,L'=[Z8 b2 [v] 275,s]∧Zg7 9 332 v x.items s) (cap:=[_]) rfl Zye (fun lp l hTn hTS hps hasg hbd hst hlp=>?_) (fun r B9 L9 hle9 hJ=>?_))
 refine Zu.mono (Zvo l _ _ _ x.items (fun j B9 s9=>∃v cells,s9.Perm ((l,Obj.loop lp) :: (Z8 b2 [v] 275 ++ cells))∧Zg7 9 332 v (x.items.drop j) cells) _ _ hx hcc ⟨.pointer none,[],by simp,by rw [List.drop_length];exact ⟨rfl,rfl⟩⟩ ?_) ?_
 rintro j i y row B9 s9 hle9 ⟨v,cells,hp,hl⟩ hy hrow
 obtain ⟨qy,cy,rfl,hy5,hy6,hy7⟩:=hrow
 have hy5n:=hy5.len
 obtain ⟨p9,rfl⟩:=hl.ptr
 obtain ⟨hA,hN⟩:=Ztx (a:=9) (b:=10) (x:=.int .i64 i) (y:=.agg #[.int .i64 y.id,str y.fr,str y.text,.slice qy y.left.length cy]) hTS hTn rfl rfl
 refine ⟨lp,hp.mem_iff.2 (List.mem_cons_self ..),by rw [hps];rfl,?_⟩
 rw [hps,hasg,hbd]
 refine Zqj (L:=[Z8 b2 [.pointer p9] 275,cells]) (lp:=lp) hN [(3,_),(9,_),(10,_)] (hA.sub t3) (by simpa using hp) hst ?_
 refine Zc (xAl [_,_,_,_] Zc1 (h:=fun b4=>xS [_,_,_,_] 3 [_,_,_,_] Zbn (h:=⟨rfl,rfl,rfl,(tL4 (Zn (ZV (keeps _ [1,3] _) mo kr ⟨Kn.le.refl _,Zae.refl _ _⟩ (fun _ _=>?_))))⟩)))
 refine aT 0 rfl (Zx fun D B L hI=>ZX [_,_,_,_] rfl rfl Zec rfl (Zaa 3 (hI.2.2.1.trans rfl) rfl rfl) r4) (h:=aT 2 rfl (Zx fun D B L hI=>Ze rfl rfl ZuH rfl (atL 1 (hI.2.1.trans rfl) rfl rfl) r4) (h:=Zo 1 kr rfl kr (Zbd rfl rfl Zys rfl (Zm9 _ _ y _ hy5) ?_)))
 rintro _ B5 _ hle5 ⟨rfl,ins5,a5,c5,rfl,rfl,hs5⟩
 refine ⟨⟨Kn.le.refl _,t2⟩,(aT 3 rfl (Zx fun D B L hI=>Zam (parts:=[(0,_),(1,_)]) [_,_,_,_,_] [_,_,_,_,_] rfl rfl ZxI Zxh rfl rfl rfl r4) (h:=Zo 4 kr rfl kr (ZpU (l:=[_,_,_,_,_]) rfl rfl rfl rfl (fun b6=>?_))))⟩
 refine ⟨⟨Kn.le.refl _,t2⟩,(ZO 5 kr rfl kr kr kr (ZE [_] 1 [_] rfl rfl ZxE rfl rfl rfl rfl rfl rfl rfl rfl ?_))⟩
 refine Zw (⟨rfl,rfl,(l,Obj.loop lp) :: (Z8 b2 [ptr ⟨b6,0,none⟩] 275 ++ (Z8 b6 ([.int .i64 y.id,str y.fr,str y.text,.slice a5 y.left.length c5] ++ [.pointer p9]) 332 ++ (ins5 ++ cells))),Z8 b4 [.int .i64 y.id,str y.fr,str y.text,.slice qy y.left.length cy] 146,?_,_,_,.refl _,?_⟩)
 refine (ZaQ [0,1,5,4,2] _ _ _ rfl).trans ?_
 rw [hlp]
 simp [Z8]
 rw [Zrr hy]
 exact ⟨_,_,_,_,_,rfl,.refl _,⟨_,_,rfl,hs5,oy,oy,oy⟩,hl⟩
 rintro _ B9 _ hle9 ⟨s9,rfl,v,cells,hp,hl⟩
 exact ⟨[Z8 b2 [v] 275,cells],_,rfl,by simpa using hp,v,cells,rfl,by simpa using hl⟩
 obtain ⟨v,s9,rfl,hl⟩:=hJ
 refine Zw (Zj (Za (x1 ZuH 0 (h:=xA (h:=tL3 (Zd ?_))))))
 exact ⟨.inl rfl,r,2,rfl,rfl,[_],[_],t1,⟨_,List.perm_append_comm⟩,_,rfl,hl⟩

theorem Zqn (nx:Int) (v:Value) (xs:List DItem) (cells:Cells) (B:Kn) (hn:xs.length≤2000000) (hv:Zg7 9 332 v xs cells):Zu (pj J) 197 [.int .i64 nx,v] B [cells] (fun v B' Ls=>B'=B∧∃l q c,Ls=[l]∧v = .agg #[.int .i64 nx,.slice q xs.length c]∧Zd7 l q c 146 4 (Zg8 9) xs):=by
 refine cB 27 Tryz.func197 (h:=?_)
 obtain ⟨p,rfl⟩:=hv.ptr
 refine Za (xAl [_,_] ZhA (h:=fun b1=>tL2 (Za (xM (h:=xBs [] [] Tryz.underlying40 Zbn Zc1 (h:=fun b2=>xB [(0,_),(1,_)] [_,_] [_,_] ZtQ ZhA (h:=xAl [_,_] ZhA (h:=fun b3=>xS [_,_] 3 [_,_] Zfz (h:=tL4 (Zh (Za (xM (h:=xA (h:=Zn (ZQ (α:=QOf) [0,1,4,5] (fun g=>[(6,.pointer g.p)]) [0,2,3] (fun g=>[g.cells,g.l,Z8 b3 [.int .i64 nx,.slice g.q g.ys.length g.c] 42]) (fun g Bx=>Bx=B∧g.ys ++ g.xs=xs∧Zd7 g.l g.q g.c 146 4 (Zg8 9) g.ys∧Zg7 9 332 (.pointer g.p) g.xs g.cells) (fun g=>g.xs.length) ⟨p,[],xs,_,_,_,_⟩ t1 rfl (⟨rfl,rfl,.lit0,hv⟩) (fun g B4 hle4 hI=>?_))))))))))))))))
 obtain ⟨rfl,hxs,hvd,hl⟩:=hI
 refine ZN [(0,_),(1,_),(4,_),(5,_),(6,_)] [_,_,_,_] t5 rfl (Zh (Za (xM (h:=Zm (ZvN rfl rfl rfl rfl rfl (Ztc Tryz.underlying275) (Zb rfl (fun g1=>?_) (fun g1=>?_)))))))
 obtain ⟨y,ys,b8,q8,c8,np,ins8,rest8,hp8,hrest,hperm,hy5,hy6,hy7,hy8,hl8⟩:=hl.more (by simpa using g1)
 rw [hp8]
 have hlen:=congrArg List.length hxs
 rw [List.length_append,hrest,List.length_cons] at hlen
 replace hlen:g.ys.length+1≤2000000:=by omega
 refine Zub 0 rfl hperm (tL6 (wSk (Zh (Zn (ZV (keeps _ [0,3] _) mo kr ⟨Kn.le.refl _,Zae.refl _ _⟩ (fun _ _=>?_))))))
 refine aW 0 rfl ZaC (h:=aT 1 rfl (Zx fun D B L hI=>Ze rfl rfl Ze7 rfl (atL 3 (hI.2.2.1.trans rfl) rfl rfl) r4) (h:=aM 2 rfl (h:=aNc 3 rfl (h:=aW 4 rfl Zu0 (h:=aT 5 rfl (Zx fun D B L hI=>ZX [_,_,_,_] rfl rfl Zec rfl (Zaa 0 (hI.2.1.trans rfl) rfl rfl) r4) (h:=Zo 6 kr rfl kr (Zs (parts:=[(0,_)]) [_,_,_,_] rfl rfl Tryz.underlying40 Zbn Zc1 rfl rfl rfl rfl rfl (fun b5=>?_))))))))
 refine ⟨⟨Kn.le.refl _,t2⟩,(Zo 7 kr rfl kr (ZvZ (R:=Zg8 9) (z:=y) 2 4 rfl rfl rfl hvd rfl rfl rfl ZvA Zvy rfl rfl (ZaO.box 6 rfl) rfl rfl ⟨_,_,rfl,hy5,hy6,hy7,hy8⟩ oz (fun l9 q9 c9 hv9=>?_)))⟩
 refine ⟨⟨Kn.le.refl _,t2⟩,(aW 8 rfl ZaC (h:=ZO 9 kr rfl kr kr kr (ZE [_] 3 [_,_] rfl rfl Zvx rfl rfl rfl rfl rfl rfl rfl rfl ?_)))⟩
 refine Zw (Zj (Zc (xM (h:=xNc (h:=xW ZuZ (h:=x1 ZuH 0 (h:=xA (h:=?_))))))))
 exact ZD ⟨np,g.ys ++ [y],ys,l9,q9,c9,rest8⟩ [5,1,2,3] (by rw [hrest];simp) ⟨rfl,by rw [← hxs,hrest];simp,hv9,hl8⟩ t5 rfl
 rw [hl.done (by simpa using g1),List.append_nil] at hxs
 subst hxs
 refine ZU (Zak (Z3 (ZK (Zj (Za (xL [_,_] Zd1 3 (h:=xS [_,_] 1 [_,_] Zfz (h:=tL4 (Zd ?_)))))))))
 exact eN [2] rfl ⟨⟨_,rfl,.inr ⟨[_,_],Zd1,Zaa 1 rfl rfl rfl,rfl⟩⟩,trivial⟩ ⟨rfl,_,_,_,rfl,rfl,hvd⟩

theorem Zlx (q:Option Addr) (cp:Nat) (x:DQueue) (B:Kn) (hx:SlK B q cp 4 ZC x.items):Zu (pj J) 144 [.agg #[.int .i64 x.next,.slice q x.items.length cp]] B [] (fun v B' Ls=>∃l q c,Ls=[l]∧v = .agg #[.int .i64 x.next,.slice q x.items.length c]∧Zd7 l q c 146 4 (Zg8 9) x.items):=by
 refine cB 8 Tryz.func144 (h:=?_)
 have hxn:=hx.len
 refine Za (xBx [_,_] (h:=fun b1=>xAl [_,_] ZhA (h:=fun b2=>tL2 (Zh (ZV (keeps _ [0] _) mo kr ⟨Kn.le.refl _,Zae.refl _ _⟩ (fun _ _=>?_))))))
 refine aW 0 rfl ZeU (h:=aT 1 rfl (Zx fun D B L hI=>Ze rfl rfl lk3 rfl (atL 0 (hI.2.1.trans rfl) rfl rfl) r4) (h:=aT 2 rfl (Zx fun D B L hI=>ZX [_,_] rfl rfl Zd1 rfl (Zaa 0 (hI.2.1.trans rfl) rfl rfl) r4) (h:=Zo 3 kr rfl kr (Zbd rfl rfl ZyF rfl (ZmT _ _ x _ hx) ?_))))
 rintro _ B3 _ hle3 ⟨sl3,rfl,hl3⟩
 refine ⟨⟨hle3,t1⟩,(Zo 4 kr rfl kr (Zao [2] rfl rfl rfl rfl ZyG rfl (Zqn _ _ _ _ _ oa hl3) ?_))⟩
 rintro _ B4 _ hle4 ⟨rfl,ld4,ad4,cd4,rfl,rfl,hd4⟩
 refine ⟨⟨hle3,t1⟩,(ZO 5 kr rfl kr kr kr (ZE [_,_] 1 [_,_] rfl rfl Zfz rfl rfl rfl rfl rfl rfl rfl rfl ?_))⟩
 refine Zj (tL3 (Zd ?_))
 exact eN [2] rfl ⟨⟨_,rfl,.inr ⟨[_,_],Zd1,Zaa 1 rfl rfl rfl,rfl⟩⟩,trivial⟩ ⟨_,_,_,rfl,rfl,hd4⟩

theorem ZqU (q:Option Addr) (m cp:Nat) (B:Kn):ZaX (pj J) 305 [.slice q m cp] B (.int .i64 m):=by
 refine cB 5 Tryz.func305 (h:=?_)
 refine Za (xA (h:=Za (xM (h:=xV Tryz.underlying296 (h:=xA (h:=Zd ?_))))))
 exact eR t1 ⟨rfl,rfl,rfl⟩

theorem Zgv (q:Option Addr) (cp:Nat) (xs:List Int) (i j:Nat) (a b:Int) (hi:xs[i]? = some a) (hj:xs[j]? = some b) (B:Kn) (hx:SlK B q cp 1 Zb9 xs):ZaX (pj J) 306 [.slice q xs.length cp,.int .i64 i,.int .i64 j] B (.bool (decide (a<b))):=by
 refine cB 16 Tryz.func306 (h:=?_)
 have hil:=Zcc hi
 have hjl:=Zcc hj
 refine Za (xA (h:=Zh (ZV (same _ _) mo kr ⟨rfl,rfl⟩ (fun _ _=>?_))))
 refine aM 0 rfl (h:=aM 1 rfl (h:=?_))
 obtain ⟨z,hz⟩:=ZaA (xs:=xs) (i:=i) om
 obtain ⟨bb2,oo2,rfl⟩:=hx.base hz
 obtain ⟨_,rfl,hc3⟩:=hx.elem hz
 refine aIx 2 rfl Tryz.underlying57 sz3 (h:=aT 3 rfl (Zaj fun D=>Ze rfl rfl lk3 rfl (hc3 _ 0 _ rfl) r4) (h:=aM 4 rfl (h:=aM 5 rfl (h:=?_))))
 obtain ⟨w,hw⟩:=ZaA (xs:=xs) (i:=j) om
 obtain ⟨_,rfl,hc5⟩:=hx.elem hw
 refine aIx 6 rfl Tryz.underlying57 sz3 (h:=?_)
 rw [hi] at hz
 cases hz
 rw [hj] at hw
 cases hw
 refine aT 7 rfl (Zaj fun D=>Ze rfl rfl lk3 rfl (hc5 _ 0 _ rfl) r4) (h:=ZrM 8 rfl (h:=aA 9 rfl (h:=Zv kr kr ?_)))
 refine Zj (Zd ?_)
 exact eR t1 ⟨rfl,rfl,rfl⟩

theorem ZsX (b:Nat) (q:Option Addr) (cp:Nat) (xs:List Int) (l:Cells) (z:Int) (hn:xs.length≤2000000) (B:Kn) (hv:ZT B l q cp 3 1 Zb9 xs):Zu (pj J) 308 [ptr ⟨b,0,none⟩,.iface 3 (.int .i64 z)] B [Z8 b [.slice q xs.length cp] 296,l] (fun v B' Ls=>B'=B∧∃q' c' l',Ls=[Z8 b [.slice q' (xs ++ [z]).length c'] 296,l']∧ZT B l' q' c' 3 1 Zb9 (xs ++ [z])):=by
 refine cB 13 Tryz.func308 (h:=?_)
 refine ZV (keeps _ [0] _) mo kr ⟨Kn.le.refl _,Zae.refl _ _⟩ (fun _ _=>?_)
 refine aM 0 rfl (h:=aM 1 rfl (h:=aNc 2 rfl (h:=aT 3 rfl (Zx fun D B L hI=>Ze rfl rfl ZfA rfl (atL 0 (hI.2.1.trans rfl) rfl rfl) r4) (h:=aM 4 rfl (h:=aT 5 rfl (Zx fun D B L hI=>Zk7 rfl rfl Tryz.underlying3 rfl rfl r4) (h:=Zo 6 kr rfl kr (Zs (parts:=[(0,_)]) [_] rfl rfl Tryz.underlying57 sz3 zo3 rfl rfl rfl rfl rfl (fun b1=>?_))))))))
 refine ⟨⟨Kn.le.refl _,t1⟩,(Zo 7 kr rfl kr (Zbe (z:=z) (R:=Zb9) 1 rfl hv rfl rfl rfl ZxX ZxG rfl rfl (ZaO.box 2 rfl) rfl rfl (rfl) om (fun l2 p2 c2 hv2=>?_)))⟩
 refine ⟨⟨Kn.le.refl _,t1⟩,(aNc 8 rfl (h:=ZO 9 kr rfl kr kr kr (ZE [_] 0 [_] rfl rfl Zwa rfl rfl rfl rfl rfl rfl rfl rfl ?_)))⟩
 exact Zat .normal (.inr rfl) [] [0,1] rfl trivial ⟨rfl,_,_,_,rfl,hv2⟩

theorem ZuT (b:Nat) (q:Option Addr) (cp:Nat) (xs:List Int) (l:Cells) (z:Int) (hz:xs[xs.length - 1]? = some z) (hn:xs.length≤2000000) (B:Kn) (hv:ZT B l q cp 3 1 Zb9 xs):Zu (pj J) 307 [ptr ⟨b,0,none⟩] B [Z8 b [.slice q xs.length cp] 296,l] (fun v B' Ls=>B'=B∧v = .iface 3 (.int .i64 z)∧Ls=[Z8 b [.slice q (xs.length - 1) cp] 296,l]∧ZT B l q cp 3 1 Zb9 (xs.take (xs.length - 1))):=by
 refine cB 25 Tryz.func307 (h:=?_)
 have hl1:=Zcc hz
 have hcp:=hv.cap
 have hv9:=hv.take (k:=xs.length - 1) oz
 have hs0:=hv.slice0 (sz:=1)
 refine Za (xA (h:=Za (xM (h:=xNc (h:=x1 ZfA 0 (h:=xV Tryz.underlying296 (h:=Zm (Zjk (r:=((xs.length - 1:Nat):Int)) rfl rfl rfl rfl (by rw [show ((xs.length:Int) - 1)=((xs.length - 1:Nat):Int) from by omega];exact ZaY oz oz) ?_))))))))
 refine xA (h:=Za (xM (h:=xNc (h:=x1 ZfA 0 (h:=xM (h:=?_))))))
 obtain ⟨w,hw⟩:=ZaA (xs:=xs) (i:=(xs.length - 1)) om
 obtain ⟨bb2,_,hp2,rfl,hw2,hc2⟩:=hv.row hw
 refine xIp hp2 Tryz.underlying57 sz3 (h:=?_)
 rw [hz] at hw
 cases hw
 refine Zm (Ze rfl rfl lk3 rfl (hc2 _ 1 rfl 0 _ rfl) (xA (h:=Za (xM (h:=xM (h:=xNc (h:=x1 ZfA 0 (h:=xM (h:=Zm (Zfp rfl rfl Tryz.underlying57 sz3 rfl (a:=0) (b:=xs.length - 1) rfl ⟨_,_,rfl,rfl⟩ oz oz ?_))))))))))
 rw [hs0]
 refine xNc (h:=xS [_] 0 [_] Zwa (h:=tL2 (Za (xM (h:=Zm (ZeB rfl rfl Tryz.underlying3 rfl rfl (xA (h:=Zd ?_))))))))
 exact eN [0,1] rfl t1 ⟨rfl,rfl,rfl,hv9⟩

theorem Zgu (q:Option Addr) (cp:Nat) (xs:List Int) (l:Cells) (i j:Nat) (a b:Int) (hi:xs[i]? = some a) (hj:xs[j]? = some b) (hn:xs.length≤2000000) (B:Kn) (hv:ZT B l q cp 3 1 Zb9 xs):Zu (pj J) 309 [.slice q xs.length cp,.int .i64 i,.int .i64 j] B [l] (fun v B' Ls=>B'=B∧∃l',Ls=[l']∧ZT B l' q cp 3 1 Zb9 ((xs.set i b).set j a)):=by
 refine cB 20 Tryz.func309 (h:=?_)
 have hil:=Zcc hi
 have hjl:=Zcc hj
 refine ZV (keeps _ [0] _) mo kr ⟨Kn.le.refl _,Zae.refl _ _⟩ (fun _ _=>?_)
 refine aM 0 rfl (h:=aM 1 rfl (h:=aM 2 rfl (h:=aM 3 rfl (h:=aM 4 rfl (h:=aM 5 rfl (h:=?_))))))
 obtain ⟨y,hy⟩:=ZaA (xs:=xs) (i:=j) om
 obtain ⟨bb2,_,hp2,rfl,hw2,hc2⟩:=hv.row hy
 refine aT 6 rfl (Zx fun D B L hI=>Zgf hp2 rfl rfl Tryz.underlying57 sz3 rfl rfl om om r4) (h:=?_)
 refine aT 7 rfl (Zx fun D B L hI=>Ze rfl rfl lk3 rfl (hc2 _ 0 (hI.2.1.trans rfl) 0 _ rfl) r4) (h:=aM 8 rfl (h:=aM 9 rfl (h:=?_)))
 obtain ⟨x,hx⟩:=ZaA (xs:=xs) (i:=i) om
 obtain ⟨bb4,_,hp4,rfl,hw4,hc4⟩:=hv.row hx
 refine aT 10 rfl (Zx fun D B L hI=>Zgf hp4 rfl rfl Tryz.underlying57 sz3 rfl rfl om om r4) (h:=?_)
 refine aT 11 rfl (Zx fun D B L hI=>Ze rfl rfl lk3 rfl (hc4 _ 0 (hI.2.1.trans rfl) 0 _ rfl) r4) (h:=?_)
 obtain ⟨bb5,_,hp5,rfl,hw5,hc5⟩:=hv.row hx
 refine aT 12 rfl (Zx fun D B L hI=>Zgf hp5 rfl rfl Tryz.underlying57 sz3 rfl rfl om om r4) (h:=?_)
 refine Za4 13 kr rfl kr kr (ZeA (k:=i) (off:=0) (y) [_] 0 hv hp5 hx rfl rfl sz3 rfl rfl rfl rfl rfl rfl ((fun row h=>by cases h;rfl)) (fun l6 hv6=>?_))
 obtain ⟨w,hw⟩:=ZaA (xs:=(xs.set i (y))) (i:=j) om
 obtain ⟨bb8,_,hp8,rfl,hw8,hc8⟩:=hv6.row hw
 refine aT 14 rfl (Zx fun D B L hI=>Zgf hp8 rfl rfl Tryz.underlying57 sz3 rfl rfl om om r4) (h:=?_)
 refine ZO 15 kr rfl kr kr kr (ZeA (k:=j) (off:=0) (x) [_] 0 hv6 hp8 hw rfl rfl sz3 rfl rfl rfl rfl rfl rfl ((fun row h=>by cases h;rfl)) (fun l9 hv9=>?_))
 rw [hi] at hx
 cases hx
 rw [hj] at hy
 cases hy
 exact Zat .normal (.inr rfl) [] [0] rfl trivial ⟨rfl,_,rfl,hv9⟩

theorem Zs0 (b:Nat) (q:Option Addr) (cp:Nat) (xs:List Int) (l:Cells) (j:Nat) (hj:j<xs.length) (hn:xs.length≤2000000) (hh:Zgb xs j) (B:Kn) (hv:ZT B l q cp 3 1 Zb9 xs):Zu (pj J) 266 [.iface 295 (ptr ⟨b,0,none⟩),.int .i64 j] B [Z8 b [.slice q xs.length cp] 296,l] (fun v B' Ls=>B'=B∧∃ys l',Ls=[Z8 b [.slice q ys.length cp] 296,l']∧ZT B l' q cp 3 1 Zb9 ys∧ys.Perm xs∧ZdL ys):=by
 refine cB 23 Tryz.func266 (h:=?_)
 refine Zn (ZQ (α:=Nat × List Int × Cells) [0] (fun g=>[(1,.int .i64 g.1)]) [0,1] (fun g=>[Z8 b [.slice q g.2.1.length cp] 296,g.2.2]) (fun g Bx=>Bx=B∧g.1<g.2.1.length∧g.2.1.Perm xs∧Zgb g.2.1 g.1∧ZT B g.2.2 q cp 3 1 Zb9 g.2.1) (fun g=>g.1) (j,xs,l) t1 rfl (⟨rfl,hj,.refl _,hh,hv⟩) (fun g B1 hle1 hI=>?_))
 obtain ⟨rfl,hk,hp,hb,hv⟩:=hI
 have hpl:=hp.length_eq
 refine ZN [(0,_),(1,_)] [_,_] t2 rfl (Zn (Za (xM (h:=Zm (Zjk rfl rfl rfl rfl (ZaY oz oz) ?_)))))
 refine Zm (Zia (r:=(((g.1 - 1) / 2:Nat):Int)) rfl rfl rfl rfl oz (by rw [show Int.tdiv ((g.1:Int) - 1) 2=(((g.1 - 1) / 2:Nat):Int) from Zxy g.1];exact ZaY oz oz) ?_)
 refine xA (h:=Zh (Za (xM (h:=xM (h:=ZG (h:=xM (h:=Zq (d:=11) rfl (fun g1=>?_) (fun g1=>?_))))))))
 try simp only [sQ,ne_eq] at g1
 refine xP (h:=xP (h:=xP (h:=xP (h:=xP (h:=xT (h:=Zb (t:=true) rfl (fun _=>ZU (Zak (Zft rfl (Z3 (ZK ?_))))) (fun h=>Bool.noConfusion h)))))))
 exact Zat .normal (.inr rfl) [] [0,1] rfl trivial ⟨rfl,_,_,rfl,hv,hp,Zuh (by rw [show g.1=0 from by omega] at hb;exact hb)⟩
 try simp only [sQ,ne_eq] at g1
 refine xM (h:=xM (h:=xM (h:=Zm (ZfO 1 rfl rfl rfl Zrn rfl rfl (ZbD Zen Tryz.underlying295 ZfA (atL 0 rfl rfl rfl)) (ZaX.borrow fun hm2=>Zgv _ _ _ _ _ _ _ (Zbb oz) (Zbb oz) _ (hv.lend Zb9.mono hm2 om)) ?_))))
 refine xN (h:=xF (h:=Zb rfl (fun g2=>?_) (fun g2=>?_)))
 try simp only [sQ,ne_eq] at g2
 refine ZU (Zak (Zft rfl (Z3 (ZK ?_))))
 exact Zat .normal (.inr rfl) [] [0,1] rfl trivial ⟨rfl,_,_,rfl,hv,hp,Zuj hb (by simpa using g2)⟩
 try simp only [sQ,ne_eq] at g2
 refine wSk (Za (xM (h:=xM (h:=xM (h:=Zm (Zhf [1] rfl rfl rfl rfl Zrm rfl rfl (ZbD Zem Tryz.underlying295 ZfA (atL 0 rfl rfl rfl)) (Zgu _ _ _ _ _ _ _ _ (Zbb oz) (Zbb oz) oz _ hv) ?_))))))
 rintro _ B3 _ hle3 ⟨rfl,l3,rfl,hv3⟩
 refine tL2 (Zc (xM (h:=xA (h:=Zw ?_))))
 rw [← Zdx g.2.1 ((g.1 - 1) / 2) g.1]
 exact ZD ((g.1 - 1) / 2,(swp g.2.1 ((g.1 - 1) / 2) g.1),l3) [0,1] (so) ⟨rfl,by have:=Zdx g.2.1 ((g.1 - 1) / 2) g.1;simp only [];omega,(Zgi oz oz).trans hp,Zui oz oz hb (by simpa using g2),hv3⟩ t2 rfl

theorem Zpe (b:Nat) (q:Option Addr) (cp:Nat) (xs:List Int) (l:Cells) (z:Int) (hn:xs.length<2000000) (hh:ZdL xs) (B:Kn) (hv:ZT B l q cp 3 1 Zb9 xs):Zu (pj J) 221 [.iface 295 (ptr ⟨b,0,none⟩),.iface 3 (.int .i64 z)] B [Z8 b [.slice q xs.length cp] 296,l] (fun v B' Ls=>B'=B∧∃q' c' ys l',Ls=[Z8 b [.slice q' ys.length c'] 296,l']∧ZT B l' q' c' 3 1 Zb9 ys∧ys.Perm (xs ++ [z])∧ZdL ys):=by
 refine cB 12 Tryz.func221 (h:=?_)
 refine Za (xM (h:=xM (h:=Zm (Zhf [0,1] rfl rfl rfl rfl Zx8 rfl rfl (ZlY Zo0 Tryz.underlying295) (ZsX _ _ _ _ _ _ oz _ hv) ?_))))
 rintro _ B1 _ hle1 ⟨rfl,q1,c1,l1,rfl,hv1⟩
 refine tL2 (Zc (xM (h:=xM (h:=Zm (ZfO 1 rfl rfl rfl ZwB rfl rfl (ZbD ZlC Tryz.underlying295 ZfA (atL 0 rfl rfl rfl)) (ZaX.borrow fun hm2=>ZqU _ _ _ _) (Zm (Zjk (r:=((xs.length:Nat):Int)) rfl rfl rfl rfl ((congrArg _ (show _=((xs.length:Nat):Int) from by rw [List.length_append,List.length_singleton];omega)).trans (ZaY oz oz)) ?_)))))))
 refine xK [0,1] rfl Zyg rfl (Zs0 _ _ _ _ _ _ (by simp) (by simp;omega) (Zsr hh) _ hv1) (h:=?_)
 rintro _ Bu _ hleu ⟨rfl,ysu,lu,rfl,hvu,hpu,hhu⟩
 exact Zat .normal (.inr rfl) [] [0,1] rfl trivial ⟨rfl,_,_,_,_,rfl,hvu,hpu,hhu⟩

theorem Zpg (b:Nat) (q:Option Addr) (cp:Nat) (xs:List Int) (l:Cells) (m:Nat) (hm:m≤xs.length) (hm0:0<xs.length) (hn:xs.length≤2000000) (hh:Zfn xs m 0) (B:Kn) (hv:ZT B l q cp 3 1 Zb9 xs):Zu (pj J) 267 [.iface 295 (ptr ⟨b,0,none⟩),.int .i64 0,.int .i64 m] B [Z8 b [.slice q xs.length cp] 296,l] (fun v B' Ls=>B'=B∧∃ys l',Ls=[Z8 b [.slice q ys.length cp] 296,l']∧ZT B l' q cp 3 1 Zb9 ys∧ys.Perm xs∧ZtE ys m∧(∀k,m≤k→hat ys k=hat xs k)):=by
 refine cB 48 Tryz.func267 (h:=?_)
 refine Za (xA (h:=Za (xM (h:=xA (h:=Zh (Zn (ZQ (α:=Nat × List Int × Cells) [0,1,2,6] (fun g=>[(7,.int .i64 g.1)]) [0,1] (fun g=>[Z8 b [.slice q g.2.1.length cp] 296,g.2.2]) (fun g Bx=>Bx=B∧g.1<g.2.1.length∧g.2.1.Perm xs∧Zfn g.2.1 m g.1∧(∀k,m≤k→hat g.2.1 k=hat xs k)∧ZT B g.2.2 q cp 3 1 Zb9 g.2.1) (fun g=>xs.length - g.1) (0,xs,l) t1 rfl (⟨rfl,hm0,.refl _,hh,fun _ _=>rfl,hv⟩) (fun g B1 hle1 hI=>?_))))))))
 obtain ⟨rfl,hk,hp,hb,hs,hv⟩:=hI
 have hpl:=hp.length_eq
 refine ZN [(0,_),(1,_),(2,_),(6,_),(7,_)] [_,_] t5 rfl (Zn (Za (xM (h:=Zm (Zk4 (r:=((2*g.1:Nat):Int)) rfl rfl rfl rfl ((congrArg _ (show _=((2*g.1:Nat):Int) from by omega)).trans (ZaY oz oz)) ?_)))))
 refine Zm (ZeY (r:=((2*g.1+1:Nat):Int)) rfl rfl rfl rfl ((congrArg _ (show _=((2*g.1+1:Nat):Int) from by omega)).trans (ZaY oz oz)) ?_)
 refine xA (h:=Zh (Za (xM (h:=xM (h:=ZdN (h:=xM (h:=Zq (d:=18) rfl (fun g1=>?_) (fun g1=>?_))))))))
 try simp only [sQ,ne_eq] at g1
 refine xP (h:=xP (h:=xT (h:=Zb (t:=true) rfl (fun _=>ZU (Zak (Zft rfl (Z3 (ZK (Zj (Za (xM (h:=xM (h:=ZbG (h:=xA (h:=Zd ?_)))))))))))) (fun h=>Bool.noConfusion h))))
 exact eN [0,1] rfl t1 ⟨rfl,_,_,rfl,hv,hp,Zru hb oz,hs⟩
 try simp only [sQ,ne_eq] at g1
 refine xM (h:=Zag (h:=xF (h:=Zb rfl (fun g2=>by have:=of_decide_eq_true g2;omega) (fun g2=>?_))))
 try simp only [sQ,ne_eq] at g2
 refine wSk (Za (xM (h:=xA (h:=Zh (Za (xM (h:=Zm (ZeY (r:=((2*g.1+1+1:Nat):Int)) rfl rfl rfl rfl ((congrArg _ (show _=((2*g.1+1+1:Nat):Int) from by omega)).trans (ZaY oz oz)) ?_))))))))
 refine xA (h:=Za (xM (h:=xM (h:=Zag (h:=xM (h:=Zq (d:=28) rfl (fun g3=>?_) (fun g3=>?_)))))))
 try simp only [sQ,ne_eq] at g3
 refine xM (h:=xM (h:=xM (h:=Zm (ZfO 1 rfl rfl rfl Zrn rfl rfl (ZbD Zen Tryz.underlying295 ZfA (atL 0 rfl rfl rfl)) (ZaX.borrow fun hm2=>Zgv _ _ _ _ _ _ _ (Zbb oz) (Zbb oz) _ (hv.lend Zb9.mono hm2 om)) ?_))))
 refine xT (h:=Zb rfl (fun g4=>?_) (fun g4=>?_))
 try simp only [sQ,ne_eq] at g4
 refine Zc (xM (h:=xA (h:=Zj (Zh (Za (xM (h:=xM (h:=xM (h:=Zm (ZfO 1 rfl rfl rfl Zrn rfl rfl (ZbD Zen Tryz.underlying295 ZfA (atL 0 rfl rfl rfl)) (ZaX.borrow fun hm3=>Zgv _ _ _ _ _ _ _ (Zbb oz) (Zbb oz) _ (hv.lend Zb9.mono hm3 om)) ?_))))))))))
 refine xN (h:=Zb rfl (fun g5=>?_) (fun g5=>?_))
 try simp only [sQ,ne_eq] at g5
 refine ZU (Zak (Zft rfl (Z3 (ZK (Zj (Za (xM (h:=xM (h:=ZbG (h:=xA (h:=Zd ?_)))))))))))
 exact eN [0,1] rfl t1 ⟨rfl,_,_,rfl,hv,hp,Zi5 hb (by intro k h0 hk he;(try simp only [decide_eq_true_eq,decide_eq_false_iff_not,Bool.not_eq_true',Bool.not_eq_false',Int.not_lt] at *);rcases (show k=2*g.1+1∨k=2*g.1+1+1 from by omega) with rfl | rfl <;> omega),hs⟩
 try simp only [sQ,ne_eq] at g5
 refine wSk (Za (xM (h:=xM (h:=xM (h:=Zm (Zhf [1] rfl rfl rfl rfl Zrm rfl rfl (ZbD Zem Tryz.underlying295 ZfA (atL 0 rfl rfl rfl)) (Zgu _ _ _ _ _ _ _ _ (Zbb oz) (Zbb oz) oz _ hv) ?_))))))
 rintro _ B4 _ hle4 ⟨rfl,l4,rfl,hv4⟩
 refine tL2 (Zc (xM (h:=xA (h:=Zw ?_))))
 rw [← Zdx g.2.1 g.1 (2*g.1+1+1)]
 have h5:hat g.2.1 (2*g.1+1+1)<hat g.2.1 g.1:=by simpa using g5
 exact ZD (2*g.1+1+1,(swp g.2.1 g.1 (2*g.1+1+1)),l4) [0,1] (so) ⟨rfl,by have:=Zdx g.2.1 g.1 (2*g.1+1+1);simp only [];omega,(Zgi oz oz).trans hp,Zi4 oz oz oz oz hb (by intro k h0 hk he;(try simp only [decide_eq_true_eq,decide_eq_false_iff_not,Bool.not_eq_true',Bool.not_eq_false',Int.not_lt] at *);rcases (show k=2*g.1+1∨k=2*g.1+1+1 from by omega) with rfl | rfl <;> omega) h5,(fun k hk=>by rw [Zfd oz oz,if_neg oz,if_neg oz];exact hs k hk),hv4⟩ t5 rfl
 try simp only [sQ,ne_eq] at g4
 refine wSk (Zh (Za (xM (h:=xM (h:=xM (h:=Zm (ZfO 1 rfl rfl rfl Zrn rfl rfl (ZbD Zen Tryz.underlying295 ZfA (atL 0 rfl rfl rfl)) (ZaX.borrow fun hm5=>Zgv _ _ _ _ _ _ _ (Zbb oz) (Zbb oz) _ (hv.lend Zb9.mono hm5 om)) ?_)))))))
 refine xN (h:=Zb rfl (fun g5=>?_) (fun g5=>?_))
 try simp only [sQ,ne_eq] at g5
 refine ZU (Zak (Zft rfl (Z3 (ZK (Zj (Za (xM (h:=xM (h:=ZbG (h:=xA (h:=Zd ?_)))))))))))
 exact eN [0,1] rfl t1 ⟨rfl,_,_,rfl,hv,hp,Zi5 hb (by intro k h0 hk he;(try simp only [decide_eq_true_eq,decide_eq_false_iff_not,Bool.not_eq_true',Bool.not_eq_false',Int.not_lt] at *);rcases (show k=2*g.1+1∨k=2*g.1+1+1 from by omega) with rfl | rfl <;> omega),hs⟩
 try simp only [sQ,ne_eq] at g5
 refine wSk (Za (xM (h:=xM (h:=xM (h:=Zm (Zhf [1] rfl rfl rfl rfl Zrm rfl rfl (ZbD Zem Tryz.underlying295 ZfA (atL 0 rfl rfl rfl)) (Zgu _ _ _ _ _ _ _ _ (Zbb oz) (Zbb oz) oz _ hv) ?_))))))
 rintro _ B6 _ hle6 ⟨rfl,l6,rfl,hv6⟩
 refine tL2 (Zc (xM (h:=xA (h:=Zw ?_))))
 rw [← Zdx g.2.1 g.1 (2*g.1+1)]
 have h5:hat g.2.1 (2*g.1+1)<hat g.2.1 g.1:=by simpa using g5
 exact ZD (2*g.1+1,(swp g.2.1 g.1 (2*g.1+1)),l6) [0,1] (so) ⟨rfl,by have:=Zdx g.2.1 g.1 (2*g.1+1);simp only [];omega,(Zgi oz oz).trans hp,Zi4 oz oz oz oz hb (by intro k h0 hk he;(try simp only [decide_eq_true_eq,decide_eq_false_iff_not,Bool.not_eq_true',Bool.not_eq_false',Int.not_lt] at *);rcases (show k=2*g.1+1∨k=2*g.1+1+1 from by omega) with rfl | rfl <;> omega) h5,(fun k hk=>by rw [Zfd oz oz,if_neg oz,if_neg oz];exact hs k hk),hv6⟩ t5 rfl
 try simp only [sQ,ne_eq] at g3
 refine xP (h:=xP (h:=xP (h:=xP (h:=xF (h:=Zb (t:=false) rfl (fun h=>Bool.noConfusion h) (fun _=>wSk (Zh (Za (xM (h:=xM (h:=xM (h:=Zm (ZfO 1 rfl rfl rfl Zrn rfl rfl (ZbD Zen Tryz.underlying295 ZfA (atL 0 rfl rfl rfl)) (ZaX.borrow fun hm7=>Zgv _ _ _ _ _ _ _ (Zbb oz) (Zbb oz) _ (hv.lend Zb9.mono hm7 om)) ?_)))))))))))))
 refine xN (h:=Zb rfl (fun g5=>?_) (fun g5=>?_))
 try simp only [sQ,ne_eq] at g5
 refine ZU (Zak (Zft rfl (Z3 (ZK (Zj (Za (xM (h:=xM (h:=ZbG (h:=xA (h:=Zd ?_)))))))))))
 exact eN [0,1] rfl t1 ⟨rfl,_,_,rfl,hv,hp,Zi5 hb (by intro k h0 hk he;(try simp only [decide_eq_true_eq,decide_eq_false_iff_not,Bool.not_eq_true',Bool.not_eq_false',Int.not_lt] at *);rcases (show k=2*g.1+1∨k=2*g.1+1+1 from by omega) with rfl | rfl <;> omega),hs⟩
 try simp only [sQ,ne_eq] at g5
 refine wSk (Za (xM (h:=xM (h:=xM (h:=Zm (Zhf [1] rfl rfl rfl rfl Zrm rfl rfl (ZbD Zem Tryz.underlying295 ZfA (atL 0 rfl rfl rfl)) (Zgu _ _ _ _ _ _ _ _ (Zbb oz) (Zbb oz) oz _ hv) ?_))))))
 rintro _ B8 _ hle8 ⟨rfl,l8,rfl,hv8⟩
 refine tL2 (Zc (xM (h:=xA (h:=Zw ?_))))
 rw [← Zdx g.2.1 g.1 (2*g.1+1)]
 have h5:hat g.2.1 (2*g.1+1)<hat g.2.1 g.1:=by simpa using g5
 exact ZD (2*g.1+1,(swp g.2.1 g.1 (2*g.1+1)),l8) [0,1] (so) ⟨rfl,by have:=Zdx g.2.1 g.1 (2*g.1+1);simp only [];omega,(Zgi oz oz).trans hp,Zi4 oz oz oz oz hb (by intro k h0 hk he;(try simp only [decide_eq_true_eq,decide_eq_false_iff_not,Bool.not_eq_true',Bool.not_eq_false',Int.not_lt] at *);rcases (show k=2*g.1+1∨k=2*g.1+1+1 from by omega) with rfl | rfl <;> omega) h5,(fun k hk=>by rw [Zfd oz oz,if_neg oz,if_neg oz];exact hs k hk),hv8⟩ t5 rfl

theorem ZqV (b:Nat) (q:Option Addr) (cp:Nat) (xs:List Int) (l:Cells) (hm0:0<xs.length) (hn:xs.length≤2000000) (hh:ZdL xs) (B:Kn) (hv:ZT B l q cp 3 1 Zb9 xs):Zu (pj J) 222 [.iface 295 (ptr ⟨b,0,none⟩)] B [Z8 b [.slice q xs.length cp] 296,l] (fun v B' Ls=>B'=B∧v = .iface 3 (.int .i64 (hat xs 0))∧∃ys l',Ls=[Z8 b [.slice q ys.length cp] 296,l']∧ZT B l' q cp 3 1 Zb9 ys∧(hat xs 0 :: ys).Perm xs∧ZdL ys):=by
 refine cB 15 Tryz.func222 (h:=?_)
 refine Za (xA (h:=Za (xM (h:=Zm (ZfO 1 rfl rfl rfl ZwB rfl rfl (ZbD ZlC Tryz.underlying295 ZfA (atL 0 rfl rfl rfl)) (ZaX.borrow fun hm1=>ZqU _ _ _ _) (Zm (Zjk (r:=((xs.length - 1:Nat):Int)) rfl rfl rfl rfl ((congrArg _ (show _=((xs.length - 1:Nat):Int) from by omega)).trans (ZaY oz oz)) ?_)))))))
 refine xA (h:=Za (xM (h:=xM (h:=Zm (Zhf [1] rfl rfl rfl rfl Zrm rfl rfl (ZbD Zem Tryz.underlying295 ZfA (atL 0 rfl rfl rfl)) (Zgu _ _ _ _ _ _ _ _ (Zbb oz) (Zbb oz) oz _ hv) ?_)))))
 rintro _ Bs _ hles ⟨rfl,ls,rfl,hvs⟩
 refine tL2 ?_
 obtain ⟨zs,hzs,hzl⟩ :∃zs,zs=swp xs 0 (xs.length - 1)∧zs.length=xs.length:=⟨_,rfl,Zdx _ _ _⟩
 have hzz:=hvs
 change ZT _ _ _ _ _ _ _ (swp xs 0 (xs.length - 1)) at hzz
 rw [← hzs] at hzz
 have hdb:Zfn zs (zs.length - 1) 0:=by rw [hzl,hzs];exact Zut hh hm0
 have hlz:hat zs (zs.length - 1)=hat xs 0:=by rw [hzl,hzs];exact Zsi hm0
 have hpz:zs.Perm xs:=hzs ▸ Zgi hm0 oz
 rw [← hzl]
 refine Za (xM (h:=xM (h:=xK [0,1] rfl Zyf rfl (Zpg _ _ _ _ _ _ oz oz oz hdb _ hzz) (h:=?_))))
 rintro _ Bd _ hled ⟨rfl,ysd,ld,rfl,hvd,hpd,hhd,hsd⟩
 refine tL2 ?_
 have hdl:=hpd.length_eq
 refine Za (xM (h:=Zm (Zhf [0,1] rfl rfl rfl rfl Zx9 rfl rfl (ZlY ZqA Tryz.underlying295) (ZuT _ _ _ _ _ _ (Zbb oz) oz _ hvd) ?_)))
 rintro _ Bo _ hleo ⟨rfl,rfl,rfl,hvo⟩
 refine xA (h:=tL2 (Zd ?_))
 have hz9:hat ysd (ysd.length - 1)=hat xs 0:=by rw [hsd _ oz,hdl];exact hlz
 exact Zat .ret (.inl rfl) [_] [0,1] rfl ⟨rfl,trivial⟩ ⟨rfl,by rw [hz9];rfl,_,_,by rw [show (ysd.take (ysd.length - 1)).length=ysd.length - 1 from by simp],hvo,Zsu (by omega) (hpd.trans hpz) hz9,Zpf (by rw [hdl];exact hhd) (by omega)⟩

end Go.Proofs.YtbebcagblefhcaaGreatDoor
