/-
  WHAT THE FUNCTIONS THAT THE LAWS REACH COMPUTE: each function's contract, proved off its printed body (the text is written by program). No condition beyond those that each theorem states.
-/
import Derived.Test.YtkppijmhadbpdaaGreatDoorRows
import Derived.Test.YtkppijmhadbpdaaGreatDoorL0
import Derived.KernelRfl
namespace Go.Proofs.YtkppijmhadbpdaaGreatDoor
open Go Go.BL
set_option linter.unusedVariables false
set_option linter.unusedSimpArgs false
noncomputable abbrev pj (J : JoinT) : PJ := ⟨Tryz.prog, J⟩
noncomputable abbrev wgL : Go.Conc.Lib.WgLink := { add := 145, done := 147, wait := 151, relMerge := 203, disable := 204, enable := 205, inBubble := 206, associate := 207, fatal := 208, uOr := 209, uAdd := 210, raceRead := 211, uLoad := 212, uStore := 213, disassociate := 214, semrelease := 215, acquire := 217, isAssociated := 218, uCas := 219, raceWrite := 220, semacquire := 221, orU64 := 258, addU64 := 259, loadU64 := 260, storeU64 := 261, casU64 := 263, tWg := 231, tUP := 284, tAssoc := 285, tAU := 229, tU64 := 227, tUint := 289, tU32 := 154, tNoCopy := 153, tANoCopy := 225, tAlign64 := 226, tWgP := 282, tPU32 := 290, tPAU := 344, tPU64 := 346 }
theorem ZkZ : Go.Conc.Lib.WgLib Tryz.prog wgL :=
  ⟨Tryz.func145, Tryz.func147, Tryz.func151, Tryz.func203, Tryz.func204, Tryz.func205, Tryz.func206, Tryz.func207, Tryz.func208, Tryz.func209, Tryz.func210, Tryz.func211, Tryz.func212, Tryz.func213, Tryz.func214, Tryz.func215, Tryz.func217, Tryz.func218, Tryz.func219, Tryz.func220, Tryz.func221, Tryz.func258, Tryz.func259, Tryz.func260, Tryz.func261, Tryz.func263, Tryz.underlying282, Tryz.runUnderlying282, Tryz.sizeOf282, Tryz.isAgg282, Tryz.zeroValue282, Tryz.underlying284, Tryz.runUnderlying284, Tryz.sizeOf284, Tryz.isAgg284, Tryz.zeroValue284, Tryz.underlying285, Tryz.runUnderlying285, Tryz.sizeOf285, Tryz.isAgg285, Tryz.zeroValue285, Tryz.underlying231, Tryz.runUnderlying231, Tryz.sizeOf231, Tryz.isAgg231, Tryz.zeroValue231, Tryz.underlying229, Tryz.runUnderlying229, Tryz.sizeOf229, Tryz.isAgg229, Tryz.zeroValue229, Tryz.underlying227, Tryz.runUnderlying227, Tryz.sizeOf227, Tryz.isAgg227, Tryz.zeroValue227, Tryz.underlying289, Tryz.runUnderlying289, Tryz.sizeOf289, Tryz.isAgg289, Tryz.zeroValue289, Tryz.underlying154, Tryz.runUnderlying154, Tryz.sizeOf154, Tryz.isAgg154, Tryz.zeroValue154, Tryz.underlying290, Tryz.runUnderlying290, Tryz.sizeOf290, Tryz.isAgg290, Tryz.zeroValue290, Tryz.underlying344, Tryz.runUnderlying344, Tryz.sizeOf344, Tryz.isAgg344, Tryz.zeroValue344, Tryz.underlying346, Tryz.runUnderlying346, Tryz.sizeOf346, Tryz.isAgg346, Tryz.zeroValue346, Tryz.underlying0, Tryz.runUnderlying0, Tryz.sizeOf0, Tryz.isAgg0, Tryz.zeroValue0, Tryz.underlying3, Tryz.runUnderlying3, Tryz.sizeOf3, Tryz.isAgg3, Tryz.zeroValue3, Tryz.underlying4, Tryz.runUnderlying4, Tryz.sizeOf4, Tryz.isAgg4, Tryz.zeroValue4, Tryz.underlying9, Tryz.runUnderlying9, Tryz.sizeOf9, Tryz.isAgg9, Tryz.zeroValue9, Tryz.underlying20, Tryz.runUnderlying20, Tryz.sizeOf20, Tryz.isAgg20, Tryz.zeroValue20, Tryz.underlying21, Tryz.runUnderlying21, Tryz.sizeOf21, Tryz.isAgg21, Tryz.zeroValue21, (by kernel_rfl), (by kernel_rfl)⟩
abbrev muL : Go.Conc.Locks.MuLink := { lock := 167, unlock := 168, ilock := 228, iunlock := 229, lockSlow := 268, unlockSlow := 270, disable := 204, enable := 205, acquire := 217, relMerge := 203, cas32 := 267, add32 := 269, tMutex := 158, tIMutex := 156, tPMutex := 316, tPIMutex := 356, tPI32 := 358, tUP := 284, tNoCopy := 153, tU32 := 154 }
theorem ZrQ : Go.Conc.Locks.MuLib Tryz.prog muL :=
  ⟨Tryz.func167, Tryz.func168, Tryz.func228, Tryz.func229, Tryz.func204, Tryz.func205, Tryz.func217, Tryz.func203, Tryz.func267, Tryz.func269, Tryz.underlying156, Tryz.runUnderlying156, Tryz.sizeOf156, Tryz.isAgg156, Tryz.zeroValue156, Tryz.underlying158, Tryz.runUnderlying158, Tryz.sizeOf158, Tryz.isAgg158, Tryz.zeroValue158, Tryz.underlying316, Tryz.runUnderlying316, Tryz.sizeOf316, Tryz.isAgg316, Tryz.zeroValue316, Tryz.underlying356, Tryz.runUnderlying356, Tryz.sizeOf356, Tryz.isAgg356, Tryz.zeroValue356, Tryz.underlying358, Tryz.runUnderlying358, Tryz.sizeOf358, Tryz.isAgg358, Tryz.zeroValue358, Tryz.underlying284, Tryz.runUnderlying284, Tryz.sizeOf284, Tryz.isAgg284, Tryz.zeroValue284, Tryz.underlying153, Tryz.runUnderlying153, Tryz.sizeOf153, Tryz.isAgg153, Tryz.zeroValue153, Tryz.underlying21, Tryz.runUnderlying21, Tryz.sizeOf21, Tryz.isAgg21, Tryz.zeroValue21, (by kernel_rfl)⟩
theorem Zjk : enters Tryz.prog 106 = true := by kernel_rfl
theorem mo : Tryz.prog.follows .mixedOrders = true := by kernel_rfl
theorem ZbS : Zr Tryz.prog 216 1 = some 1 := by kernel_rfl
theorem lk3 : lk Tryz.prog 3 = some none := by kernel_rfl
theorem Zgp : Zr Tryz.prog 216 0 = some 0 := by kernel_rfl
theorem lk9 : lk Tryz.prog 9 = some none := by kernel_rfl
theorem Zsq : enters Tryz.prog 140 = true := by kernel_rfl
theorem sz3 : ZR Tryz.prog 3 = some 1 := by kernel_rfl
theorem ZxP : enters Tryz.prog 253 = true := by kernel_rfl
theorem ZuI : enters Tryz.prog 197 = true := by kernel_rfl
theorem Zyd : enters Tryz.prog 198 = true := by kernel_rfl
theorem ZvE : Za5 Tryz.prog 216 = some [(0, 1), (1, 1)] := by kernel_rfl
theorem ZqW : Zae Tryz.prog 216 = some (.agg #[.string ⟨#[]⟩, .int .i64 0]) := by kernel_rfl
theorem Zvz : ZR Tryz.prog 216 = some 2 := by kernel_rfl
theorem sz5 : ZR Tryz.prog 5 = some 1 := by kernel_rfl
theorem sz9 : ZR Tryz.prog 9 = some 1 := by kernel_rfl
theorem zo9 : Zae Tryz.prog 9 = some (.string ⟨#[]⟩) := by kernel_rfl
theorem Zqk : ZcE Tryz.prog 143 9 1 16 = true := by kernel_rfl
theorem Zrt : (match Program.underlying Tryz.prog 143 with | some (.slice _) => true | _ => false) = true := by kernel_rfl
theorem ZyD : enters Tryz.prog 158 = true := by kernel_rfl
theorem Zl4 : enters Tryz.prog 159 = true := by kernel_rfl
theorem Zbh : ZR Tryz.prog 141 = some 3 := by kernel_rfl
theorem Za7 : Zr Tryz.prog 141 0 = some 0 := by kernel_rfl
theorem ZxK : enters Tryz.prog 264 = true := by kernel_rfl
theorem ZpV : Zr Tryz.prog 222 0 = some 0 := by kernel_rfl
theorem ZlY : Zr Tryz.prog 222 1 = some 1 := by kernel_rfl
theorem Zft : lk Tryz.prog 143 = some none := by kernel_rfl
theorem Zx7 : enters Tryz.prog 223 = true := by kernel_rfl
theorem ZpU : Zr Tryz.prog 222 2 = some 2 := by kernel_rfl
theorem ZxD : enters Tryz.prog 276 = true := by kernel_rfl
theorem ZkC : enters Tryz.prog 149 = true := by kernel_rfl
theorem ZxO : enters Tryz.prog 254 = true := by kernel_rfl
theorem Zyc : enters Tryz.prog 199 = true := by kernel_rfl
theorem ZbG : Zr Tryz.prog 27 1 = some 1 := by kernel_rfl
theorem Zin : lk Tryz.prog 25 = some none := by kernel_rfl
theorem Zbr : ZR Tryz.prog 145 = some 4 := by kernel_rfl
theorem Zeo : lk Tryz.prog 145 = some (some 4) := by kernel_rfl
theorem Ze0 : Zae Tryz.prog 145 = some (.agg #[.int .i64 0, .string ⟨#[]⟩, .string ⟨#[]⟩, .slice none 0 0]) := by kernel_rfl
theorem Zd7 : Zr Tryz.prog 145 0 = some 0 := by kernel_rfl
theorem Zd6 : Zr Tryz.prog 145 1 = some 1 := by kernel_rfl
theorem Zcs : Zr Tryz.prog 145 3 = some 3 := by kernel_rfl
theorem Zfy : Zr Tryz.prog 145 2 = some 2 := by kernel_rfl
theorem ZvD : Za5 Tryz.prog 222 = some [(0, 1), (1, 1), (2, 1)] := by kernel_rfl
theorem Zu2 : Zae Tryz.prog 222 = some (.agg #[.string ⟨#[]⟩, .slice none 0 0, .string ⟨#[]⟩]) := by kernel_rfl
theorem ZyC : enters Tryz.prog 160 = true := by kernel_rfl
theorem Zf1 : Zr Tryz.prog 27 0 = some 0 := by kernel_rfl
theorem ZqV : Zae Tryz.prog 27 = some (.agg #[.int .i64 0, .slice none 0 0]) := by kernel_rfl
theorem Zzk : Za5 Tryz.prog 27 = some [(0, 1), (1, 1)] := by kernel_rfl
theorem ZtE : ZR Tryz.prog 27 = some 2 := by kernel_rfl
theorem ZtG : ZR Tryz.prog 143 = some 1 := by kernel_rfl
theorem Zxw : ZcE Tryz.prog 25 145 4 64 = true := by kernel_rfl
theorem Zzi : (match Program.underlying Tryz.prog 25 with | some (.slice _) => true | _ => false) = true := by kernel_rfl
theorem Zw9 : ZR Tryz.prog 25 = some 1 := by kernel_rfl
theorem ZkX : lk Tryz.prog 27 = some (some 2) := by kernel_rfl
theorem ZzV : enters Tryz.prog 93 = true := by kernel_rfl
theorem Zea : enters Tryz.prog 117 = true := by kernel_rfl
theorem zo3 : Zae Tryz.prog 3 = some (.int .i64 0) := by kernel_rfl
theorem ZwI : Zae Tryz.prog 314 = some (.pointer none) := by kernel_rfl
theorem ZxJ : enters Tryz.prog 265 = true := by kernel_rfl
theorem ZxC : enters Tryz.prog 277 = true := by kernel_rfl
theorem Zt4 : lk Tryz.prog 314 = some none := by kernel_rfl
theorem ZxI : enters Tryz.prog 266 = true := by kernel_rfl
theorem Zxc : Za5 Tryz.prog 351 = some [(0, 4), (4, 1)] := by kernel_rfl
theorem ZwH : Zae Tryz.prog 351 = some (.agg #[.int .i64 0, .string ⟨#[]⟩, .string ⟨#[]⟩, .slice none 0 0, .pointer none]) := by kernel_rfl
theorem Zw8 : ZR Tryz.prog 314 = some 1 := by kernel_rfl
theorem Zup : Zr Tryz.prog 351 0 = some 0 := by kernel_rfl
theorem Zuo : Zr Tryz.prog 351 1 = some 4 := by kernel_rfl
theorem Zx4 : enters Tryz.prog 227 = true := by kernel_rfl
theorem Zx5 : enters Tryz.prog 226 = true := by kernel_rfl
theorem Ze2 : lk Tryz.prog 279 = some none := by kernel_rfl
theorem Zxv : ZcE Tryz.prog 279 3 1 8 = true := by kernel_rfl
theorem Zxb : (match Program.underlying Tryz.prog 279 with | some (.slice _) => true | _ => false) = true := by kernel_rfl
theorem Zvx : ZR Tryz.prog 279 = some 1 := by kernel_rfl
theorem ZdF : ZiR Tryz.prog 278 "Less" 306 false = true := by kernel_rfl
theorem Zqn : enters Tryz.prog 306 = true := by kernel_rfl
theorem ZdE : ZiR Tryz.prog 278 "Swap" 309 false = true := by kernel_rfl
theorem Zqm : enters Tryz.prog 309 = true := by kernel_rfl
theorem Zny : ZiR Tryz.prog 278 "Push" 308 true = true := by kernel_rfl
theorem ZxA : enters Tryz.prog 308 = true := by kernel_rfl
theorem Zj7 : ZiR Tryz.prog 278 "Len" 305 false = true := by kernel_rfl
theorem Zwe : enters Tryz.prog 305 = true := by kernel_rfl
theorem ZxN : enters Tryz.prog 255 = true := by kernel_rfl
theorem ZxM : enters Tryz.prog 256 = true := by kernel_rfl
theorem Zpg : ZiR Tryz.prog 278 "Pop" 307 true = true := by kernel_rfl
theorem ZxB : enters Tryz.prog 307 = true := by kernel_rfl
theorem Zyb : enters Tryz.prog 200 = true := by kernel_rfl
theorem Zya : enters Tryz.prog 201 = true := by kernel_rfl
theorem ZyN : enters Tryz.prog 142 = true := by kernel_rfl
theorem ZyM : enters Tryz.prog 143 = true := by kernel_rfl
theorem Zeg : Zr Tryz.prog 99 0 = some 0 := by kernel_rfl
theorem Zf0 : Zr Tryz.prog 99 1 = some 1 := by kernel_rfl
theorem ZxT : enters Tryz.prog 239 = true := by kernel_rfl
theorem ZfZ : Zr Tryz.prog 99 2 = some 2 := by kernel_rfl
theorem ZuJ : enters Tryz.prog 184 = true := by kernel_rfl
theorem Za9 : Zr Tryz.prog 93 1 = some 1 := by kernel_rfl
theorem Zh0 : lk Tryz.prog 91 = some none := by kernel_rfl
theorem Zf7 : ZR Tryz.prog 99 = some 3 := by kernel_rfl
theorem ZmI : lk Tryz.prog 99 = some (some 3) := by kernel_rfl
theorem Zyj : enters Tryz.prog 181 = true := by kernel_rfl
theorem ZeA : Zr Tryz.prog 93 0 = some 0 := by kernel_rfl
theorem Zn9 : Zae Tryz.prog 99 = some (.agg #[.int .i64 0, .int .i64 0, .string ⟨#[]⟩]) := by kernel_rfl
theorem Zyi : enters Tryz.prog 182 = true := by kernel_rfl
theorem ZgV : lk Tryz.prog 93 = some (some 2) := by kernel_rfl
theorem ZuL : enters Tryz.prog 120 = true := by kernel_rfl
theorem Zfz : Zr Tryz.prog 141 1 = some 1 := by kernel_rfl
theorem Zdu : Zr Tryz.prog 141 2 = some 2 := by kernel_rfl
theorem Ze3 : lk Tryz.prog 141 = some (some 3) := by kernel_rfl
theorem ZdS : Zae Tryz.prog 141 = some (.agg #[.string ⟨#[]⟩, .string ⟨#[]⟩, .int .i64 0]) := by kernel_rfl
theorem ZyO : enters Tryz.prog 141 = true := by kernel_rfl
theorem Zzv : enters Tryz.prog 82 = true := by kernel_rfl
theorem Zxf : Za5 Tryz.prog 141 = some [(0, 1), (1, 1), (2, 1)] := by kernel_rfl
theorem ZxS : enters Tryz.prog 240 = true := by kernel_rfl
theorem ZxR : enters Tryz.prog 241 = true := by kernel_rfl
theorem ZbZ : Zr Tryz.prog 29 1 = some 1 := by kernel_rfl
theorem ZiW : lk Tryz.prog 23 = some none := by kernel_rfl
theorem Zwg : enters Tryz.prog 186 = true := by kernel_rfl
theorem Zay : Zr Tryz.prog 29 2 = some 2 := by kernel_rfl
theorem ZeO : lk Tryz.prog 24 = some none := by kernel_rfl
theorem Zb0 : ZR Tryz.prog 96 = some 5 := by kernel_rfl
theorem Zcc : Zr Tryz.prog 96 0 = some 0 := by kernel_rfl
theorem ZdJ : Zr Tryz.prog 96 1 = some 1 := by kernel_rfl
theorem ZhZ : lk Tryz.prog 96 = some (some 5) := by kernel_rfl
theorem ZyH : enters Tryz.prog 153 = true := by kernel_rfl
theorem ZyG : enters Tryz.prog 154 = true := by kernel_rfl
theorem Zeh : Zr Tryz.prog 29 3 = some 3 := by kernel_rfl
theorem Zsp : enters Tryz.prog 148 = true := by kernel_rfl
theorem Zds : ZR Tryz.prog 259 = some 2 := by kernel_rfl
theorem Zcd : Zr Tryz.prog 259 0 = some 0 := by kernel_rfl
theorem Zc8 : Zr Tryz.prog 259 1 = some 1 := by kernel_rfl
theorem ZwC : enters Tryz.prog 96 = true := by kernel_rfl
theorem Zcb : Zr Tryz.prog 96 3 = some 3 := by kernel_rfl
theorem Zyz : enters Tryz.prog 163 = true := by kernel_rfl
theorem Zf6 : Zae Tryz.prog 96 = some (.agg #[.string ⟨#[]⟩, .string ⟨#[]⟩, .slice none 0 0, .int .i64 0, .slice none 0 0]) := by kernel_rfl
theorem ZdI : Zr Tryz.prog 96 2 = some 2 := by kernel_rfl
theorem ZqU : lk Tryz.prog 94 = some none := by kernel_rfl
theorem ZyB : enters Tryz.prog 161 = true := by kernel_rfl
theorem Zwi : enters Tryz.prog 119 = true := by kernel_rfl
theorem ZyA : enters Tryz.prog 162 = true := by kernel_rfl
theorem ZhF : Zr Tryz.prog 29 0 = some 0 := by kernel_rfl
theorem ZzX : enters Tryz.prog 91 = true := by kernel_rfl
theorem ZzW : enters Tryz.prog 92 = true := by kernel_rfl
theorem Zc6 : lk Tryz.prog 29 = some (some 5) := by kernel_rfl
theorem ZzU : enters Tryz.prog 94 = true := by kernel_rfl
theorem Zzw : enters Tryz.prog 42 = true := by kernel_rfl
theorem ZzT : enters Tryz.prog 95 = true := by kernel_rfl
theorem ZzS : enters Tryz.prog 97 = true := by kernel_rfl
theorem Zpp : lk Tryz.prog 259 = some (some 2) := by kernel_rfl
theorem Zm5 : Zae Tryz.prog 259 = some (.agg #[.string ⟨#[]⟩, .int .i64 0]) := by kernel_rfl
theorem ZxL : enters Tryz.prog 262 = true := by kernel_rfl
theorem Zwf : enters Tryz.prog 216 = true := by kernel_rfl
theorem Zv7 : Extern.findNext Tryz.f257 = none := by kernel_rfl
theorem Zv8 : Extern.find Tryz.f257 = some Extern.BytealgCompare.compare := by kernel_rfl
theorem Zx9 : enters Tryz.prog 202 = true := by kernel_rfl
theorem Zwh : enters Tryz.prog 144 = true := by kernel_rfl
theorem ZxQ : enters Tryz.prog 242 = true := by kernel_rfl
theorem Zyf : enters Tryz.prog 187 = true := by kernel_rfl
theorem Zzu : enters Tryz.prog 88 = true := by kernel_rfl
theorem ZyQ : enters Tryz.prog 128 = true := by kernel_rfl
theorem sz4 : ZR Tryz.prog 4 = some 1 := by kernel_rfl
theorem lk4 : lk Tryz.prog 4 = some none := by kernel_rfl
theorem Zx8 : enters Tryz.prog 222 = true := by kernel_rfl
theorem ZyP : enters Tryz.prog 139 = true := by kernel_rfl
theorem ZvR : lk Tryz.prog 224 = some none := by kernel_rfl
theorem Zxk : lk Tryz.prog 90 = some none := by kernel_rfl
theorem ZyK : enters Tryz.prog 150 = true := by kernel_rfl
theorem ZwM : Zae Tryz.prog 231 = some (.agg #[.int .u64 0, .int .u32 0]) := by kernel_rfl
theorem Zxx : ZcE Tryz.prog 224 4 1 1 = true := by kernel_rfl
theorem zo4 : Zae Tryz.prog 4 = some (.bool false) := by kernel_rfl
theorem ZwN : Zae Tryz.prog 224 = some (.slice none 0 0) := by kernel_rfl
theorem Zxa : ZR Tryz.prog 224 = some 1 := by kernel_rfl
theorem ZyL : enters Tryz.prog 145 = true := by kernel_rfl
theorem ZyJ : enters Tryz.prog 151 = true := by kernel_rfl
theorem ZyI : enters Tryz.prog 152 = true := by kernel_rfl
theorem Zz3 : enters Tryz.prog 81 = true := by kernel_rfl
theorem Zz2 : enters Tryz.prog 83 = true := by kernel_rfl
theorem Zz1 : enters Tryz.prog 84 = true := by kernel_rfl
theorem Zz0 : enters Tryz.prog 85 = true := by kernel_rfl
theorem ZzZ : enters Tryz.prog 86 = true := by kernel_rfl
theorem ZzY : enters Tryz.prog 87 = true := by kernel_rfl
theorem Zp3 : Zr Tryz.prog 168 0 = some 0 := by kernel_rfl
theorem Zp2 : Zr Tryz.prog 168 1 = some 1 := by kernel_rfl
theorem ZpQ : Zr Tryz.prog 318 0 = some 0 := by kernel_rfl
theorem ZpN : Zr Tryz.prog 362 2 = some 2 := by kernel_rfl
theorem ZvB : ZR Tryz.prog 168 = some 3 := by kernel_rfl
theorem ZvW : lk Tryz.prog 168 = some (some 3) := by kernel_rfl
theorem Zy9 : enters Tryz.prog 103 = true := by kernel_rfl
theorem Zvw : ZR Tryz.prog 318 = some 2 := by kernel_rfl
theorem ZvP : lk Tryz.prog 318 = some (some 2) := by kernel_rfl
theorem Zx2 : enters Tryz.prog 230 = true := by kernel_rfl
theorem Zvv : ZR Tryz.prog 362 = some 3 := by kernel_rfl
theorem ZvO : lk Tryz.prog 362 = some (some 3) := by kernel_rfl
theorem ZxG : enters Tryz.prog 271 = true := by kernel_rfl
theorem ZpT : Zr Tryz.prog 250 1 = some 1 := by kernel_rfl
theorem ZpS : Zr Tryz.prog 250 2 = some 2 := by kernel_rfl
theorem ZpR : Zr Tryz.prog 250 3 = some 3 := by kernel_rfl
theorem Zx0 : enters Tryz.prog 232 = true := by kernel_rfl
theorem Zvy : ZR Tryz.prog 250 = some 4 := by kernel_rfl
theorem ZvQ : lk Tryz.prog 250 = some (some 4) := by kernel_rfl
theorem Zys : enters Tryz.prog 171 = true := by kernel_rfl
theorem Zp1 : Zr Tryz.prog 173 1 = some 1 := by kernel_rfl
theorem ZvU : lk Tryz.prog 171 = some none := by kernel_rfl
theorem Zx1 : enters Tryz.prog 231 = true := by kernel_rfl
theorem Ztf : Zr Tryz.prog 47 1 = some 1 := by kernel_rfl
theorem Zzm : lk Tryz.prog 45 = some none := by kernel_rfl
theorem Zy7 : enters Tryz.prog 105 = true := by kernel_rfl
theorem Zp0 : Zr Tryz.prog 175 0 = some 0 := by kernel_rfl
theorem ZpZ : Zr Tryz.prog 175 1 = some 1 := by kernel_rfl
theorem ZpY : Zr Tryz.prog 175 2 = some 2 := by kernel_rfl
theorem ZvV : lk Tryz.prog 170 = some none := by kernel_rfl
theorem Zyu : enters Tryz.prog 169 = true := by kernel_rfl
theorem ZpX : Zr Tryz.prog 175 3 = some 3 := by kernel_rfl
theorem ZvT : lk Tryz.prog 173 = some (some 2) := by kernel_rfl
theorem Zyt : enters Tryz.prog 170 = true := by kernel_rfl
theorem ZvA : ZR Tryz.prog 175 = some 5 := by kernel_rfl
theorem ZvS : lk Tryz.prog 175 = some (some 5) := by kernel_rfl
theorem Zy8 : enters Tryz.prog 104 = true := by kernel_rfl
theorem Zte : Zr Tryz.prog 49 0 = some 0 := by kernel_rfl
theorem Ztd : Zr Tryz.prog 49 1 = some 1 := by kernel_rfl
theorem Zzo : lk Tryz.prog 43 = some none := by kernel_rfl
theorem ZAn : enters Tryz.prog 47 = true := by kernel_rfl
theorem Ztc : Zr Tryz.prog 49 2 = some 2 := by kernel_rfl
theorem Zzn : lk Tryz.prog 44 = some none := by kernel_rfl
theorem ZAm : enters Tryz.prog 48 = true := by kernel_rfl
theorem Ztb : Zr Tryz.prog 49 3 = some 3 := by kernel_rfl
theorem Zzl : lk Tryz.prog 47 = some (some 2) := by kernel_rfl
theorem ZAl : enters Tryz.prog 49 = true := by kernel_rfl
theorem Zut : Zr Tryz.prog 168 2 = some 2 := by kernel_rfl
theorem Zuq : Zr Tryz.prog 318 1 = some 1 := by kernel_rfl
theorem Zun : Zr Tryz.prog 362 0 = some 0 := by kernel_rfl
theorem Zum : Zr Tryz.prog 362 1 = some 1 := by kernel_rfl
theorem ZnY : ZcE Tryz.prog 23 141 3 40 = true := by kernel_rfl
theorem Zy6 : enters Tryz.prog 108 = true := by kernel_rfl
theorem Zxu : ZcE Tryz.prog 94 259 2 24 = true := by kernel_rfl
theorem ZxZ : enters Tryz.prog 233 = true := by kernel_rfl
theorem ZuZ : ZcE Tryz.prog 91 99 3 32 = true := by kernel_rfl
theorem ZxF : enters Tryz.prog 272 = true := by kernel_rfl
theorem Zur : Zr Tryz.prog 250 0 = some 0 := by kernel_rfl
theorem ZxX : enters Tryz.prog 235 = true := by kernel_rfl
theorem Zyp : enters Tryz.prog 175 = true := by kernel_rfl
theorem Zv5 : Zr Tryz.prog 47 0 = some 0 := by kernel_rfl
theorem Zy4 : enters Tryz.prog 110 = true := by kernel_rfl
theorem Zm4 : Zae Tryz.prog 93 = some (.agg #[.int .i64 0, .slice none 0 0]) := by kernel_rfl
theorem Zus : Zr Tryz.prog 173 0 = some 0 := by kernel_rfl
theorem ZxY : enters Tryz.prog 234 = true := by kernel_rfl
theorem Zw7 : ZR Tryz.prog 91 = some 1 := by kernel_rfl
theorem Zmr : ZR Tryz.prog 93 = some 2 := by kernel_rfl
theorem Zyr : enters Tryz.prog 173 = true := by kernel_rfl
theorem Zw6 : ZR Tryz.prog 94 = some 1 := by kernel_rfl
theorem Zyq : enters Tryz.prog 174 = true := by kernel_rfl
theorem ZwB : ZcE Tryz.prog 24 96 5 88 = true := by kernel_rfl
theorem Zy5 : enters Tryz.prog 109 = true := by kernel_rfl
theorem Zce : Zae Tryz.prog 29 = some (.agg #[.string ⟨#[]⟩, .slice none 0 0, .slice none 0 0, .int .i64 0, .slice none 0 0]) := by kernel_rfl
theorem ZAj : enters Tryz.prog 53 = true := by kernel_rfl
theorem ZzJ : ZR Tryz.prog 23 = some 1 := by kernel_rfl
theorem ZAi : enters Tryz.prog 54 = true := by kernel_rfl
theorem Zzf : ZR Tryz.prog 24 = some 1 := by kernel_rfl
theorem ZAh : enters Tryz.prog 55 = true := by kernel_rfl
theorem Zdh : ZR Tryz.prog 29 = some 5 := by kernel_rfl
theorem Zy3 : enters Tryz.prog 111 = true := by kernel_rfl
theorem ZxW : enters Tryz.prog 236 = true := by kernel_rfl
theorem ZxE : enters Tryz.prog 273 = true := by kernel_rfl
theorem ZxU : enters Tryz.prog 238 = true := by kernel_rfl
theorem Zym : enters Tryz.prog 178 = true := by kernel_rfl
theorem Zy1 : enters Tryz.prog 113 = true := by kernel_rfl
theorem ZxV : enters Tryz.prog 237 = true := by kernel_rfl
theorem Zyo : enters Tryz.prog 176 = true := by kernel_rfl
theorem Zyn : enters Tryz.prog 177 = true := by kernel_rfl
theorem Zy2 : enters Tryz.prog 112 = true := by kernel_rfl
theorem ZAg : enters Tryz.prog 58 = true := by kernel_rfl
theorem ZAf : enters Tryz.prog 59 = true := by kernel_rfl
theorem ZAe : enters Tryz.prog 60 = true := by kernel_rfl
theorem Zoa : (match Program.underlying Tryz.prog 23 with | some (.slice _) => true | _ => false) = true := by kernel_rfl
theorem Zwv : (match Program.underlying Tryz.prog 91 with | some (.slice _) => true | _ => false) = true := by kernel_rfl
theorem ZvC : Za5 Tryz.prog 93 = some [(0, 1), (1, 1)] := by kernel_rfl
theorem Zzg : (match Program.underlying Tryz.prog 94 with | some (.slice _) => true | _ => false) = true := by kernel_rfl
theorem Zye : enters Tryz.prog 188 = true := by kernel_rfl
theorem ZgT : Za5 Tryz.prog 29 = some [(0, 1), (1, 1), (2, 1), (3, 2)] := by kernel_rfl
theorem Zzj : (match Program.underlying Tryz.prog 24 with | some (.slice _) => true | _ => false) = true := by kernel_rfl
theorem ZAp : enters Tryz.prog 40 = true := by kernel_rfl
theorem zo5 : Zae Tryz.prog 5 = some (.int .u8 0) := by kernel_rfl
theorem Zjw : enters Tryz.prog 65 = true := by kernel_rfl
theorem ZuH : enters Tryz.prog 224 = true := by kernel_rfl
theorem Zyy : enters Tryz.prog 164 = true := by kernel_rfl
theorem Zzs : enters Tryz.prog 98 = true := by kernel_rfl
theorem Zyk : enters Tryz.prog 180 = true := by kernel_rfl
theorem ZyX : enters Tryz.prog 118 = true := by kernel_rfl
theorem ZAa : enters Tryz.prog 66 = true := by kernel_rfl
theorem Zzx : enters Tryz.prog 41 = true := by kernel_rfl
theorem Zzp : ZcE Tryz.prog 65 3 1 8 = true := by kernel_rfl
theorem Zzh : (match Program.underlying Tryz.prog 65 with | some (.slice _) => true | _ => false) = true := by kernel_rfl
theorem ZpP : Zr Tryz.prog 31 1 = some 1 := by kernel_rfl
theorem ZpO : Zr Tryz.prog 31 2 = some 2 := by kernel_rfl
theorem ZmS : Zr Tryz.prog 31 0 = some 0 := by kernel_rfl
theorem Zwz : lk Tryz.prog 31 = some (some 3) := by kernel_rfl
theorem ZAk : enters Tryz.prog 51 = true := by kernel_rfl
theorem Zz9 : enters Tryz.prog 67 = true := by kernel_rfl
theorem Zzd : Zae Tryz.prog 31 = some (.agg #[.string ⟨#[]⟩, .string ⟨#[]⟩, .string ⟨#[]⟩]) := by kernel_rfl
theorem ZzI : ZR Tryz.prog 31 = some 3 := by kernel_rfl
theorem ZwE : enters Tryz.prog 25 = true := by kernel_rfl
theorem ZyF : enters Tryz.prog 155 = true := by kernel_rfl
theorem Zta : Zr Tryz.prog 50 0 = some 0 := by kernel_rfl
theorem Zs9 : Zr Tryz.prog 50 1 = some 1 := by kernel_rfl
theorem Zs8 : Zr Tryz.prog 50 2 = some 2 := by kernel_rfl
theorem Zy0 : enters Tryz.prog 114 = true := by kernel_rfl
theorem ZyZ : enters Tryz.prog 115 = true := by kernel_rfl
theorem Zyl : enters Tryz.prog 179 = true := by kernel_rfl
theorem ZyY : enters Tryz.prog 116 = true := by kernel_rfl
theorem ZAd : enters Tryz.prog 62 = true := by kernel_rfl
theorem ZAc : enters Tryz.prog 63 = true := by kernel_rfl
theorem ZAb : enters Tryz.prog 64 = true := by kernel_rfl
theorem ZyT : enters Tryz.prog 124 = true := by kernel_rfl
theorem ZyS : enters Tryz.prog 125 = true := by kernel_rfl
theorem Zyg : enters Tryz.prog 185 = true := by kernel_rfl
theorem ZyR : enters Tryz.prog 126 = true := by kernel_rfl
theorem Zz6 : enters Tryz.prog 70 = true := by kernel_rfl
theorem Zz5 : enters Tryz.prog 71 = true := by kernel_rfl
theorem Zz4 : enters Tryz.prog 72 = true := by kernel_rfl
theorem ZzC : (Tryz.prog.info? 372).map (·.comparable) = some true := by kernel_rfl
theorem Zvu : ZR Tryz.prog 397 = some 1 := by kernel_rfl
theorem ZwL : Zae Tryz.prog 305 = some (.nilIface) := by kernel_rfl
theorem ZwK : Zae Tryz.prog 308 = some (.nilIface) := by kernel_rfl
theorem ZwJ : Zae Tryz.prog 310 = some (.nilIface) := by kernel_rfl
theorem ZyE : enters Tryz.prog 157 = true := by kernel_rfl
theorem Zt3 : lk Tryz.prog 82 = some none := by kernel_rfl
theorem ZwD : enters Tryz.prog 90 = true := by kernel_rfl
theorem Zzt : enters Tryz.prog 89 = true := by kernel_rfl
theorem ZAq : enters Tryz.prog 37 = true := by kernel_rfl
theorem Zzy : enters Tryz.prog 38 = true := by kernel_rfl
theorem Zxz : enters Tryz.prog 39 = true := by kernel_rfl
theorem Zx6 : enters Tryz.prog 225 = true := by kernel_rfl
theorem Zyx : enters Tryz.prog 165 = true := by kernel_rfl
theorem Zyw : enters Tryz.prog 166 = true := by kernel_rfl
theorem ZvF : Za5 Tryz.prog 198 = some [(0, 3), (3, 1)] := by kernel_rfl
theorem Zu3 : Zae Tryz.prog 198 = some (.agg #[.int .i64 0, .int .i64 0, .string ⟨#[]⟩, .pointer none]) := by kernel_rfl
theorem ZhH : Zr Tryz.prog 195 1 = some 1 := by kernel_rfl
theorem Zh2 : lk Tryz.prog 193 = some none := by kernel_rfl
theorem ZlZ : Zr Tryz.prog 195 0 = some 0 := by kernel_rfl
theorem ZoL : ZR Tryz.prog 193 = some 1 := by kernel_rfl
theorem ZhG : Zr Tryz.prog 195 2 = some 2 := by kernel_rfl
theorem Zjd : Zr Tryz.prog 198 1 = some 3 := by kernel_rfl
theorem Zxd : Za5 Tryz.prog 195 = some [(0, 1), (1, 1), (2, 1)] := by kernel_rfl
theorem ZwO : Zae Tryz.prog 195 = some (.agg #[.pointer none, .pointer none, .int .i64 0]) := by kernel_rfl
theorem Zyh : enters Tryz.prog 183 = true := by kernel_rfl
theorem ZpW : Zr Tryz.prog 198 0 = some 0 := by kernel_rfl
theorem ZyW : enters Tryz.prog 121 = true := by kernel_rfl
theorem ZyU : enters Tryz.prog 123 = true := by kernel_rfl
theorem Zjg : Zr Tryz.prog 156 0 = some 0 := by kernel_rfl
theorem Zjf : Zr Tryz.prog 158 1 = some 0 := by kernel_rfl
theorem Zxl : lk Tryz.prog 21 = some none := by kernel_rfl
theorem Zx3 : enters Tryz.prog 228 = true := by kernel_rfl
theorem ZuG : enters Tryz.prog 229 = true := by kernel_rfl
theorem ZeB : Zr Tryz.prog 162 2 = some 3 := by kernel_rfl
theorem Zkh : lk Tryz.prog 151 = some none := by kernel_rfl
theorem Zp5 : Zr Tryz.prog 160 0 = some 0 := by kernel_rfl
theorem Zyv : enters Tryz.prog 167 = true := by kernel_rfl
theorem Zgq : Zr Tryz.prog 160 1 = some 2 := by kernel_rfl
theorem Zp4 : Zr Tryz.prog 162 1 = some 2 := by kernel_rfl
theorem Zje : Zr Tryz.prog 162 0 = some 0 := by kernel_rfl
theorem Zp7 : Zr Tryz.prog 150 0 = some 0 := by kernel_rfl
theorem Zp6 : Zr Tryz.prog 150 1 = some 1 := by kernel_rfl
theorem Zxe : Za5 Tryz.prog 150 = some [(0, 1), (1, 1)] := by kernel_rfl
theorem ZwP : Zae Tryz.prog 150 = some (.agg #[.string ⟨#[]⟩, .string ⟨#[]⟩]) := by kernel_rfl
theorem Zzr : enters Tryz.prog 99 = true := by kernel_rfl
theorem ZvG : Za5 Tryz.prog 160 = some [(0, 2), (2, 5)] := by kernel_rfl
theorem Zu4 : Zae Tryz.prog 160 = some (.agg #[.int .i32 0, .int .u32 0, .string ⟨#[]⟩, .slice none 0 0, .slice none 0 0, .int .i64 0, .slice none 0 0]) := by kernel_rfl
theorem ZtP : Za5 Tryz.prog 162 = some [(0, 2), (2, 1), (3, 1)] := by kernel_rfl
theorem Zm6 : Zae Tryz.prog 162 = some (.agg #[.string ⟨#[]⟩, .string ⟨#[]⟩, .string ⟨#[]⟩, .pointer none]) := by kernel_rfl
theorem ZtF : ZR Tryz.prog 162 = some 4 := by kernel_rfl
theorem ZuM : enters Tryz.prog 100 = true := by kernel_rfl
theorem ZAo : enters Tryz.prog 43 = true := by kernel_rfl
theorem ZvN : lk Tryz.prog 49 = some (some 5) := by kernel_rfl
theorem ZAt : enters Tryz.prog 11 = true := by kernel_rfl
theorem Zwy : lk Tryz.prog 50 = some (some 3) := by kernel_rfl
theorem ZAs : enters Tryz.prog 12 = true := by kernel_rfl
theorem Zu1 : enters Tryz.prog 15 = true := by kernel_rfl
theorem ZuK : enters Tryz.prog 16 = true := by kernel_rfl
theorem ZwF : enters Tryz.prog 19 = true := by kernel_rfl
theorem ZzB : enters Tryz.prog 21 = true := by kernel_rfl
theorem ZyV : enters Tryz.prog 122 = true := by kernel_rfl
theorem Zz7 : enters Tryz.prog 69 = true := by kernel_rfl
theorem Zze : ZR Tryz.prog 65 = some 1 := by kernel_rfl
theorem ZzG : Zae Tryz.prog 65 = some (.slice none 0 0) := by kernel_rfl
theorem Zz8 : enters Tryz.prog 68 = true := by kernel_rfl
theorem ZzP : lk Tryz.prog 65 = some none := by kernel_rfl
theorem Zu0 : enters Tryz.prog 26 = true := by kernel_rfl
theorem ZxH : enters Tryz.prog 27 = true := by kernel_rfl
theorem ZAr : enters Tryz.prog 28 = true := by kernel_rfl
theorem ZzA : enters Tryz.prog 29 = true := by kernel_rfl
theorem Zzz : enters Tryz.prog 30 = true := by kernel_rfl
set_option maxRecDepth 4000
set_option maxHeartbeats 6400000
variable {J : JoinT}
abbrev cur (b : Nat) (l : List UInt8) (i : Nat) : Cells := ZK b [str l, .int .i64 i] 216
theorem ZfV (n lo hi:Int) (B:Kn):Zaa (pj J) 106 [.int .i64 n,.int .i64 lo,.int .i64 hi] B (.bool (decide (lo≤n) && decide (n≤hi))):=by
 refine cB 15 Tryz.func106 (h:=?_)
 refine Za (xA (h:=Z1 [(0,_),(1,_),(2,_),(6,_)] t4 (Za (xM (h:=xM (h:=Zek (h:=xM (h:=Zy (d:=10) rfl (fun g1=>?_) (fun g1=>?_)))))))))
 try simp only [sQ,ne_eq] at g1
 refine xM (h:=xM (h:=Zck (h:=xT (h:=xA (h:=Z1 [(0,_),(1,_),(2,_),(6,_)] t4 (Ze ?_))))))
 exact eR t1 ⟨by exact Zd (by rw [Bool.eq_iff_iff];simp [];omega),rfl,rfl⟩
 try simp only [sQ,ne_eq] at g1
 refine xP (h:=xP (h:=xP (h:=xF (h:=xA (h:=Z1 [(0,_),(1,_),(2,_),(6,_)] t4 (Ze ?_))))))
 exact eR t1 ⟨by exact Zd (by rw [Bool.eq_iff_iff];simp [];omega),rfl,rfl⟩

theorem Znx (c:UInt8) (B:Kn):Zaa (pj J) 253 [.int .u8 c.toNat] B (.bool (Zbc c)):=by
 refine cB 17 Tryz.func253 (h:=?_)
 refine Za (xA (h:=Z1 [(0,_),(2,_)] t2 (Za (xM (h:=Zek (h:=xM (h:=Zy (d:=5) rfl (fun g1=>?_) (fun g1=>?_))))))))
 try simp only [sQ,ne_eq] at g1
 refine xM (h:=Zck (h:=xT (h:=xM (h:=Zy (d:=9) rfl (fun g2=>?_) (fun g2=>?_)))))
 try simp only [sQ,ne_eq] at g2
 refine xP (h:=xP (h:=xP (h:=xP (h:=xP (h:=xP (h:=xT (h:=xA (h:=Z1 [(0,_),(2,_)] t2 (Ze ?_)))))))))
 exact eR t1 ⟨by exact Zd (by rw [Bool.eq_iff_iff];simp [Zbc];omega),rfl,rfl⟩
 try simp only [sQ,ne_eq] at g2
 refine xM (h:=Zek (h:=xM (h:=Zy (d:=12) rfl (fun g3=>?_) (fun g3=>?_))))
 try simp only [sQ,ne_eq] at g3
 refine xM (h:=Zck (h:=xT (h:=xF (h:=xA (h:=Z1 [(0,_),(2,_)] t2 (Ze ?_))))))
 exact eR t1 ⟨by exact Zd (by rw [Bool.eq_iff_iff];simp [Zbc];omega),rfl,rfl⟩
 try simp only [sQ,ne_eq] at g3
 refine xP (h:=xP (h:=xF (h:=xF (h:=xA (h:=Z1 [(0,_),(2,_)] t2 (Ze ?_))))))
 exact eR t1 ⟨by exact Zd (by rw [Bool.eq_iff_iff];simp [Zbc];omega),rfl,rfl⟩
 try simp only [sQ,ne_eq] at g1
 refine xP (h:=xP (h:=xF (h:=xM (h:=xM (h:=Zek (h:=xM (h:=Zy (d:=12) rfl (fun g4=>?_) (fun g4=>?_))))))))
 try simp only [sQ,ne_eq] at g4
 refine xM (h:=Zck (h:=xT (h:=xF (h:=xA (h:=Z1 [(0,_),(2,_)] t2 (Ze ?_))))))
 exact eR t1 ⟨by exact Zd (by rw [Bool.eq_iff_iff];simp [Zbc];omega),rfl,rfl⟩
 try simp only [sQ,ne_eq] at g4
 refine xP (h:=xP (h:=xF (h:=xF (h:=xA (h:=Z1 [(0,_),(2,_)] t2 (Ze ?_))))))
 exact eR t1 ⟨by exact Zd (by rw [Bool.eq_iff_iff];simp [Zbc];omega),rfl,rfl⟩

theorem Zco (l:List UInt8) (hl:l.length≤2000000) (B:Kn):Zaa (pj J) 159 [str l] B (.bool (Zas l)):=by
 refine cB 37 Tryz.func159 (h:=?_)
 refine Za (xA (h:=Z1 [(0,_),(2,_)] t2 (Zc (Za (xA (h:=Z1 [(0,_),(2,_),(3,_)] t3 (Zh (ZjD (α:=Nat) (fun k=>[(0,str l),(3,.int .i64 k)]) (fun k=>[]) (fun k Bx=>Bx=B∧k≤l.length∧(l.take k).all Zbc=true) (fun k=>l.length - k) 0 t2 rfl (⟨rfl,Nat.zero_le _,by simp⟩) (fun k B1 hle1 hI=>?_)))))))))
 obtain ⟨rfl,hk,ha⟩:=hI
 refine Zc (Za (xM (h:=xM (h:=xVs Tryz.underlying9 (h:=ZF (h:=Z1 [(0,_),(3,_),(7,_)] t3 (Zb rfl (fun g1=>?_) (fun g1=>?_))))))))
 try simp only [sQ,ne_eq] at g1
 obtain ⟨c,hc⟩ :∃c,l[k]? = some c:=⟨_,List.getElem?_eq_getElem oz⟩
 refine wSk (Zc (Zh (Zm9 33 (!(Zbc c)) [0,3,7] ?_ ?_)))
 refine xM (h:=xM (h:=Zk (ZdU rfl rfl Tryz.underlying9 rfl rfl oz (by simpa using hc) ?_)))
 refine Zek (h:=xM (h:=Zy (d:=14) rfl (fun g1=>?_) (fun g1=>?_)))
 try simp only [sQ,ne_eq] at g1
 refine xM (h:=xM (h:=Zk (ZdU rfl rfl Tryz.underlying9 rfl rfl oz (by simpa using hc) ?_)))
 refine Zck (h:=xT (h:=xN (h:=xM (h:=Zy (d:=21) rfl (fun g2=>?_) (fun g2=>?_)))))
 try simp only [sQ,ne_eq] at g2
 refine xM (h:=xM (h:=Zk (ZdU rfl rfl Tryz.underlying9 rfl rfl oz (by simpa using hc) ?_)))
 refine Zek (h:=xM (h:=Zy (d:=26) rfl (fun g3=>?_) (fun g3=>?_)))
 try simp only [sQ,ne_eq] at g3
 refine xM (h:=xM (h:=Zk (ZdU rfl rfl Tryz.underlying9 rfl rfl oz (by simpa using hc) ?_)))
 refine Zck (h:=xT (h:=xN (h:=xT (h:=?_))))
 exact ⟨rfl,rfl,rfl,ZiY rfl (by rw [Bool.eq_iff_iff];simp [Zbc,];omega),t3⟩
 try simp only [sQ,ne_eq] at g3
 refine xP (h:=xP (h:=xP (h:=xP (h:=xF (h:=xN (h:=xT (h:=?_)))))))
 exact ⟨rfl,rfl,rfl,ZiY rfl (by rw [Bool.eq_iff_iff];simp [Zbc,];omega),t3⟩
 try simp only [sQ,ne_eq] at g2
 refine xP (h:=xP (h:=xP (h:=xP (h:=xP (h:=xP (h:=xP (h:=xP (h:=xP (h:=xP (h:=xP (h:=xF (h:=?_))))))))))))
 exact ⟨rfl,rfl,rfl,ZiY rfl (by rw [Bool.eq_iff_iff];simp [Zbc,];omega),t3⟩
 try simp only [sQ,ne_eq] at g1
 refine xP (h:=xP (h:=xP (h:=xP (h:=xF (h:=xN (h:=xM (h:=xM (h:=xM (h:=Zk (ZdU rfl rfl Tryz.underlying9 rfl rfl oz (by simpa using hc) ?_))))))))))
 refine Zek (h:=xM (h:=Zy (d:=26) rfl (fun g4=>?_) (fun g4=>?_)))
 try simp only [sQ,ne_eq] at g4
 refine xM (h:=xM (h:=Zk (ZdU rfl rfl Tryz.underlying9 rfl rfl oz (by simpa using hc) ?_)))
 refine Zck (h:=xT (h:=xN (h:=xT (h:=?_))))
 exact ⟨rfl,rfl,rfl,ZiY rfl (by rw [Bool.eq_iff_iff];simp [Zbc,];omega),t3⟩
 try simp only [sQ,ne_eq] at g4
 refine xP (h:=xP (h:=xP (h:=xP (h:=xF (h:=xN (h:=xT (h:=?_)))))))
 exact ⟨rfl,rfl,rfl,ZiY rfl (by rw [Bool.eq_iff_iff];simp [Zbc,];omega),t3⟩
 refine Z1 [(0,_),(3,_),(7,_),(33,_)] t4 (Zb rfl (fun g9=>?_) (fun g9=>?_))
 try simp only [sQ,ne_eq] at g9
 refine Za (xA (h:=Z1 [(0,_),(2,_),(3,_),(7,_),(33,_)] t5 (Ze (ZB (Zn (ZtN (ZB (Zn ?_))))))))
 exact eR t1 ⟨Zd (by simp [Zas,ZsE hc g9]),rfl,rfl⟩
 try simp only [sQ,ne_eq] at g9
 refine ZX (ZP (Zo (Zf (xM (h:=Zk (Zf9 rfl rfl rfl rfl (by first | exact Zcf oz oz | rfl) ?_))))))
 refine xA (h:=?_)
 exact Znn (k+1) oz ⟨rfl,oz,Zm1 hc g9 ha⟩ t2 rfl
 try simp only [sQ,ne_eq] at g1
 refine ZE (ZV (Znm (Zw (Zo (Za (xM (h:=xVs Tryz.underlying9 (h:=xR Zjk rfl (ZfV _ _ _ _) (h:=xA (h:=Z1 [(0,_),(2,_),(3,_),(7,_)] t4 (Ze ?_)))))))))))
 exact eR t1 ⟨Zd (by (obtain rfl:k=l.length:=oz);rw [List.take_length] at ha;rw [Bool.eq_iff_iff];simp [Zas,ha];omega),rfl,rfl⟩

theorem ZmX (b:Nat) (l:List UInt8) (i:Nat) (hi:i≤l.length) (hl:l.length≤2000000) (B:Kn):Ztm (pj J) 140 [ptr ⟨b,0,none⟩] B (cur b l i) (.bool (decide (i=l.length))) (cur b l i):=by
 refine cB 13 Tryz.func140 (h:=?_)
 refine Za (xA (h:=Z1 [(0,_),(2,_)] t2 (Zc (Z2 (same _ _) mo kr ⟨rfl,rfl⟩ (fun _ _=>?_)))))
 refine aM 0 rfl (h:=aNc 1 rfl (h:=aW 2 rfl ZbS (h:=aT 3 rfl (Zac fun D=>Zm rfl rfl lk3 rfl (atL 0 rfl rfl rfl) r4) (h:=aM 4 rfl (h:=aNc 5 rfl (h:=aW 6 rfl Zgp (h:=aT 7 rfl (Zac fun D=>Zm rfl rfl lk9 rfl (atL 0 rfl rfl rfl) r4) (h:=aT 8 rfl (Zac fun D=>ZsV rfl rfl Tryz.underlying9 rfl r4) (h:=ZqO 9 rfl (h:=aA 10 rfl (h:=Zt kr kr ?_)))))))))))
 refine Zo (Z1 [(0,_),(2,_)] t2 (Ze ?_))
 exact e1 0 rfl t1 ⟨Zd (by rw [Bool.eq_iff_iff];simp;omega),rfl,rfl⟩

theorem Zvr (b:Nat) (l:List UInt8) (i:Nat) (hi:i≤l.length) (hl:l.length≤2000000) (x:UInt8) (B:Kn):Ztm (pj J) 198 [ptr ⟨b,0,none⟩,.int .u8 x.toNat] B (cur b l i) (.bool (decide (l[i]? = some x))) (cur b l (if l[i]? = some x then i+1 else i)):=by
 refine cB 27 Tryz.func198 (h:=?_)
 refine Za (xA (h:=Z1 [(0,_),(1,_),(4,_)] t3 (Zc (Zg8 19 (decide (l[i]?≠some x)) [0,1,4] (same _ _) mo kr ⟨rfl,rfl⟩ (fun _ _=>?_) ?_))))
 refine aM 0 rfl (h:=aT 1 rfl (Zac fun D=>Ze7 0 rfl rfl rfl Zsq rfl (ZmX _ _ _ oz oz _) r4) (h:=?_))
 refine aM 2 rfl (h:=ZaF (d:=7) rfl (fun g1=>?_) (fun g1=>?_))
 try simp only [sQ,ne_eq] at g1
 refine aZ 3 rfl (h:=aZ 4 rfl (h:=aZ 5 rfl (h:=aZ 6 rfl (h:=aZ 7 rfl (h:=aZ 8 rfl (h:=aZ 9 rfl (h:=aZ 10 rfl (h:=aZ 11 rfl (h:=aZ 12 rfl (h:=aZ 13 rfl (h:=aPT 14 rfl (h:=Zt kr kr ?_))))))))))))
 exact ⟨rfl,rfl,rfl,ZiY rfl (by first | (simp [g1];done) | (rw [Bool.eq_iff_iff];simp [hc,← UInt8.toNat_inj];omega)),t3⟩
 try simp only [sQ,ne_eq] at g1
 obtain ⟨c,hc⟩ :∃c,l[i]? = some c:=⟨_,List.getElem?_eq_getElem oz⟩
 refine aM 3 rfl (h:=aNc 4 rfl (h:=aW 5 rfl Zgp (h:=aT 6 rfl (Zac fun D=>Zm rfl rfl lk9 rfl (atL 0 rfl rfl rfl) r4) (h:=aM 7 rfl (h:=aNc 8 rfl (h:=aW 9 rfl ZbS (h:=aT 10 rfl (Zac fun D=>Zm rfl rfl lk3 rfl (atL 0 rfl rfl rfl) r4) (h:=aT 11 rfl (Zac fun D=>ZdU rfl rfl Tryz.underlying9 rfl rfl oz (by simpa using hc) r4) (h:=?_)))))))))
 refine aM 12 rfl (h:=Ztl 13 rfl (h:=aPF 14 rfl (h:=Zt kr kr ?_)))
 exact ⟨rfl,rfl,rfl,ZiY rfl (by first | (simp [g1];done) | (rw [Bool.eq_iff_iff];simp [hc,← UInt8.toNat_inj];omega)),t3⟩
 refine Z1 [(0,_),(1,_),(4,_),(19,_)] t4 (Zb rfl (fun g2=>?_) (fun g2=>?_))
 try simp only [sQ,ne_eq] at g2
 refine Za (xA (h:=Z1 [(0,_),(1,_),(4,_),(19,_)] t4 (Ze (Zn ?_))))
 exact e1 0 rfl t1 ⟨Zd (by simp [g2]),rfl,by rw [if_neg g2]⟩
 try simp only [sQ,ne_eq] at g2
 refine wSk (Za (xM (h:=xNc (h:=xW ZbS (h:=x1 lk3 0 (h:=Zk (Zf9 rfl rfl rfl rfl (by first | exact Zcf oz oz | rfl) ?_)))))))
 refine xNc (h:=xW ZbS (h:=xS [_] 0 [_,_] sz3 (h:=ZC [(0,_),(1,_),(4,_),(19,_)] [_] t4 rfl (Za (xA (h:=Z1 [(0,_),(1,_),(4,_),(19,_)] t4 (Ze ?_)))))))
 exact e1 0 rfl t1 ⟨Zd (by simp [g2]),rfl,by rw [if_pos g2];rfl⟩

theorem Zpd (b:Nat) (l:List UInt8) (i:Nat) (hi:i≤l.length) (hl:l.length≤2000000) (B:Kn):Ztm (pj J) 197 [ptr ⟨b,0,none⟩] B (cur b l i) (.tuple #[str (word l i),.bool (Zdj (word l i))]) (cur b l (i+(word l i).length)):=by
 refine cB 54 Tryz.func197 (h:=?_)
 refine Za (xA (h:=xA (h:=Z1 [(0,_),(2,_),(3,_)] t3 (Za (xM (h:=xNc (h:=xW ZbS (h:=x1 lk3 0 (h:=xA (h:=Z1 [(0,_),(2,_),(3,_),(4,_)] t4 (Zc (Zh (ZjD (α:=Nat) (fun k=>[(0,ptr ⟨b,0,none⟩),(4,.int .i64 i)]) (fun k=>[cur b l (i+k)]) (fun k Bx=>Bx=B∧i+k≤l.length∧((l.drop i).take k).all Zbc=true) (fun k=>l.length - i - k) 0 t2 rfl (⟨rfl,oz,by simp⟩) (fun k B1 hle1 hI=>?_))))))))))))))
 obtain ⟨rfl,hk,ha⟩:=hI
 refine Zc (Zg8 24 (match l[i+k]? with | some c=>Zbc c | none=>false) [0,4] (same _ _) mo kr ⟨rfl,rfl⟩ (fun _ _=>?_) ?_)
 refine aM 0 rfl (h:=aT 1 rfl (Zac fun D=>Ze7 0 rfl rfl rfl Zsq rfl (ZmX _ _ _ oz oz _) r4) (h:=?_))
 refine aN 2 rfl (h:=aM 3 rfl (h:=ZaF (d:=13) rfl (fun g1=>?_) (fun g1=>?_)))
 try simp only [sQ,ne_eq] at g1
 obtain ⟨c,hc⟩ :∃c,l[i+k]? = some c:=⟨_,List.getElem?_eq_getElem oz⟩
 refine aM 4 rfl (h:=aNc 5 rfl (h:=aW 6 rfl Zgp (h:=aT 7 rfl (Zac fun D=>Zm rfl rfl lk9 rfl (atL 0 rfl rfl rfl) r4) (h:=aM 8 rfl (h:=aNc 9 rfl (h:=aW 10 rfl ZbS (h:=aT 11 rfl (Zac fun D=>Zm rfl rfl lk3 rfl (atL 0 rfl rfl rfl) r4) (h:=aT 12 rfl (Zac fun D=>ZdU rfl rfl Tryz.underlying9 rfl rfl oz hc r4) (h:=?_)))))))))
 refine aT 13 rfl (Zac fun D=>Z8 rfl rfl ZxP rfl (Znx _ _) r4) (h:=aPT 14 rfl (h:=Zt kr kr ?_))
 exact ⟨rfl,rfl,rfl,ZiY rfl (by first | (rw [hc];done) | (rw [List.getElem?_eq_none oz])),t2⟩
 try simp only [sQ,ne_eq] at g1
 refine aZ 4 rfl (h:=aZ 5 rfl (h:=aZ 6 rfl (h:=aZ 7 rfl (h:=aZ 8 rfl (h:=aZ 9 rfl (h:=aZ 10 rfl (h:=aZ 11 rfl (h:=aZ 12 rfl (h:=aZ 13 rfl (h:=aPF 14 rfl (h:=Zt kr kr ?_)))))))))))
 exact ⟨rfl,rfl,rfl,ZiY rfl (by first | (rw [hc];done) | (rw [List.getElem?_eq_none oz])),t2⟩
 refine Z1 [(0,_),(4,_),(24,_)] t3 (Zb rfl (fun g2=>?_) (fun g2=>?_))
 try simp only [sQ,ne_eq] at g2
 refine wSk (Zh (Zf (xM (h:=xNc (h:=xW ZbS (h:=x1 lk3 0 (h:=Zk (Zf9 rfl rfl rfl rfl (by first | exact Zcf oz oz | rfl) ?_))))))))
 refine xNc (h:=xW ZbS (h:=xS [_] 0 [_,_] sz3 (h:=ZP ?_)))
 obtain ⟨c,hc,hn⟩:=ZoT g2
 exact Znn (k+1) (by have:=Zbl hc;omega) ⟨rfl,by have:=Zbl hc;omega,Zm1 (by simpa using hc) hn ha⟩ t2 rfl
 try simp only [sQ,ne_eq] at g2
 have hw:word l i=(l.drop i).take k:=Zq9 ha (fun c hc=>by rw [hc] at g2;exact g2)
 have hwl:(word l i).length=k:=by rw [hw,List.length_take,List.length_drop];omega
 refine ZE (ZV (Znm (Zw (Zo (Za (xM (h:=xNc (h:=xW ZbS (h:=x1 lk3 0 (h:=xM (h:=Zk (ZiG rfl rfl rfl rfl (by first | exact Zcf oz oz | rfl) ?_))))))))))))
 refine xA (h:=Z1 [(0,_),(4,_),(5,_),(24,_)] t4 (Zc (Z2 (same _ _) mo kr ⟨rfl,rfl⟩ (fun _ _=>?_))))
 refine aM 0 rfl (h:=aNc 1 rfl (h:=aW 2 rfl Zgp (h:=aT 3 rfl (Zac fun D=>Zm rfl rfl lk9 rfl (atL 0 rfl rfl rfl) r4) (h:=aM 4 rfl (h:=aM 5 rfl (h:=aNc 6 rfl (h:=aW 7 rfl ZbS (h:=aT 8 rfl (Zac fun D=>Zm rfl rfl lk3 rfl (atL 0 rfl rfl rfl) r4) (h:=aT 9 rfl (Zac fun D=>ZfM rfl rfl Tryz.underlying9 rfl (a:=i) (b:=i+k) ⟨_,_,rfl,rfl⟩ ⟨_,_,rfl,oz⟩ oz oz r4) (h:=?_))))))))))
 refine aM 10 rfl (h:=Zzc 11 rfl (h:=aM 12 rfl (h:=ZaF (d:=50) rfl (fun g1=>?_) (fun g1=>?_))))
 try simp only [sQ,ne_eq] at g1
 refine aM 13 rfl (h:=ZuT 14 rfl (h:=aPT 15 rfl (h:=aA 16 rfl (h:=aA 17 rfl (h:=Zt kr kr ?_)))))
 refine Zo (Z1 [(0,_),(2,_),(3,_),(4,_),(5,_),(24,_)] t6 (Ze ?_))
 exact ZuF .ret (.inl rfl) [_,_] 0 rfl t2 ⟨Zic (by rw [Zfd,hw]) (Zd (by rw [Bool.eq_iff_iff];simp [Zdj,hwl];omega)),rfl,by rw [hwl]⟩
 try simp only [sQ,ne_eq] at g1
 refine aZ 13 rfl (h:=aZ 14 rfl (h:=aPF 15 rfl (h:=aA 16 rfl (h:=aA 17 rfl (h:=Zt kr kr ?_)))))
 refine Zo (Z1 [(0,_),(2,_),(3,_),(4,_),(5,_),(24,_)] t6 (Ze ?_))
 exact ZuF .ret (.inl rfl) [_,_] 0 rfl t2 ⟨Zic (by rw [Zfd,hw]) (Zd (by rw [Bool.eq_iff_iff];simp [Zdj,hwl];omega)),rfl,by rw [hwl]⟩

theorem Zsr (b:Nat) (l:List UInt8) (i:Nat) (hi:i≤l.length) (hl:l.length≤2000000) (B:Kn):Ztm (pj J) 139 [ptr ⟨b,0,none⟩] B (cur b l i) (.tuple #[str (ZhN l i),.bool (Zl6 l i)]) (cur b l (dom l i).2):=by
 refine cB 53 Tryz.func139 (h:=?_)
 refine Za (xA (h:=xA (h:=Z1 [(0,_),(2,_),(3,_)] t3 (Za (xM (h:=xNc (h:=xW ZbS (h:=x1 lk3 0 (h:=xA (h:=Z1 [(0,_),(2,_),(3,_),(4,_)] t4 (Zc (Za (xM (h:=Zk (Zh8 0 rfl rfl rfl ZuI rfl (Zpd _ _ _ oz oz _) ?_)))))))))))))))
 refine xM (h:=xE (h:=xE (h:=xA (h:=xA (h:=ZC [(0,_),(2,_),(3,_),(4,_),(6,_)] [_] t5 rfl (Za (xM (h:=xN (h:=Z1 [(0,_),(2,_),(3,_),(4,_),(6,_),(20,_)] t6 (Zb rfl (fun g1=>?_) (fun g1=>?_)))))))))))
 try simp only [sQ,ne_eq] at g1
 refine Za (xA (h:=xA (h:=Z1 [(0,_),(2,_),(3,_),(4,_),(6,_),(20,_)] t6 (Ze (Zn ?_)))))
 exact ZuF .ret (.inl rfl) [_,_] 0 rfl t2 ⟨Zic (by simp [ZhN,Zl5 g1]) (Zd (by simp [Zl6,Zl5 g1])),rfl,by rw [Zl5 g1]⟩
 try simp only [sQ,ne_eq] at g1
 refine wSk (Zc (Za (xA (h:=Z1 [(0,_),(2,_),(3,_),(4,_),(6,_),(7,_),(20,_)] t7 (Zh (ZjD (α:=Nat × Nat) (fun x=>[(0,ptr ⟨b,0,none⟩),(4,.int .i64 i),(7,.int .i64 x.1)]) (fun x=>[cur b l x.2]) (fun x Bx=>Bx=B∧1≤x.1∧x.1≤3∧i≤x.2∧x.2≤l.length∧dom l i=more (3 - x.1) l x.2) (fun x=>3 - x.1) (1,i+(word l i).length) t3 rfl (⟨rfl,oz,oz,oz,Zg7 hi,Zss g1⟩) (fun x B1 hle1 hI=>?_)))))))
 obtain ⟨rfl,hk1,hk3,hix,hxl,hd⟩:=hI
 refine Zc (Za (xM (h:=ZF (h:=xM (h:=Zy (d:=23) rfl (fun g2=>?_) (fun g2=>?_))))))
 try simp only [sQ,ne_eq] at g2
 refine xM (h:=Zk (Zh8 0 rfl rfl rfl Zyd rfl (Zvr _ _ _ oz oz 46 _) ?_))
 refine xT (h:=ZC [(0,_),(4,_),(7,_),(26,_)] [_] t4 rfl (Zb rfl (fun g3=>?_) (fun g3=>?_)))
 try simp only [sQ,ne_eq] at g3
 rw [if_pos g3]
 have hx2:=Zbl g3
 refine wSk (Zc (Zh (Za (xM (h:=Zk (Zh8 0 rfl rfl rfl ZuI rfl (Zpd _ _ _ oz oz _) ?_))))))
 refine xM (h:=xE (h:=xE (h:=xA (h:=xA (h:=ZC [(0,_),(4,_),(7,_),(9,_),(26,_)] [_] t5 rfl (Za (xM (h:=xN (h:=Z1 [(0,_),(4,_),(7,_),(9,_),(26,_),(35,_)] t6 (Zb rfl (fun g4=>?_) (fun g4=>?_)))))))))))
 try simp only [sQ,ne_eq] at g4
 refine Za (xA (h:=xA (h:=Z1 [(0,_),(2,_),(3,_),(4,_),(7,_),(9,_),(26,_),(35,_)] t8 (Ze (ZB (Zn (ZtN (ZB (Zn ?_)))))))))
 have hdd:=hd.trans (ZrS oz g3 g4)
 exact ZuF .ret (.inl rfl) [_,_] 0 rfl t2 ⟨Zic (by simp [ZhN,hdd]) (Zd (by simp [Zl6,hdd])),rfl,by rw [hdd]⟩
 try simp only [sQ,ne_eq] at g4
 refine ZX (ZP (Zo (Zf (xM (h:=Zk (Zf9 rfl rfl rfl rfl (by first | exact Zcf oz oz | rfl) ?_))))))
 refine xA (h:=?_)
 exact Znn (x.1+1,x.2+1+(word l (x.2+1)).length) (so) ⟨rfl,so,so,so,Zg7 oz,by rw [hd,Zpi oz g3 g4];rw [show 3 - (x.1+1)=3 - x.1 - 1 from by omega]⟩ t3 rfl
 try simp only [sQ,ne_eq] at g3
 rw [if_neg g3]
 replace hd:=hd.trans (Zhq g3)
 refine ZE (ZV (Znm (Zw (Zo (Zc (Z2 (same _ _) mo kr ⟨rfl,rfl⟩ (fun _ _=>?_)))))))
 refine aM 0 rfl (h:=aNc 1 rfl (h:=aW 2 rfl Zgp (h:=aT 3 rfl (Zac fun D=>Zm rfl rfl lk9 rfl (atL 0 rfl rfl rfl) r4) (h:=aM 4 rfl (h:=aM 5 rfl (h:=aNc 6 rfl (h:=aW 7 rfl ZbS (h:=aT 8 rfl (Zac fun D=>Zm rfl rfl lk3 rfl (atL 0 rfl rfl rfl) r4) (h:=aT 9 rfl (Zac fun D=>ZfM rfl rfl Tryz.underlying9 rfl (a:=i) (b:=x.2) ⟨_,_,rfl,rfl⟩ ⟨_,_,rfl,rfl⟩ oz oz r4) (h:=?_))))))))))
 refine aM 10 rfl (h:=aNc 11 rfl (h:=aW 12 rfl ZbS (h:=aT 13 rfl (Zac fun D=>Zm rfl rfl lk3 rfl (atL 0 rfl rfl rfl) r4) (h:=aM 14 rfl (h:=aT 15 rfl (Zac fun D=>ZiG rfl rfl rfl rfl (by first | exact Zcf oz oz | rfl) r4) (h:=?_))))))
 refine ZuT 16 rfl (h:=aA 17 rfl (h:=aA 18 rfl (h:=Zt kr kr ?_)))
 refine Zo (Z1 [(0,_),(2,_),(3,_),(4,_),(7,_),(26,_)] t6 (Ze ?_))
 exact ZuF .ret (.inl rfl) [_,_] 0 rfl t2 ⟨Zic (by simp [ZhN,hd]) (Zd (by rw [Bool.eq_iff_iff];simp [Zl6,hd];omega)),rfl,by rw [hd]⟩
 try simp only [sQ,ne_eq] at g2
 replace hd:dom l i=(true,x.2):=hd.trans (by rw [show 3 - x.1=0 from by omega];rfl)
 refine xP (h:=xP (h:=xF (h:=Z1 [(0,_),(4,_),(7,_),(26,_)] t4 (Zb (t:=false) rfl (fun h=>Bool.noConfusion h) (fun _=>ZE (ZV (Znm (Zw (Zo (Zc (Z2 (same _ _) mo kr ⟨rfl,rfl⟩ (fun _ _=>?_))))))))))))
 refine aM 0 rfl (h:=aNc 1 rfl (h:=aW 2 rfl Zgp (h:=aT 3 rfl (Zac fun D=>Zm rfl rfl lk9 rfl (atL 0 rfl rfl rfl) r4) (h:=aM 4 rfl (h:=aM 5 rfl (h:=aNc 6 rfl (h:=aW 7 rfl ZbS (h:=aT 8 rfl (Zac fun D=>Zm rfl rfl lk3 rfl (atL 0 rfl rfl rfl) r4) (h:=aT 9 rfl (Zac fun D=>ZfM rfl rfl Tryz.underlying9 rfl (a:=i) (b:=x.2) ⟨_,_,rfl,rfl⟩ ⟨_,_,rfl,rfl⟩ oz oz r4) (h:=?_))))))))))
 refine aM 10 rfl (h:=aNc 11 rfl (h:=aW 12 rfl ZbS (h:=aT 13 rfl (Zac fun D=>Zm rfl rfl lk3 rfl (atL 0 rfl rfl rfl) r4) (h:=aM 14 rfl (h:=aT 15 rfl (Zac fun D=>ZiG rfl rfl rfl rfl (by first | exact Zcf oz oz | rfl) r4) (h:=?_))))))
 refine ZuT 16 rfl (h:=aA 17 rfl (h:=aA 18 rfl (h:=Zt kr kr ?_)))
 refine Zo (Z1 [(0,_),(2,_),(3,_),(4,_),(7,_),(26,_)] t6 (Ze ?_))
 exact ZuF .ret (.inl rfl) [_,_] 0 rfl t2 ⟨Zic (by simp [ZhN,hd]) (Zd (by rw [Bool.eq_iff_iff];simp [Zl6,hd];omega)),rfl,by rw [hd]⟩

theorem ZbW (l:List UInt8) (hl:l.length≤2000000) (B:Kn):Zaa (pj J) 149 [str l] B (.bool (Zas l)):=by
 refine cB 16 Tryz.func149 (h:=?_)
 refine Za (xA (h:=Z1 [(0,_),(2,_)] t2 (Za (xM (h:=xB [(0,_)] [_,_] [_,_] ZvE ZqW (h:=xAl [_,_] ZqW (h:=fun b0=>xS [_,_] 0 [_,_] Zvz (h:=ZC [(0,_),(2,_),(3,_)] [_] t3 rfl (Za (Zk (Zh8 0 rfl rfl rfl ZuI rfl (Zpd _ _ 0 oz hl _) ?_)))))))))))
 refine xM (h:=xE (h:=xE (h:=xA (h:=xA (h:=ZC [(0,_),(2,_),(3,_),(5,_)] [_] t4 rfl (Za (xM (h:=xM (h:=Zy (d:=13) rfl (fun g1=>?_) (fun g1=>?_))))))))))
 refine Zk (Ze7 0 rfl rfl rfl Zsq rfl (ZmX _ _ (0+(word l 0).length) (Zg7 (Nat.zero_le _)) oz _) ?_)
 refine xT (h:=xA (h:=Z1 [(0,_),(2,_),(3,_),(5,_)] t4 (Ze ?_)))
 exact eR t1 ⟨Zd (by rw [Zc4];simp [g1];try omega),rfl,rfl⟩
 refine xP (h:=xF (h:=xA (h:=Z1 [(0,_),(2,_),(3,_),(5,_)] t4 (Ze ?_))))
 exact eR t1 ⟨Zd (by rw [Zc4];simp [g1];try omega),rfl,rfl⟩

abbrev ZwG (s : Cells) (q : Option Addr) (m cp : Nat) (ls : List (List UInt8)) : Prop := ZhV s q m cp 9 1 (ls.map str)
theorem ZjG {s:Cells} {q:Option Addr} {m cp:Nat} {ls:List (List UInt8)} {a:List UInt8} (h:ZhV s q m cp 9 1 (ls.map str ++ [str a])):ZwG s q m cp (ls ++ [a]):=by
 unfold ZwG
 rw [List.map_append]
 exact h
theorem Zt6 (l:List UInt8) (hl:l.length≤2000000) (x0:UInt8) (B:Kn):ZzF (pj J) 158 [str l,.int .u8 x0.toNat] B (fun v s=>∃q cp,v = .slice q (cut x0 l).length cp∧ZwG s q (cut x0 l).length cp (cut x0 l)):=by
 refine cB 35 Tryz.func158 (h:=?_)
 refine Za (xA (h:=Z1 [(0,_),(1,_),(4,_)] t3 (Za (xBs [] [] Tryz.underlying143 sz9 zo9 (h:=fun b0=>xA (h:=ZC [(0,_),(1,_),(4,_),(5,_)] [_] t4 rfl (Za (xA (h:=Z1 [(0,_),(1,_),(4,_),(5,_),(6,_)] t5 (Zc (Za (xA (h:=Z1 [(0,_),(1,_),(4,_),(5,_),(6,_),(7,_)] t6 (Zh (ZjD (α:=CutSt) (fun x=>[(0,str l),(1,.int .u8 x0.toNat),(5,.slice x.q x.m x.cp),(6,.int .i64 x.f),(7,.int .i64 x.i)]) (fun x=>[x.s]) (fun x Bx=>Bx=B∧x.f≤x.i∧x.i≤l.length∧x.m≤x.i∧x.m=x.ps.length∧ZwG x.s x.q x.m x.cp x.ps∧cut x0 l=x.ps ++ glue ((l.take x.i).drop x.f) (cut x0 (l.drop x.i))) (fun x=>l.length - x.i) ⟨0,0,0,[],some ⟨b0,0,none⟩,0,ZK b0 [] 9⟩ t5 rfl (⟨rfl,Nat.le_refl _,Nat.zero_le _,Nat.le_refl _,rfl,ZhV.lit rfl,by simp [ZmQ (Zm0 x0 l)]⟩) (fun x B1 hle1 hI=>?_))))))))))))))))
 obtain ⟨rfl,hf,hi,hn,hm,hv,hc⟩:=hI
 refine Zc (Za (xM (h:=xM (h:=xVs Tryz.underlying9 (h:=ZF (h:=Z1 [(0,_),(1,_),(5,_),(6,_),(7,_),(12,_)] t6 (Zb rfl (fun g1=>?_) (fun g1=>?_))))))))
 try simp only [sQ,ne_eq] at g1
 obtain ⟨c,hx⟩ :∃c,l[x.i]? = some c:=⟨_,List.getElem?_eq_getElem oz⟩
 refine wSk (Zc (Zh (Za (xM (h:=xM (h:=Zk (ZdU rfl rfl Tryz.underlying9 rfl rfl oz hx ?_)))))))
 refine xM (h:=ZjC (h:=Z1 [(0,_),(1,_),(5,_),(6,_),(7,_),(12,_),(19,_)] t7 (Zb rfl (fun g2=>?_) (fun g2=>?_))))
 try simp only [sQ,ne_eq] at g2
 refine Za (xM (h:=xM (h:=xM (h:=xM (h:=Zk (ZfM rfl rfl Tryz.underlying9 rfl (a:=x.f) (b:=x.i) ⟨_,_,rfl,rfl⟩ ⟨_,_,rfl,rfl⟩ oz oz ?_))))))
 refine xBs [(0,_)] [_] Tryz.underlying143 sz9 zo9 (h:=fun b1=>Zk (ZeI 0 rfl (hv) rfl rfl Zqk Zrt rfl rfl (ZcG.box 1 rfl) rfl rfl oz (fun l1 p1 c1 hv1=>?_)))
 refine xA (h:=ZC [(0,_),(1,_),(5,_),(6,_),(7,_),(12,_),(19,_)] [_,_] t7 rfl (Zog [0] rfl (Zf (xM (h:=Zk (Zf9 rfl rfl rfl rfl (by first | exact Zcf oz oz | rfl) ?_))))))
 refine xA (h:=ZP (Zo (Zf (xM (h:=Zk (Zf9 rfl rfl rfl rfl (by first | exact Zcf oz oz | rfl) ?_))))))
 refine xA (h:=?_)
 exact Znn ⟨x.i+1,x.i+1,x.m+1,x.ps ++ [(l.take x.i).drop x.f],p1,c1,l1⟩ (so) ⟨rfl,Nat.le_refl _,so,so,by simp [hm],ZjG hv1,by rw [hc,ZuP hx (ZwZ g2),List.append_assoc];simp [Zsj,ZmQ (Zm0 x0 _)]⟩ t5 rfl
 try simp only [sQ,ne_eq] at g2
 refine ZX (ZP (Zo (Zf (xM (h:=Zk (Zf9 rfl rfl rfl rfl (by first | exact Zcf oz oz | rfl) ?_))))))
 refine xA (h:=?_)
 exact Znn ⟨x.i+1,x.f,x.m,x.ps,x.q,x.cp,x.s⟩ (so) ⟨rfl,so,so,so,hm,hv,by rw [hc,Zsu hx (ZwY g2),ZpK,ZoE hx hf]⟩ t5 rfl
 try simp only [sQ,ne_eq] at g1
 obtain hie:x.i=l.length:=by omega
 rw [hie,List.take_length,List.drop_length] at hc
 refine ZE (ZV (Znm (Zw (Zo (Za (xM (h:=xM (h:=xM (h:=Zk (ZfM rfl rfl Tryz.underlying9 rfl (a:=x.f) (b:=l.length) ⟨_,_,rfl,rfl⟩ rfl oz oz ?_))))))))))
 refine xBs [(0,_)] [_] Tryz.underlying143 sz9 zo9 (h:=fun b1=>Zk (ZeI 0 rfl (hv) rfl rfl Zqk Zrt rfl rfl (ZcG.box 1 rfl) rfl rfl oz (fun l2 p2 c2 hv2=>?_)))
 refine xA (h:=ZC [(0,_),(1,_),(4,_),(5,_),(6,_),(7,_),(12,_)] [_,_] t7 rfl (Ze ?_))
 have he:cut x0 l=x.ps ++ [l.drop x.f]:=by rw [hc];simp [cut,glue]
 have hlen:(cut x0 l).length=x.m+1:=by rw [he];simp [hm]
 exact ZeC .ret (.inl rfl) [_] [0] rfl ⟨rfl,trivial⟩ ⟨rfl,_,rfl,p2,c2,by rw [hlen];rfl,by rw [hlen,he];rw [List.take_length] at hv2;exact ZjG hv2⟩

theorem ZjU (l:List UInt8) (hl:l.length≤2000000) (B:Kn):Zaa (pj J) 91 [str l] B (.bool (ZcI l)):=by
 refine cB 27 Tryz.func91 (h:=?_)
 refine Za (xA (h:=Z1 [(0,_),(2,_)] t2 (Za (xM (h:=Zk (Zvc rfl rfl ZyD rfl (Zt6 _ hl 46 _) ?_))))))
 rintro _ s ⟨q,cp,rfl,hv⟩
 refine xA (h:=ZC [(0,_),(2,_),(3,_)] [_] t3 rfl (Zc (Za (xA (h:=Z1 [(0,_),(2,_),(3,_),(4,_)] t4 (Zh (ZjD (α:=Nat) (fun k=>[(0,str l),(3,.slice q (cut 46 l).length cp),(4,.int .i64 k)]) (fun k=>[s]) (fun k Bx=>Bx=B∧k≤(cut 46 l).length∧((cut 46 l).take k).all Zas=true) (fun k=>(cut 46 l).length - k) 0 t3 rfl (⟨rfl,Nat.zero_le _,by simp⟩) (fun k B1 hle1 hI=>?_))))))))
 obtain ⟨rfl,hk,ha⟩:=hI
 have hcc:=ZkG 46 l
 refine Zc (Za (xM (h:=xM (h:=xV Tryz.underlying143 (h:=ZF (h:=Z1 [(0,_),(3,_),(4,_),(10,_)] t4 (Zb rfl (fun g1=>?_) (fun g1=>?_))))))))
 try simp only [sQ,ne_eq] at g1
 obtain ⟨y,hy⟩ :∃y,(cut 46 l)[k]? = some y:=⟨_,List.getElem?_eq_getElem oz⟩
 have hyl:=Zl7 46 l y (List.mem_of_getElem? hy)
 obtain ⟨a,rfl,hsp,hat⟩:=hv.at (B:=B1) (L:=[s]) (i:=k) (v:=str y) 0 rfl (by rw [List.getElem?_map,hy];rfl)
 refine wSk (Zc (Zh (Za (xM (h:=xM (h:=Zk (ZbK rfl rfl Tryz.underlying143 sz9 rfl rfl oz oz ?_)))))))
 refine Zk (Zm rfl rfl lk9 rfl (Zwo hat) (xR Zl4 rfl (Zco _ oz _) (h:=?_)))
 refine xN (h:=Z1 [(0,_),(3,_),(4,_),(10,_),(18,_)] t5 (Zb rfl (fun g2=>?_) (fun g2=>?_)))
 try simp only [sQ,ne_eq] at g2
 refine Za (xA (h:=Z1 [(0,_),(2,_),(3,_),(4,_),(10,_),(18,_)] t6 (Ze (ZB (Zn (ZtN (ZB (Zn ?_))))))))
 exact eR t1 ⟨Zd (by simp [ZcI,ZkR hy g2]),rfl,rfl⟩
 try simp only [sQ,ne_eq] at g2
 refine ZX (ZP (Zo (Zf (xM (h:=Zk (Zf9 rfl rfl rfl rfl (by first | exact Zcf oz oz | rfl) ?_))))))
 refine xA (h:=?_)
 exact Znn (k+1) oz ⟨rfl,oz,ZhU hy g2 ha⟩ t3 rfl
 try simp only [sQ,ne_eq] at g1
 obtain hke:k=(cut 46 l).length:=by omega
 rw [hke,List.take_length] at ha
 refine ZE (ZV (Znm (Zw (Zo (Za (xM (h:=xV Tryz.underlying143 (h:=Zck (h:=xM (h:=Zy (d:=22) rfl (fun g3=>?_) (fun g3=>?_)))))))))))
 try simp only [sQ,ne_eq] at g3
 refine xM (h:=xVs Tryz.underlying9 (h:=Zck (h:=xT (h:=xA (h:=Z1 [(0,_),(2,_),(3,_),(4,_),(10,_)] t5 (Ze ?_))))))
 exact eR t1 ⟨Zd (by rw [Bool.eq_iff_iff];simp [ZcI,ha];omega),rfl,rfl⟩
 try simp only [sQ,ne_eq] at g3
 refine xP (h:=xP (h:=xP (h:=xF (h:=xA (h:=Z1 [(0,_),(2,_),(3,_),(4,_),(10,_)] t5 (Ze ?_))))))
 exact eR t1 ⟨Zd (by rw [Bool.eq_iff_iff];simp [ZcI,ha];omega),rfl,rfl⟩

theorem ZfW (q:Option Addr) (cp:Nat) (us:List DUser) (u:Str) (B:Kn) (hu:SlK B q cp 3 Zs us):Zaa (pj J) 96 [.slice q us.length cp,str u] B (.int .i64 (Zeu us u)):=by
 refine cB 20 Tryz.func96 (h:=?_)
 have hun:=hu.len
 refine Za (xA (h:=Zc (Za (xA (h:=Zh (Zz (α:=Nat) [0,1] (fun k=>[(5,.int .i64 k)]) [] (fun k=>[]) (fun k Bx=>Bx=B∧k≤us.length∧∀x,x∈us.take k→x.name≠u) (fun k=>us.length - k) 0 t1 rfl (⟨rfl,Nat.zero_le _,by simp⟩) (fun k B1 hle1 hI=>?_)))))))
 obtain ⟨rfl,hk,ha⟩:=hI
 refine ZC [(0,_),(1,_),(5,_)] [] t3 rfl (Zc (Za (xM (h:=xM (h:=xV Tryz.underlying23 (h:=ZF (h:=Zb rfl (fun g1=>?_) (fun g1=>?_))))))))
 try simp only [sQ,ne_eq] at g1
 refine wSk (Zc (Zh (Za (xM (h:=xM (h:=?_))))))
 obtain ⟨x,hx⟩:=ZY (xs:=us) (i:=k) om
 obtain ⟨bb3,oo3,rfl⟩:=hu.base hx
 obtain ⟨_,⟨rfl,hb4,hb4b⟩,hc4⟩:=hu.elem hx
 refine xIx Tryz.underlying23 Zbh (h:=xW Za7 (h:=y1 lk9 hc4 0 (h:=xM (h:=Zdx (h:=Zb rfl (fun g2=>?_) (fun g2=>?_))))))
 try simp only [sQ,ne_eq] at g2
 refine Za (xM (h:=xA (h:=Ze (ZB (Zn (ZS (ZB (Zn ?_))))))))
 exact eR t1 ⟨ZG (Zr6 hx g2 ha).symm,rfl,rfl⟩
 try simp only [sQ,ne_eq] at g2
 refine ZX (ZP (Zo (Zf (xM (h:=xD (h:=xA (h:=?_)))))))
 exact ZD (k+1) [] so2 ⟨rfl,oz,Zbg hx ha g2⟩ t3 rfl
 try simp only [sQ,ne_eq] at g1
 refine ZE (ZV (ZH (Zw (Zo (Za (xA (h:=Ze ?_)))))))
 exact eR t1 ⟨ZG (ZpC (Zbq oz ha)).symm,rfl,rfl⟩

theorem Zl2 (q q':Option Addr) (cp cp':Nat) (xs ys:List Str) (B:Kn) (ha:SlK B q cp 1 Zde xs) (hb:SlK B q' cp' 1 Zde ys):Zaa (pj J) 238 [.slice q xs.length cp,.slice q' ys.length cp'] B (.bool (decide (xs=ys))):=by
 refine cB 26 Tryz.func238 (h:=?_)
 have han:=ha.len
 have hbn:=hb.len
 refine Za (xA (h:=Zc (Za (xM (h:=xV Tryz.underlying143 (h:=xM (h:=xV Tryz.underlying143 (h:=ZaL (h:=Zb rfl (fun g1=>?_) (fun g1=>?_))))))))))
 try simp only [sQ,ne_eq] at g1
 refine Za (xA (h:=Ze (Zn ?_)))
 exact eR t1 ⟨Zd (ZfD g1),rfl,rfl⟩
 try simp only [sQ,ne_eq] at g1
 refine wSk (Zc (Za (xA (h:=Zh (Zz (α:=Nat) [0,1,10] (fun k=>[(5,.int .i64 k)]) [] (fun k=>[]) (fun k Bx=>Bx=B∧k≤xs.length∧xs.take k=ys.take k) (fun k=>xs.length - k) 0 t1 rfl (⟨rfl,Nat.zero_le _,by simp⟩) (fun k B1 hle1 hI=>?_))))))
 obtain ⟨rfl,hk,he⟩:=hI
 refine ZC [(0,_),(1,_),(5,_),(10,_)] [] t4 rfl (Zc (Za (xM (h:=xM (h:=xV Tryz.underlying143 (h:=ZF (h:=Zb rfl (fun g2=>?_) (fun g2=>?_))))))))
 try simp only [sQ,ne_eq] at g2
 refine wSk (Zc (Zh (Zc (Z2 (same _ _) mo kr ⟨rfl,rfl⟩ (fun _ _=>?_)))))
 refine aM 0 rfl (h:=aM 1 rfl (h:=?_))
 obtain ⟨x,hx⟩:=ZY (xs:=xs) (i:=k) om
 obtain ⟨bb3,oo3,rfl⟩:=ha.base hx
 obtain ⟨_,⟨rfl,hb4⟩,hc4⟩:=ha.elem hx
 refine aIx 2 rfl Tryz.underlying143 sz9 (h:=aT 3 rfl (Zac fun D=>Zm rfl rfl lk9 rfl (hc4 _ 0 _ rfl) r4) (h:=aM 4 rfl (h:=aM 5 rfl (h:=?_))))
 obtain ⟨y,hy⟩:=ZY (xs:=ys) (i:=k) om
 obtain ⟨bb6,oo6,rfl⟩:=hb.base hy
 obtain ⟨_,⟨rfl,hb7⟩,hc7⟩:=hb.elem hy
 refine aIx 6 rfl Tryz.underlying143 sz9 (h:=aT 7 rfl (Zac fun D=>Zm rfl rfl lk9 rfl (hc7 _ 0 _ rfl) r4) (h:=Zfg 8 rfl (h:=Zt kr kr ?_)))
 refine Zo (Zb rfl (fun g3=>?_) (fun g3=>?_))
 try simp only [sQ,ne_eq] at g3
 refine Za (xA (h:=Ze (ZB (Zn (ZS (ZB (Zn ?_)))))))
 exact eR t1 ⟨Zd (Zd9 hx hy g3),rfl,rfl⟩
 try simp only [sQ,ne_eq] at g3
 refine ZX (ZP (Zo (Zf (xM (h:=xD (h:=xA (h:=?_)))))))
 exact ZD (k+1) [] so2 ⟨rfl,oz,Zbj hx hy g3 he⟩ t4 rfl
 try simp only [sQ,ne_eq] at g2
 refine ZE (ZV (ZH (Zw (Zo (Za (xA (h:=Ze ?_)))))))
 exact eR t1 ⟨Zd (eqT oz oz he),rfl,rfl⟩

theorem ZrX (q:Option Addr) (cp:Nat) (xs:List Str) (u:Str) (B:Kn) (ha:SlK B q cp 1 Zde xs):Zaa (pj J) 264 [.slice q xs.length cp,str u] B (.bool (decide (u∈xs))):=by
 refine cB 18 Tryz.func264 (h:=?_)
 have han:=ha.len
 refine Za (xA (h:=Zc (Za (xA (h:=Zh (Zz (α:=Nat) [0,1] (fun k=>[(5,.int .i64 k)]) [] (fun k=>[]) (fun k Bx=>Bx=B∧k≤xs.length∧∀x,x∈xs.take k→x≠u) (fun k=>xs.length - k) 0 t1 rfl (⟨rfl,Nat.zero_le _,by simp⟩) (fun k B1 hle1 hI=>?_)))))))
 obtain ⟨rfl,hk,hn⟩:=hI
 refine ZC [(0,_),(1,_),(5,_)] [] t3 rfl (Zc (Za (xM (h:=xM (h:=xV Tryz.underlying143 (h:=ZF (h:=Zb rfl (fun g1=>?_) (fun g1=>?_))))))))
 try simp only [sQ,ne_eq] at g1
 refine wSk (Zc (Zh (Za (xM (h:=xM (h:=?_))))))
 obtain ⟨x,hx⟩:=ZY (xs:=xs) (i:=k) om
 obtain ⟨bb3,oo3,rfl⟩:=ha.base hx
 obtain ⟨_,⟨rfl,hb4⟩,hc4⟩:=ha.elem hx
 refine xIx Tryz.underlying143 sz9 (h:=y1 lk9 hc4 0 (h:=xM (h:=Zdx (h:=Zb rfl (fun g2=>?_) (fun g2=>?_)))))
 try simp only [sQ,ne_eq] at g2
 refine Za (xA (h:=Ze (ZB (Zn (ZS (ZB (Zn ?_)))))))
 exact eR t1 ⟨Zd (ZzN hx g2),rfl,rfl⟩
 try simp only [sQ,ne_eq] at g2
 refine ZX (ZP (Zo (Zf (xM (h:=xD (h:=xA (h:=?_)))))))
 exact ZD (k+1) [] so2 ⟨rfl,oz,Zbg hx hn g2⟩ t3 rfl
 try simp only [sQ,ne_eq] at g1
 refine ZE (ZV (ZH (Zw (Zo (Za (xA (h:=Ze ?_)))))))
 exact eR t1 ⟨Zd (ZzO (Zbq oz hn)),rfl,rfl⟩

theorem ZnH (q:Option Addr) (cp:Nat) (xs:List Str) (B:Kn) (ha:SlK B q cp 1 Zde xs):Zaa (pj J) 223 [.slice q xs.length cp] B (.bool (ZcJ xs)):=by
 refine cB 29 Tryz.func223 (h:=?_)
 have han:=ha.len
 refine Za (xA (h:=Zc (Za (xA (h:=Zh (Zz (α:=Nat) [0] (fun k=>[(3,.int .i64 k)]) [] (fun k=>[]) (fun k Bx=>Bx=B∧k≤xs.length∧(xs.take k).all Zas=true∧(xs.take k).Nodup) (fun k=>xs.length - k) 0 t1 rfl (⟨rfl,Nat.zero_le _,by simp,by simp⟩) (fun k B1 hle1 hI=>?_)))))))
 obtain ⟨rfl,hk,hv,hn⟩:=hI
 refine ZC [(0,_),(3,_)] [] t2 rfl (Zc (Za (xM (h:=xM (h:=xV Tryz.underlying143 (h:=ZF (h:=Zb rfl (fun g1=>?_) (fun g1=>?_))))))))
 try simp only [sQ,ne_eq] at g1
 refine wSk (Zc (Zh (Zc (Z2 (same _ _) mo kr ⟨rfl,rfl⟩ (fun _ _=>?_)))))
 refine aM 0 rfl (h:=aM 1 rfl (h:=?_))
 obtain ⟨x,hx⟩:=ZY (xs:=xs) (i:=k) om
 obtain ⟨bb3,oo3,rfl⟩:=ha.base hx
 obtain ⟨_,⟨rfl,hb4⟩,hc4⟩:=ha.elem hx
 refine aIx 2 rfl Tryz.underlying143 sz9 (h:=aT 3 rfl (Zac fun D=>Zm rfl rfl lk9 rfl (hc4 _ 0 _ rfl) r4) (h:=aT 4 rfl (Zac fun D=>Z8 rfl rfl Zl4 rfl (Zco _ om2 _) r4) (h:=?_)))
 refine aN 5 rfl (h:=aM 6 rfl (h:=ZaF (d:=16) rfl (fun g2=>?_) (fun g2=>?_)))
 try simp only [sQ,ne_eq] at g2
 refine aZ 7 rfl (h:=aZ 8 rfl (h:=aZ 9 rfl (h:=aZ 10 rfl (h:=aZ 11 rfl (h:=aZ 12 rfl (h:=aZ 13 rfl (h:=aZ 14 rfl (h:=aPT 15 rfl (h:=Zt kr kr ?_)))))))))
 refine Zo (Zb (t:=true) rfl (fun _=>Za (xA (h:=Ze (ZB (Zn (ZS (ZB (Zn ?_)))))))) (fun h=>Bool.noConfusion h))
 exact eR t1 ⟨Zd (ZgK hx g2),rfl,rfl⟩
 try simp only [sQ,ne_eq] at g2
 refine aM 7 rfl (h:=aM 8 rfl (h:=?_))
 obtain ⟨hq6,q6,cp6,hv6,hr6⟩:=ha.cutE 0 k om om
 have hr6n:=hr6.len
 refine aT 9 rfl (Zac fun D=>Zoq (a:=0) (b:=k) hv6 om hq6 rfl rfl Tryz.underlying143 sz9 rfl rfl ⟨_,_,rfl,by first | omega | (simp;done) | (simp;omega)⟩ r4) (h:=?_)
 refine aM 10 rfl (h:=aM 11 rfl (h:=aIx 12 rfl Tryz.underlying143 sz9 (h:=aT 13 rfl (Zac fun D=>Zm rfl rfl lk9 rfl (hc4 _ 0 _ rfl) r4) (h:=aT 14 rfl (Zac fun D=>Z8 rfl rfl ZxK rfl (ZrX _ _ _ _ _ hr6) r4) (h:=aPF 15 rfl (h:=Zt kr kr ?_))))))
 refine Zo (Zb rfl (fun g3=>?_) (fun g3=>?_))
 try simp only [sQ,ne_eq] at g3
 refine Za (xA (h:=Ze (ZB (Zn (ZS (ZB (Zn ?_)))))))
 exact eR t1 ⟨Zd (ZgJ hx (by simpa using g3)),rfl,rfl⟩
 try simp only [sQ,ne_eq] at g3
 refine ZX (ZP (Zo (Zf (xM (h:=xD (h:=xA (h:=?_)))))))
 exact ZD (k+1) [] so2 ⟨rfl,oz,ZhU hx g2 hv,Zpb hx hn (by simpa using g3)⟩ t2 rfl
 try simp only [sQ,ne_eq] at g1
 refine ZE (ZV (ZH (Zw (Zo (Za (xM (h:=xV Tryz.underlying143 (h:=Zck (h:=xA (h:=Ze ?_))))))))))
 exact eR t1 ⟨Zd (Zhp oz hv hn),rfl,rfl⟩

theorem ZjT (q:Option Addr) (cp:Nat) (x:DLetter) (B:Kn) (ha:SlK B q cp 1 Zde x.to_) (h1:x.fr.length≤2000000) (h2:x.text.length≤2000000):Zaa (pj J) 160 [.agg #[str x.fr,.slice q x.to_.length cp,str x.text]] B (.bool (Zcy x)):=by
 refine cB 23 Tryz.func160 (h:=?_)
 refine Za (xBx [_,_,_] (h:=fun b1=>xA (h:=tL1 (Za (xW ZpV (h:=x1 lk9 0 (h:=xR Zl4 rfl (Zco _ om2 _) (h:=?_))))))))
 refine xM (h:=Zy (d:=6) rfl (fun g1=>?_) (fun g1=>?_))
 try simp only [sQ,ne_eq] at g1
 refine xW ZlY (h:=x1 Zft 0 (h:=xR Zx7 rfl (ZnH _ _ _ _ ha) (h:=xT (h:=xM (h:=Zy (d:=11) rfl (fun g2=>?_) (fun g2=>?_))))))
 try simp only [sQ,ne_eq] at g2
 refine xW ZlY (h:=x1 Zft 0 (h:=xV Tryz.underlying143 (h:=Zfi (h:=xT (h:=xM (h:=Zy (d:=17) rfl (fun g3=>?_) (fun g3=>?_)))))))
 try simp only [sQ,ne_eq] at g3
 refine xW ZpU (h:=x1 lk9 0 (h:=xVs Tryz.underlying9 (h:=Zck (h:=xT (h:=xA (h:=Ze ?_))))))
 exact eR t1 ⟨Zd (by rw [Bool.eq_iff_iff];simp [Zcy,g1,g2,g3];try omega),rfl,rfl⟩
 try simp only [sQ,ne_eq] at g3
 refine xP (h:=xP (h:=xP (h:=xP (h:=xF (h:=xA (h:=Ze ?_))))))
 exact eR t1 ⟨Zd (by rw [Bool.eq_iff_iff];simp [Zcy,g1,g2,g3];try omega),rfl,rfl⟩
 try simp only [sQ,ne_eq] at g2
 refine xP (h:=xP (h:=xP (h:=xP (h:=xF (h:=xM (h:=xP (h:=xP (h:=xP (h:=xP (h:=xF (h:=xA (h:=Ze ?_))))))))))))
 exact eR t1 ⟨Zd (by rw [Bool.eq_iff_iff];simp [Zcy,g1,g2];try omega),rfl,rfl⟩
 try simp only [sQ,ne_eq] at g1
 refine xP (h:=xP (h:=xP (h:=xF (h:=xM (h:=xP (h:=xP (h:=xP (h:=xP (h:=xF (h:=xM (h:=xP (h:=xP (h:=xP (h:=xP (h:=xF (h:=xA (h:=Ze ?_)))))))))))))))))
 exact eR t1 ⟨Zd (by rw [Bool.eq_iff_iff];simp [Zcy,g1];try omega),rfl,rfl⟩

theorem Zue (q:Option Addr) (cp:Nat) (xs:List Str) (v:Str) (B:Kn) (ha:SlK B q cp 1 Zde xs):Zaa (pj J) 276 [.slice q xs.length cp,str v] B (.int .i64 (Zxr xs v)):=by
 refine cB 19 Tryz.func276 (h:=?_)
 have han:=ha.len
 refine Za (xA (h:=Zc (Za (xM (h:=xV Tryz.underlying143 (h:=xM (h:=Zh (Zz (α:=Nat) [0,1,7] (fun k=>[(8,.int .i64 k)]) [] (fun k=>[]) (fun k Bx=>Bx=B∧k≤xs.length∧∀x,x∈xs.take k→decide (x=v)=false) (fun k=>xs.length - k) 0 t1 rfl (⟨rfl,Nat.zero_le _,by simp⟩) (fun k B1 hle1 hI=>?_)))))))))
 obtain ⟨rfl,hk,hn⟩:=hI
 refine ZC [(0,_),(1,_),(7,_),(8,_)] [] t4 rfl (Za (ZF (h:=Zc (Zb rfl (fun g1=>?_) (fun g1=>?_)))))
 try simp only [sQ,ne_eq] at g1
 refine wSk (Zc (Zh (Za (xM (h:=xA (h:=Za (xM (h:=xM (h:=xM (h:=?_))))))))))
 obtain ⟨x,hx⟩:=ZY (xs:=xs) (i:=k) om
 obtain ⟨bb3,oo3,rfl⟩:=ha.base hx
 obtain ⟨_,⟨rfl,hb4⟩,hc4⟩:=ha.elem hx
 refine xIx Tryz.underlying143 sz9 (h:=y1 lk9 hc4 0 (h:=Zdx (h:=Zb rfl (fun g2=>?_) (fun g2=>?_))))
 try simp only [sQ,ne_eq] at g2
 refine Za (xM (h:=xA (h:=Ze (ZB (Zn (ZS (ZB (Zn ?_))))))))
 exact eR t1 ⟨ZG (ZgX hx (by simp [g2]) hn).symm,rfl,rfl⟩
 try simp only [sQ,ne_eq] at g2
 refine ZX (ZP (Zo (Zf (xD (h:=xM (h:=?_))))))
 exact ZD (k+1) [] so2 ⟨rfl,oz,Zbg hx hn (by simp [Ne.symm g2])⟩ t4 rfl
 try simp only [sQ,ne_eq] at g1
 refine ZE (ZV (ZH (Zw (Zo (Za (xA (h:=Ze ?_)))))))
 exact eR t1 ⟨ZG (Zev (Zbq oz hn)).symm,rfl,rfl⟩

theorem Zn1 (q:Option Addr) (cp:Nat) (xs:List Str) (v:Str) (B:Kn) (ha:SlK B q cp 1 Zde xs):Zaa (pj J) 254 [.slice q xs.length cp,str v] B (.bool (decide (v∈xs))):=by
 refine cB 9 Tryz.func254 (h:=?_)
 refine Za (xA (h:=Za (xM (h:=xM (h:=xR ZxD rfl (Zue _ _ _ _ _ ha) (h:=Zek (h:=xA (h:=Ze ?_))))))))
 exact eR t1 ⟨Zd (by rw [Bool.eq_iff_iff];simp [Zr7]),rfl,rfl⟩

theorem Zlj (q:Option Addr) (cp:Nat) (xs:List Str) (B:Kn) (ha:SlK B q cp 1 Zde xs):Zaa (pj J) 199 [.slice q xs.length cp] B (.bool (decide (1≤xs.length) && ZcJ xs)):=by
 refine cB 31 Tryz.func199 (h:=?_)
 have han:=ha.len
 refine Za (xA (h:=Zc (Za (xM (h:=xV Tryz.underlying143 (h:=ZF (h:=xM (h:=Zy (d:=8) rfl (fun g1=>?_) (fun g1=>?_)))))))))
 try simp only [sQ,ne_eq] at g1
 refine xP (h:=xP (h:=xP (h:=xT (h:=Zb (t:=true) rfl (fun _=>Za (xA (h:=Ze (Zn ?_)))) (fun h=>Bool.noConfusion h)))))
 exact eR t1 ⟨Zd (by simp;omega),rfl,rfl⟩
 try simp only [sQ,ne_eq] at g1
 refine xM (h:=xV Tryz.underlying143 (h:=Zfi (h:=xF (h:=Zb rfl (fun g2=>?_) (fun g2=>?_)))))
 try simp only [sQ,ne_eq] at g2
 refine Za (xA (h:=Ze (Zn ?_)))
 exact eR t1 ⟨Zd (by simp [ZcJ];omega),rfl,rfl⟩
 try simp only [sQ,ne_eq] at g2
 refine wSk (Zc (Za (xM (h:=xV Tryz.underlying143 (h:=xM (h:=Zh (Zz (α:=Nat) [0,12,13,14] (fun k=>[(15,.int .i64 k)]) [] (fun k=>[]) (fun k Bx=>Bx=B∧k≤xs.length∧(xs.take k).all Zas=true∧(xs.take k).Nodup) (fun k=>xs.length - k) 0 t1 rfl (⟨rfl,Nat.zero_le _,by simp,by simp⟩) (fun k B1 hle1 hI=>?_))))))))
 obtain ⟨rfl,hk,hv,hn⟩:=hI
 refine ZC [(0,_),(12,_),(13,_),(14,_),(15,_)] [] t5 rfl (Za (ZF (h:=Zc (Zb rfl (fun g3=>?_) (fun g3=>?_)))))
 try simp only [sQ,ne_eq] at g3
 refine wSk (Zc (Zh (Za (xM (h:=?_)))))
 obtain ⟨x,hx⟩:=ZY (xs:=xs) (i:=k) om
 obtain ⟨bb3,oo3,rfl⟩:=ha.base hx
 obtain ⟨_,⟨rfl,hb4⟩,hc4⟩:=ha.elem hx
 refine xIx Tryz.underlying143 sz9 (h:=y1 lk9 hc4 0 (h:=xA (h:=xA (h:=Za (xM (h:=xR ZkC rfl (ZbW _ om2 _) (h:=?_)))))))
 refine xN (h:=xM (h:=Zy (d:=23) rfl (fun g4=>?_) (fun g4=>?_)))
 try simp only [sQ,ne_eq] at g4
 refine xP (h:=xP (h:=xP (h:=xP (h:=xP (h:=xT (h:=Zb (t:=true) rfl (fun _=>Za (xA (h:=Ze (ZB (Zn (ZS (ZB (Zn ?_)))))))) (fun h=>Bool.noConfusion h)))))))
 exact eR t1 ⟨Zd (by rw [← ZgK hx g4,Bool.and_false]),rfl,rfl⟩
 try simp only [sQ,ne_eq] at g4
 refine xM (h:=xM (h:=?_))
 obtain ⟨hq6,q6,cp6,hv6,hr6⟩:=ha.cutE 0 k om om
 have hr6n:=hr6.len
 refine Zk (Zoq (a:=0) (b:=k) hv6 om hq6 rfl rfl Tryz.underlying143 sz9 rfl rfl ⟨_,_,rfl,by first | omega | (simp;done) | (simp;omega)⟩ ?_)
 refine xM (h:=xR ZxO rfl (Zn1 _ _ _ _ _ hr6) (h:=xF (h:=Zb rfl (fun g5=>?_) (fun g5=>?_))))
 try simp only [sQ,ne_eq] at g5
 refine Za (xA (h:=Ze (ZB (Zn (ZS (ZB (Zn ?_)))))))
 exact eR t1 ⟨Zd (by rw [← ZgJ hx (by simpa using g5),Bool.and_false]),rfl,rfl⟩
 try simp only [sQ,ne_eq] at g5
 refine ZX (ZP (Zo (Zf (xD (h:=xM (h:=?_))))))
 exact ZD (k+1) [] so2 ⟨rfl,oz,ZhU hx g4 hv,Zpb hx hn (by simpa using g5)⟩ t5 rfl
 try simp only [sQ,ne_eq] at g3
 refine ZE (ZV (ZH (Zw (Zo (Za (xA (h:=Ze ?_)))))))
 exact eR t1 ⟨Zd (by rw [← Zhp oz hv hn];simp;omega),rfl,rfl⟩

theorem Zkn (q:Option Addr) (cp:Nat) (x:DLetter) (B:Kn) (ha:SlK B q cp 1 Zde x.to_) (h1:x.fr.length≤2000000) (h2:x.text.length≤2000000):Zaa (pj J) 142 [.agg #[str x.fr,.slice q x.to_.length cp,str x.text]] B (.bool (Zcy x)):=by
 refine cB 17 Tryz.func142 (h:=?_)
 refine Za (xBx [_,_,_] (h:=fun b1=>xA (h:=tL1 (Za (xW ZpV (h:=x1 lk9 0 (h:=xR ZkC rfl (ZbW _ om2 _) (h:=?_))))))))
 refine xM (h:=Zy (d:=6) rfl (fun g1=>?_) (fun g1=>?_))
 refine xW ZlY (h:=x1 Zft 0 (h:=xR Zyc rfl (Zlj _ _ _ _ ha) (h:=xT (h:=xM (h:=Zy (d:=11) rfl (fun g2=>?_) (fun g2=>?_))))))
 refine xW ZpU (h:=x1 lk9 0 (h:=xVs Tryz.underlying9 (h:=Zck (h:=xT (h:=xA (h:=Ze ?_))))))
 exact eR t1 ⟨Zd (by rw [Zep];simp [g1,g2]),rfl,rfl⟩
 refine xP (h:=xP (h:=xP (h:=xP (h:=xF (h:=xA (h:=Ze ?_))))))
 exact eR t1 ⟨Zd (by rw [Zep];simp [g1,g2]),rfl,rfl⟩
 refine xP (h:=xP (h:=xP (h:=xF (h:=xM (h:=xP (h:=xP (h:=xP (h:=xP (h:=xF (h:=xA (h:=Ze ?_)))))))))))
 exact eR t1 ⟨Zd (by rw [Zep];simp [g1]),rfl,rfl⟩

theorem Zlf (aq:Option Addr) (cq:Nat) (q:DQueue) (B:Kn) (hq:SlK B aq cq 4 ZI q.items):Zaa (pj J) 93 [.agg #[.int .i64 q.next,.slice aq q.items.length cq]] B (.bool (ZaX q)):=by
 refine cB 48 Tryz.func93 (h:=?_)
 have hqn:=hq.len
 refine Za (xBx [_,_] (h:=fun b1=>xA (h:=tL1 (Za (xA (h:=Zc (Za (xA (h:=Zh (Zz (α:=Nat × Int) [0,1] (fun p=>[(3,.int .i64 p.2),(4,.int .i64 p.1)]) [] (fun p=>[]) (fun p Bx=>Bx=B∧p.1≤q.items.length∧ZdA 0 q.items=ZdA p.2 (q.items.drop p.1)∧0≤p.2∧p.2≤99) (fun p=>q.items.length - p.1) (0,0) t2 rfl (⟨rfl,Nat.zero_le _,rfl,by decide,by decide⟩) (fun p B2 hle2 hI=>?_)))))))))))
 obtain ⟨rfl,hk,hs,hl0,hl1⟩:=hI
 refine ZC [(0,_),(1,_),(3,_),(4,_)] [_] t4 rfl (Zc (Za (xM (h:=xW ZbG (h:=x1 Zin 0 (h:=xV Tryz.underlying25 (h:=ZF (h:=Zb rfl (fun g1=>?_) (fun g1=>?_)))))))))
 try simp only [sQ,ne_eq] at g1
 refine wSk (Zc (Zh (Za (xW ZbG (h:=x1 Zin 0 (h:=xM (h:=?_)))))))
 obtain ⟨x,hx⟩:=ZY (xs:=q.items) (i:=p.1) om
 obtain ⟨bb4,oo4,rfl⟩:=hq.base hx
 obtain ⟨_,⟨qi5,ci5,rfl,hi5,hb5,hb5b⟩,hc5⟩:=hq.elem hx
 have hi5n:=hi5.len
 refine xIx Tryz.underlying25 Zbr (h:=?_)
 replace hs:=ZoW hs hx
 refine yL [_,_,_,_] Zeo hc5 0 (h:=xAl [_,_,_,_] Ze0 (h:=fun b6=>xS [_,_,_,_] 1 [_,_,_,_] Zbr (h:=tL2 (Zc (Za (xW Zd7 (h:=x1 lk3 1 (h:=xM (h:=xD (h:=xR Zjk rfl (ZfV _ _ _ _) (h:=xN (h:=xM (h:=Zy (d:=24) rfl (fun g2=>?_) (fun g2=>?_))))))))))))))
 try simp only [sQ,ne_eq] at g2
 refine xP (h:=xP (h:=xP (h:=xP (h:=xP (h:=xP (h:=xP (h:=xP (h:=xP (h:=xT (h:=Zb (t:=true) rfl (fun _=>Za (xA (h:=Ze (Zn (ZB (Zn (ZS (ZB (Zn ?_))))))))) (fun h=>Bool.noConfusion h)))))))))))
 exact eR t1 ⟨Zd (ZmB (by rw [hs,if_neg];intro h;simp [h.1] at g2)),rfl,rfl⟩
 try simp only [sQ,ne_eq] at g2
 simp only [Bool.and_eq_true,decide_eq_true_eq] at g2
 refine xW Zd6 (h:=x1 lk9 1 (h:=xW Zcs (h:=x1 Zft 1 (h:=xW Zfy (h:=x1 lk9 1 (h:=xB [(0,_),(1,_),(2,_)] [_,_,_] [_,_,_] ZvD Zu2 (h:=xR ZyC rfl (ZjT _ _ ⟨x.fr,x.left,x.text⟩ _ hi5 oa oa) (h:=?_))))))))
 refine xN (h:=xF (h:=Zb rfl (fun g3=>?_) (fun g3=>?_)))
 try simp only [sQ,ne_eq] at g3
 refine Za (xA (h:=Ze (Zn (ZB (Zn (ZS (ZB (Zn ?_))))))))
 exact eR t1 ⟨Zd (ZmB (by rw [hs,if_neg];intro h;rw [Zes,g3] at h;cases h.2)),rfl,rfl⟩
 try simp only [sQ,ne_eq] at g3
 refine wSk (Zf (xW Zd7 (h:=x1 lk3 1 (h:=xA (h:=ZP (Zo (Zf (xM (h:=xD (h:=xA (h:=?_)))))))))))
 exact ZD (p.1+1,x.id) [0] so2 ⟨rfl,so,by rw [hs,if_pos ⟨g2,g3⟩],so,so⟩ t4 rfl
 try simp only [sQ,ne_eq] at g1
 rw [Zqq oz,ZdA] at hs
 refine ZE (ZV (ZH (Zw (Zo (Za (xW Zf1 (h:=x1 lk3 0 (h:=xM (h:=xD (h:=xR Zjk rfl (ZfV _ _ _ _) (h:=xM (h:=Zy (d:=42) rfl (fun g1=>?_) (fun g1=>?_)))))))))))))
 try simp only [sQ,ne_eq] at g1
 refine xW ZbG (h:=x1 Zin 0 (h:=xV Tryz.underlying25 (h:=Zck (h:=xT (h:=xA (h:=Ze ?_))))))
 exact eR t1 ⟨Zd (by rw [← ZmA hs,Bool.eq_iff_iff];simp [g1,g1];try omega),rfl,rfl⟩
 try simp only [sQ,ne_eq] at g1
 refine xP (h:=xP (h:=xP (h:=xP (h:=xF (h:=xA (h:=Ze ?_))))))
 exact eR t1 ⟨Zd (by rw [← ZmA hs,Bool.eq_iff_iff];simp [g1,g1];try omega),rfl,rfl⟩

theorem Zar (aq:Option Addr) (cq:Nat) (q:DQueue) (B:Kn) (hq:SlK B aq cq 4 ZI q.items):Zv (pj J) 117 [.agg #[.int .i64 q.next,.slice aq q.items.length cq]] B [] (fun v B' Ls=>∃l a cp,Ls=[l]∧v = .agg #[.int .i64 q.next,.slice a q.items.length cp]∧ZN (B'.less B) l a cp 145 4 ZI q.items):=by
 refine cB 34 Tryz.func117 (h:=?_)
 have hqn:=hq.len
 refine Za (xBx [_,_] (h:=fun b1=>xAl [_,_] ZqV (h:=fun b2=>tL2 (Za (xW Zf1 (h:=x1 lk3 0 (h:=xBs [] [] Tryz.underlying25 Zbr Ze0 (h:=fun b3=>xB [(0,_),(1,_)] [_,_] [_,_] Zzk ZqV (h:=xAl [_,_] ZqV (h:=fun b4=>xS [_,_] 3 [_,_] ZtE (h:=tL4 (Zc (Za (xA (h:=Zh (Zz (α:=Gh DItem) [0,1,2,3] (fun g=>[(4,.int .i64 g.k)]) [2,3] (fun g=>[g.l,ZK b4 [.int .i64 q.next,.slice g.a g.xs.length g.c] 27]) (fun g Bx=>g.k≤q.items.length∧g.xs=q.items.take g.k∧ZN (Bx.less B) g.l g.a g.c 145 4 ZI g.xs) (fun g=>q.items.length - g.k) ⟨0,0,_,_,_,[]⟩ t1 rfl (⟨Nat.zero_le _,rfl,.lit0⟩) (fun g B5 hle5 hI=>?_)))))))))))))))))
 obtain ⟨hk,hxs,hv⟩:=hI
 have hxn:=congrArg List.length hxs
 rw [List.length_take] at hxn
 replace hq:=up1 hle5 hq
 refine ZC [(0,_),(1,_),(2,_),(3,_),(4,_)] [_,_,_,_] t5 rfl (Zc (Za (xM (h:=xW ZbG (h:=x1 Zin 0 (h:=xV Tryz.underlying25 (h:=ZF (h:=Zb rfl (fun g1=>?_) (fun g1=>?_)))))))))
 try simp only [sQ,ne_eq] at g1
 refine wSk (Zc (Zh (Za (xW ZbG (h:=x1 Zin 0 (h:=xM (h:=?_)))))))
 obtain ⟨x,hx⟩:=ZY (xs:=q.items) (i:=g.k) om
 obtain ⟨bb7,oo7,rfl⟩:=hq.base hx
 obtain ⟨_,⟨qi8,ci8,rfl,hi8,hb8,hb8b⟩,hc8⟩:=hq.elem hx
 have hi8n:=hi8.len
 refine xIx Tryz.underlying25 Zbr (h:=yL [_,_,_,_] Zeo hc8 0 (h:=xAl [_,_,_,_] Ze0 (h:=fun b9=>xS [_,_,_,_] 4 [_,_,_,_] Zbr (h:=tL5 (Za (xBs [] [] Tryz.underlying143 sz9 zo9 (h:=fun b10=>xW Zcs (h:=x1 Zft 4 (h:=Zk (Zch (R:=Zde) 5 rfl (ZN.lit0 (R:=Zde)) rfl rfl rfl Zqk Zrt rfl rfl rfl hi8.rows Zde.one rfl om (fun l11 p11 c11 hv11=>?_)))))))))))
 refine xW Zcs (h:=xS [_] 4 [_,_,_,_] ZtG (h:=tL6 (Zva 5 rfl hv11 Zde.any om3 hle5 (fun B12 hle12 hr12f=>?_))))
 have hr12:=hr12f.mono Zde.mono Kn.less_le
 replace hv:=hv.mono ZI.mono (Kn.less_mono hle12)
 have hr12n:=hr12.len
 refine Zf (xW ZbG (h:=x1 Zin 3 (h:=xL [_,_,_,_] Zeo 4 (h:=xBs [(0,_)] [_,_,_,_] Tryz.underlying25 Zbr Ze0 (h:=fun b13=>Zk (Zhc (z:=⟨x.id,x.fr,x.text,x.left⟩) (R:=ZI) 2 rfl hv rfl rfl rfl Zxw Zzi rfl rfl (ZcG.box 6 rfl) rfl rfl (⟨_,_,rfl,hr12f,by first | assumption | omega | (simp;done) | (simp;omega),by first | assumption | omega | (simp;done) | (simp;omega)⟩) om (fun l14 p14 c14 hv14=>?_)))))))
 refine xW ZbG (h:=xS [_] 3 [_,_] Zw9 (h:=ZP (Zo (Zf (xM (h:=xD (h:=xA (h:=?_))))))))
 exact ZD ⟨g.k+1,0,l14,p14,c14,(g.xs ++ [⟨x.id,x.fr,x.text,x.left⟩])⟩ [0,1,2,3] so2 ⟨so,by simp only [];rw [ZaV hx,hxs],hv14⟩ t5 rfl
 try simp only [sQ,ne_eq] at g1
 have hxe:g.xs=q.items:=by rw [hxs];exact List.take_of_length_le oz
 refine ZE (ZV (ZH (Zw (Zo (Za (xL [_,_] ZkX 3 (h:=xS [_,_] 1 [_,_] ZtE (h:=tL4 (Ze ?_)))))))))
 exact ZeC .ret (.inl rfl) [_] [2] rfl ⟨⟨_,rfl,.inr ⟨[_,_],ZkX,ZbT 1 rfl rfl rfl,rfl⟩⟩,trivial⟩ ⟨_,_,_,rfl,by rw [← hxe];rfl,hxe ▸ hv⟩

theorem ZlK (q:Option Addr) (cp:Nat) (x:DItem) (B:Kn) (hx:SlK B q cp 1 Zde x.left):Zv (pj J) 266 [.agg #[.int .i64 x.id,str x.fr,str x.text,.slice q x.left.length cp]] B [] (fun v B' Ls=>B'=B∧∃ins a c,Ls=[ins]∧v = .agg #[.int .i64 x.id,str x.fr,str x.text,.slice a x.left.length c]∧ZqP 9 ins a c x.left):=by
 refine cB 9 Tryz.func266 (h:=?_)
 have hxn:=hx.len
 refine Za (xBx [_,_,_,_] (h:=fun b1=>xAl [_,_,_,_] Ze0 (h:=fun b2=>tL2 (Za (xBs [] [] Tryz.underlying143 sz9 zo9 (h:=fun b3=>xW Zcs (h:=x1 Zft 0 (h:=Zk (Zch (R:=Zde) 2 rfl (ZN.lit0 (R:=Zde)) rfl rfl rfl Zqk Zrt rfl rfl rfl hx.rows Zde.one rfl om (fun l4 p4 c4 hv4=>?_))))))))))
 refine xW Zcs (h:=xS [_] 0 [_,_,_,_] ZtG (h:=tL3 (Za (xL [_,_,_,_] Zeo 0 (h:=xS [_,_,_,_] 1 [_,_,_,_] Zbr (h:=tL3 (Ze ?_)))))))
 exact eN [2] rfl ⟨⟨_,rfl,.inr ⟨[_,_,_,_],Zeo,ZbT 1 rfl rfl rfl,rfl⟩⟩,trivial⟩ ⟨rfl,_,_,_,rfl,rfl,(hv4).anyK Zde.any⟩

theorem Zn4 (q:Option Addr) (m cp:Nat) (B:Kn):Zv (pj J) 265 [.slice q m cp] B [] (fun v B' Ls=>B'=B∧∃b,Ls=[ZK b [.slice q m cp] 25]∧v = .func (.func 277) #[] #[ptr ⟨b,0,none⟩]):=by
 refine cB 4 Tryz.func265 (h:=?_)
 refine Za (xBx [_] (h:=fun b1=>xA (h:=tL1 (Za (Zk (Zdy (xs:=[]) (ys:=[_]) rfl rfl rfl rfl (xA (h:=Ze ?_))))))))
 exact eN [0] rfl t1 ⟨rfl,_,rfl,rfl⟩

theorem ZuQ (l bc:Nat) (q:Option Addr) (cp:Nat) (xs:List DItem) (Inv:Nat→Kn→Cells→Prop) (s0:Cells) (B:Kn) (hq:SlK B q cp 4 ZI xs) (hcc:Zau B bc 0 [.slice q xs.length cp]) (h0:Inv xs.length B s0) (hround :∀(j:Nat) (i:Int) (x:DItem) (row:List Value) (B':Kn) (s:Cells),B.le B'→Inv (j+1) B' s→xs[j]? = some x→ZI B' row x→∃lp,(l,Obj.loop lp)∈s∧lp.params.size=2∧ZqR (pj J) l lp.fn (ZkP lp.params lp.tmps [.int .i64 i,.agg row.toArray]) lp.assign lp.body B' s (fun B'' s'=>Inv j B'' s')):Zv (pj J) 277 [.func (.yield l) #[] #[],ptr ⟨bc,0,none⟩] B [s0] (fun v B' Ls=>∃s,Ls=[s]∧Inv 0 B' s):=by
 refine cB 19 Tryz.func277 (h:=?_)
 have hqn:=hq.len
 refine Za (Zk (Zm rfl rfl Zin rfl (hcc _ 0 _ rfl) (xV Tryz.underlying25 (h:=xU (h:=xA (h:=Zh (Zz (α:=Int × Cells) [0,1] (fun g=>[(3,.int .i64 g.1)]) [0] (fun g=>[g.2]) (fun g Bx=>-1≤g.1∧g.1<xs.length∧Inv (g.1+1).toNat Bx g.2) (fun g=>(g.1+1).toNat) ((xs.length:Int) - 1,s0) t1 rfl (⟨so,so,by rw [show ((xs.length:Int) - 1+1).toNat=xs.length from by omega];exact h0⟩) (fun g B1 hle1 hI=>?_))))))))
 obtain ⟨hk1,hk,hI⟩:=hI
 replace hq:=up1 hle1 hq
 replace hcc:=hcc.mono hle1
 refine ZC [(0,_),(1,_),(3,_)] [_] t3 rfl (Zc (Za (xM (h:=Zek (h:=Zb rfl (fun g1=>?_) (fun g1=>?_))))))
 try simp only [sQ,ne_eq] at g1
 refine wSk (Zc (Zh (Za (xM (h:=xM (h:=Zk (Zm rfl rfl Zin rfl (hcc _ 0 _ rfl) (xM (h:=?_)))))))))
 obtain ⟨x,hx⟩:=ZuY (xs:=xs) (i:=g.1) om om
 obtain ⟨bb3,oo3,rfl⟩:=hq.base hx
 obtain ⟨_,⟨qi4,ci4,rfl,hi4,hb4,hb4b⟩,hc4⟩:=hq.elem hx
 have hi4n:=hi4.len
 refine xIx Tryz.underlying25 Zbr (h:=?_)
 obtain ⟨lp,hl,hs,hr⟩:=hround g.1.toNat g.1 x _ _ g.2 (oy) (by rw [show g.1.toNat+1=(g.1+1).toNat from by omega];exact hI) hx ⟨_,_,rfl,oy,oy,oy⟩
 refine yL [_,_,_,_] Zeo hc4 0 (h:=Zk (Ztt (j:=0) rfl hl rfl rfl rfl rfl hs.symm hr (fun Bc sc hlec hIc=>xN (h:=tL1 (Zb rfl (fun g2=>by cases g2) (fun g2=>?_))))))
 try simp only [sQ,ne_eq] at g2
 refine ZX (ZP (Zo (Zf (xM (h:=xU (h:=xA (h:=?_)))))))
 exact ZD (g.1 - 1,sc) [0] so2 ⟨so,so,by simp only [];rw [show (g.1 - 1+1).toNat=g.1.toNat from by omega];exact hIc⟩ t3 rfl
 try simp only [sQ,ne_eq] at g1
 refine ZE (ZV (ZH (Zw ?_)))
 exact ZeC .normal (.inr rfl) [] [0] rfl trivial ⟨_,rfl,by rw [show (g.1+1).toNat=0 from by omega] at hI;exact hI⟩

theorem Zln (q:Option Addr) (cp:Nat) (x:DQueue) (B:Kn) (hx:SlK B q cp 4 ZI x.items):Zv (pj J) 227 [.agg #[.int .i64 x.next,.slice q x.items.length cp]] B [] (fun v B' Ls=>∃s,Ls=[s]∧Zgx 9 351 v x.items s):=by
 refine ZkM 17 Tryz.func227 rfl rfl rfl (Nat.le_of_ble_eq_true rfl) ?_
 refine Zem (xBx [_,_] (h:=fun b1=>xA (h:=ZoF [(0,_),(1,_),(2,_)] [_] t3 rfl (Zem (xAl [_] ZwI (h:=fun b2=>ZoF [(0,_),(1,_),(2,_),(3,_)] [_,_] t4 rfl (Zvs (Zem (xW ZbG (h:=x1 Zin 0 (h:=xC ZxJ rfl (Zn4 _ _ _ _) (h:=?_))))))))))))
 rintro _ B3 _ hle3 ⟨rfl,b3,rfl,rfl⟩
 refine ZoF [(0,_),(1,_),(2,_),(3,_),(8,_)] [_,_,_] t5 rfl (ZtC (Zw4 2 rfl (fun B4 hle4 hm4=>?_)))
 replace hx:=up1 hle4 hx
 have hcc:=ZbD hm4
 refine Zw3 [1] rfl (Zrl (J:=fun B' L'=>∃v s,L'=[ZK b2 [v] 314,s]∧Zgx 9 351 v x.items s) (cap:=[_]) rfl ZxC (fun lp l hTn hTS hps hasg hbd hst hlp=>?_) (fun r B9 L9 hle9 hJ=>?_))
 refine Zv.mono (ZuQ l _ _ _ x.items (fun j B9 s9=>∃v cells,s9.Perm ((l,Obj.loop lp) :: (ZK b2 [v] 314 ++ cells))∧Zgx 9 351 v (x.items.drop j) cells) _ _ hx hcc ⟨.pointer none,[],by simp,by rw [List.drop_length];exact ⟨rfl,rfl⟩⟩ ?_) ?_
 rintro j i y row B9 s9 hle9 ⟨v,cells,hp,hl⟩ hy hrow
 obtain ⟨qy,cy,rfl,hy5,hy6,hy7⟩:=hrow
 have hy5n:=hy5.len
 obtain ⟨p9,rfl⟩:=hl.ptr
 obtain ⟨hA,hN⟩:=ZsF (a:=9) (b:=10) (x:=.int .i64 i) (y:=.agg #[.int .i64 y.id,str y.fr,str y.text,.slice qy y.left.length cy]) hTS hTn rfl rfl
 refine ⟨lp,hp.mem_iff.2 (List.mem_cons_self ..),by rw [hps];rfl,?_⟩
 rw [hps,hasg,hbd]
 refine ZoY (L:=[ZK b2 [.pointer p9] 314,cells]) (lp:=lp) hN [(3,_),(9,_),(10,_)] (hA.sub t3) (by simpa using hp) hst ?_
 refine Zf (xAl [_,_,_,_] Ze0 (h:=fun b4=>xS [_,_,_,_] 3 [_,_,_,_] Zbr (h:=⟨rfl,rfl,rfl,(tL4 (Zh (Z2 (keeps _ [1,3] _) mo kr ⟨Kn.le.refl _,ZaY.refl _ _⟩ (fun _ _=>?_))))⟩)))
 refine aT 0 rfl (ZO fun D B L hI=>Z0 [_,_,_,_] rfl rfl Zeo rfl (ZbT 3 (hI.2.2.1.trans rfl) rfl rfl) r4) (h:=aT 2 rfl (ZO fun D B L hI=>Zm rfl rfl Zt4 rfl (atL 1 (hI.2.1.trans rfl) rfl rfl) r4) (h:=ZA 1 kr rfl kr (Zap rfl rfl ZxI rfl (ZlK _ _ y _ hy5) ?_)))
 rintro _ B5 _ hle5 ⟨rfl,ins5,a5,c5,rfl,rfl,hs5⟩
 refine ⟨⟨Kn.le.refl _,t2⟩,(aT 3 rfl (ZO fun D B L hI=>Zak (parts:=[(0,_),(1,_)]) [_,_,_,_,_] [_,_,_,_,_] rfl rfl Zxc ZwH rfl rfl rfl r4) (h:=ZA 4 kr rfl kr (Zos (l:=[_,_,_,_,_]) rfl rfl rfl rfl (fun b6=>?_))))⟩
 refine ⟨⟨Kn.le.refl _,t2⟩,(Zad 5 kr rfl kr kr kr (ZM [_] 1 [_] rfl rfl Zw8 rfl rfl rfl rfl rfl rfl rfl rfl ?_))⟩
 refine ZP (⟨rfl,rfl,(l,Obj.loop lp) :: (ZK b2 [ptr ⟨b6,0,none⟩] 314 ++ (ZK b6 ([.int .i64 y.id,str y.fr,str y.text,.slice a5 y.left.length c5] ++ [.pointer p9]) 351 ++ (ins5 ++ cells))),ZK b4 [.int .i64 y.id,str y.fr,str y.text,.slice qy y.left.length cy] 145,?_,_,_,.refl _,?_⟩)
 refine (Zaf [0,1,5,4,2] _ _ _ rfl).trans ?_
 rw [hlp]
 simp [ZK]
 rw [Zqp hy]
 exact ⟨_,_,_,_,_,rfl,.refl _,⟨_,_,rfl,hs5,oy,oy,oy⟩,hl⟩
 rintro _ B9 _ hle9 ⟨s9,rfl,v,cells,hp,hl⟩
 exact ⟨[ZK b2 [v] 314,cells],_,rfl,by simpa using hp,v,cells,rfl,by simpa using hl⟩
 obtain ⟨v,s9,rfl,hl⟩:=hJ
 refine ZP (Zo (Za (x1 Zt4 0 (h:=xA (h:=tL3 (Ze ?_))))))
 exact ⟨.inl rfl,r,2,rfl,rfl,[_],[_],t1,⟨_,List.perm_append_comm⟩,_,rfl,hl⟩

theorem Zo2 (nx:Int) (v:Value) (xs:List DItem) (cells:Cells) (B:Kn) (hn:xs.length≤2000000) (hv:Zgx 9 351 v xs cells):Zv (pj J) 226 [.int .i64 nx,v] B [cells] (fun v B' Ls=>B'=B∧∃l q c,Ls=[l]∧v = .agg #[.int .i64 nx,.slice q xs.length c]∧ZaP l q c 145 4 (ZaR 9) xs):=by
 refine cB 27 Tryz.func226 (h:=?_)
 obtain ⟨p,rfl⟩:=hv.ptr
 refine Za (xAl [_,_] ZqV (h:=fun b1=>tL2 (Za (xM (h:=xBs [] [] Tryz.underlying25 Zbr Ze0 (h:=fun b2=>xB [(0,_),(1,_)] [_,_] [_,_] Zzk ZqV (h:=xAl [_,_] ZqV (h:=fun b3=>xS [_,_] 3 [_,_] ZtE (h:=tL4 (Zc (Za (xM (h:=xA (h:=Zh (Zz (α:=QOf) [0,1,4,5] (fun g=>[(6,.pointer g.p)]) [0,2,3] (fun g=>[g.cells,g.l,ZK b3 [.int .i64 nx,.slice g.q g.ys.length g.c] 27]) (fun g Bx=>Bx=B∧g.ys ++ g.xs=xs∧ZaP g.l g.q g.c 145 4 (ZaR 9) g.ys∧Zgx 9 351 (.pointer g.p) g.xs g.cells) (fun g=>g.xs.length) ⟨p,[],xs,_,_,_,_⟩ t1 rfl (⟨rfl,rfl,.lit0,hv⟩) (fun g B4 hle4 hI=>?_))))))))))))))))
 obtain ⟨rfl,hxs,hvd,hl⟩:=hI
 refine ZC [(0,_),(1,_),(4,_),(5,_),(6,_)] [_,_,_,_] t5 rfl (Zc (Za (xM (h:=Zk (Zom rfl rfl rfl rfl rfl (Zf3 Tryz.underlying314) (Zb rfl (fun g1=>?_) (fun g1=>?_)))))))
 obtain ⟨y,ys,b8,q8,c8,np,ins8,rest8,hp8,hrest,hperm,hy5,hy6,hy7,hy8,hl8⟩:=hl.more (by simpa using g1)
 rw [hp8]
 have hlen:=congrArg List.length hxs
 rw [List.length_append,hrest,List.length_cons] at hlen
 replace hlen:g.ys.length+1≤2000000:=by omega
 refine Zel 0 rfl hperm (tL6 (wSk (Zc (Zh (Z2 (keeps _ [0,3] _) mo kr ⟨Kn.le.refl _,ZaY.refl _ _⟩ (fun _ _=>?_))))))
 refine aW 0 rfl ZbG (h:=aT 1 rfl (ZO fun D B L hI=>Zm rfl rfl Zin rfl (atL 3 (hI.2.2.1.trans rfl) rfl rfl) r4) (h:=aM 2 rfl (h:=aNc 3 rfl (h:=aW 4 rfl Zup (h:=aT 5 rfl (ZO fun D B L hI=>Z0 [_,_,_,_] rfl rfl Zeo rfl (ZbT 0 (hI.2.1.trans rfl) rfl rfl) r4) (h:=ZA 6 kr rfl kr (ZJ (parts:=[(0,_)]) [_,_,_,_] rfl rfl Tryz.underlying25 Zbr Ze0 rfl rfl rfl rfl rfl (fun b5=>?_))))))))
 refine ⟨⟨Kn.le.refl _,t2⟩,(ZA 7 kr rfl kr (Zvo (R:=ZaR 9) (z:=y) 2 4 rfl rfl rfl hvd rfl rfl rfl Zxw Zzi rfl rfl (ZcG.box 6 rfl) rfl rfl ⟨_,_,rfl,hy5,hy6,hy7,hy8⟩ oz (fun l9 q9 c9 hv9=>?_)))⟩
 refine ⟨⟨Kn.le.refl _,t2⟩,(aW 8 rfl ZbG (h:=Zad 9 kr rfl kr kr kr (ZM [_] 3 [_,_] rfl rfl Zw9 rfl rfl rfl rfl rfl rfl rfl rfl ?_)))⟩
 refine ZP (Zo (Zf (xM (h:=xNc (h:=xW Zuo (h:=x1 Zt4 0 (h:=xA (h:=?_))))))))
 exact ZD ⟨np,g.ys ++ [y],ys,l9,q9,c9,rest8⟩ [5,1,2,3] (by rw [hrest];simp) ⟨rfl,by rw [← hxs,hrest];simp,hv9,hl8⟩ t5 rfl
 rw [hl.done (by simpa using g1),List.append_nil] at hxs
 subst hxs
 refine ZE (ZV (ZH (Zw (Zo (Za (xL [_,_] ZkX 3 (h:=xS [_,_] 1 [_,_] ZtE (h:=tL4 (Ze ?_)))))))))
 exact eN [2] rfl ⟨⟨_,rfl,.inr ⟨[_,_],ZkX,ZbT 1 rfl rfl rfl,rfl⟩⟩,trivial⟩ ⟨rfl,_,_,_,rfl,rfl,hvd⟩

theorem Zj1 (q:Option Addr) (cp:Nat) (x:DQueue) (B:Kn) (hx:SlK B q cp 4 ZI x.items):Zv (pj J) 166 [.agg #[.int .i64 x.next,.slice q x.items.length cp]] B [] (fun v B' Ls=>∃l q c,Ls=[l]∧v = .agg #[.int .i64 x.next,.slice q x.items.length c]∧ZaP l q c 145 4 (ZaR 9) x.items):=by
 refine cB 8 Tryz.func166 (h:=?_)
 have hxn:=hx.len
 refine Za (xBx [_,_] (h:=fun b1=>xAl [_,_] ZqV (h:=fun b2=>tL2 (Zc (Z2 (keeps _ [0] _) mo kr ⟨Kn.le.refl _,ZaY.refl _ _⟩ (fun _ _=>?_))))))
 refine aW 0 rfl Zf1 (h:=aT 1 rfl (ZO fun D B L hI=>Zm rfl rfl lk3 rfl (atL 0 (hI.2.1.trans rfl) rfl rfl) r4) (h:=aT 2 rfl (ZO fun D B L hI=>Z0 [_,_] rfl rfl ZkX rfl (ZbT 0 (hI.2.1.trans rfl) rfl rfl) r4) (h:=ZA 3 kr rfl kr (Zap rfl rfl Zx4 rfl (Zln _ _ x _ hx) ?_))))
 rintro _ B3 _ hle3 ⟨sl3,rfl,hl3⟩
 refine ⟨⟨hle3,t1⟩,(ZA 4 kr rfl kr (Zby [2] rfl rfl rfl rfl Zx5 rfl (Zo2 _ _ _ _ _ oa hl3) ?_))⟩
 rintro _ B4 _ hle4 ⟨rfl,ld4,ad4,cd4,rfl,rfl,hd4⟩
 refine ⟨⟨hle3,t1⟩,(Zad 5 kr rfl kr kr kr (ZM [_,_] 1 [_,_] rfl rfl ZtE rfl rfl rfl rfl rfl rfl rfl rfl ?_))⟩
 refine Zo (tL3 (Ze ?_))
 exact eN [2] rfl ⟨⟨_,rfl,.inr ⟨[_,_],ZkX,ZbT 1 rfl rfl rfl,rfl⟩⟩,trivial⟩ ⟨_,_,_,rfl,rfl,hd4⟩

theorem ZpD (q:Option Addr) (m cp:Nat) (B:Kn):Zaa (pj J) 305 [.slice q m cp] B (.int .i64 m):=by
 refine cB 5 Tryz.func305 (h:=?_)
 refine Za (xA (h:=Za (xM (h:=xV Tryz.underlying279 (h:=xA (h:=Ze ?_))))))
 exact eR t1 ⟨rfl,rfl,rfl⟩

theorem ZfY (q:Option Addr) (cp:Nat) (xs:List Int) (i j:Nat) (a b:Int) (hi:xs[i]? = some a) (hj:xs[j]? = some b) (B:Kn) (hx:SlK B q cp 1 Zag xs):Zaa (pj J) 306 [.slice q xs.length cp,.int .i64 i,.int .i64 j] B (.bool (decide (a<b))):=by
 refine cB 16 Tryz.func306 (h:=?_)
 have hil:=Zbl hi
 have hjl:=Zbl hj
 refine Za (xA (h:=Zc (Z2 (same _ _) mo kr ⟨rfl,rfl⟩ (fun _ _=>?_))))
 refine aM 0 rfl (h:=aM 1 rfl (h:=?_))
 obtain ⟨z,hz⟩:=ZY (xs:=xs) (i:=i) om
 obtain ⟨bb2,oo2,rfl⟩:=hx.base hz
 obtain ⟨_,rfl,hc3⟩:=hx.elem hz
 refine aIx 2 rfl Tryz.underlying65 sz3 (h:=aT 3 rfl (Zac fun D=>Zm rfl rfl lk3 rfl (hc3 _ 0 _ rfl) r4) (h:=aM 4 rfl (h:=aM 5 rfl (h:=?_))))
 obtain ⟨w,hw⟩:=ZY (xs:=xs) (i:=j) om
 obtain ⟨_,rfl,hc5⟩:=hx.elem hw
 refine aIx 6 rfl Tryz.underlying65 sz3 (h:=?_)
 rw [hi] at hz
 cases hz
 rw [hj] at hw
 cases hw
 refine aT 7 rfl (Zac fun D=>Zm rfl rfl lk3 rfl (hc5 _ 0 _ rfl) r4) (h:=ZsJ 8 rfl (h:=aA 9 rfl (h:=Zt kr kr ?_)))
 refine Zo (Ze ?_)
 exact eR t1 ⟨rfl,rfl,rfl⟩

theorem Zr8 (b:Nat) (q:Option Addr) (cp:Nat) (xs:List Int) (l:Cells) (z:Int) (hn:xs.length≤2000000) (B:Kn) (hv:ZN B l q cp 3 1 Zag xs):Zv (pj J) 308 [ptr ⟨b,0,none⟩,.iface 3 (.int .i64 z)] B [ZK b [.slice q xs.length cp] 279,l] (fun v B' Ls=>B'=B∧∃q' c' l',Ls=[ZK b [.slice q' (xs ++ [z]).length c'] 279,l']∧ZN B l' q' c' 3 1 Zag (xs ++ [z])):=by
 refine cB 13 Tryz.func308 (h:=?_)
 refine Z2 (keeps _ [0] _) mo kr ⟨Kn.le.refl _,ZaY.refl _ _⟩ (fun _ _=>?_)
 refine aM 0 rfl (h:=aM 1 rfl (h:=aNc 2 rfl (h:=aT 3 rfl (ZO fun D B L hI=>Zm rfl rfl Ze2 rfl (atL 0 (hI.2.1.trans rfl) rfl rfl) r4) (h:=aM 4 rfl (h:=aT 5 rfl (ZO fun D B L hI=>ZjF rfl rfl Tryz.underlying3 rfl rfl r4) (h:=ZA 6 kr rfl kr (ZJ (parts:=[(0,_)]) [_] rfl rfl Tryz.underlying65 sz3 zo3 rfl rfl rfl rfl rfl (fun b1=>?_))))))))
 refine ⟨⟨Kn.le.refl _,t1⟩,(ZA 7 kr rfl kr (Zhc (z:=z) (R:=Zag) 1 rfl hv rfl rfl rfl Zxv Zxb rfl rfl (ZcG.box 2 rfl) rfl rfl (rfl) om (fun l2 p2 c2 hv2=>?_)))⟩
 refine ⟨⟨Kn.le.refl _,t1⟩,(aNc 8 rfl (h:=Zad 9 kr rfl kr kr kr (ZM [_] 0 [_] rfl rfl Zvx rfl rfl rfl rfl rfl rfl rfl rfl ?_)))⟩
 exact ZeC .normal (.inr rfl) [] [0,1] rfl trivial ⟨rfl,_,_,_,rfl,hv2⟩

theorem Zuh (b:Nat) (q:Option Addr) (cp:Nat) (xs:List Int) (l:Cells) (z:Int) (hz:xs[xs.length - 1]? = some z) (hn:xs.length≤2000000) (B:Kn) (hv:ZN B l q cp 3 1 Zag xs):Zv (pj J) 307 [ptr ⟨b,0,none⟩] B [ZK b [.slice q xs.length cp] 279,l] (fun v B' Ls=>B'=B∧v = .iface 3 (.int .i64 z)∧Ls=[ZK b [.slice q (xs.length - 1) cp] 279,l]∧ZN B l q cp 3 1 Zag (xs.take (xs.length - 1))):=by
 refine cB 25 Tryz.func307 (h:=?_)
 have hl1:=Zbl hz
 have hcp:=hv.cap
 have hv9:=hv.take (k:=xs.length - 1) oz
 have hs0:=hv.slice0 (sz:=1)
 refine Za (xA (h:=Za (xM (h:=xNc (h:=x1 Ze2 0 (h:=xV Tryz.underlying279 (h:=Zk (ZiG (r:=((xs.length - 1:Nat):Int)) rfl rfl rfl rfl (by rw [show ((xs.length:Int) - 1)=((xs.length - 1:Nat):Int) from by omega];exact Zcf oz oz) ?_))))))))
 refine xA (h:=Za (xM (h:=xNc (h:=x1 Ze2 0 (h:=xM (h:=?_))))))
 obtain ⟨w,hw⟩:=ZY (xs:=xs) (i:=(xs.length - 1)) om
 obtain ⟨bb2,_,hp2,rfl,hw2,hc2⟩:=hv.row hw
 refine xIp hp2 Tryz.underlying65 sz3 (h:=?_)
 rw [hz] at hw
 cases hw
 refine Zk (Zm rfl rfl lk3 rfl (hc2 _ 1 rfl 0 _ rfl) (xA (h:=Za (xM (h:=xM (h:=xNc (h:=x1 Ze2 0 (h:=xM (h:=Zk (Zmi rfl rfl Tryz.underlying65 sz3 rfl (a:=0) (b:=xs.length - 1) rfl ⟨_,_,rfl,rfl⟩ oz oz ?_))))))))))
 rw [hs0]
 refine xNc (h:=xS [_] 0 [_] Zvx (h:=tL2 (Za (xM (h:=Zk (ZdT rfl rfl Tryz.underlying3 rfl rfl (xA (h:=Ze ?_))))))))
 exact eN [0,1] rfl t1 ⟨rfl,rfl,rfl,hv9⟩

theorem ZfX (q:Option Addr) (cp:Nat) (xs:List Int) (l:Cells) (i j:Nat) (a b:Int) (hi:xs[i]? = some a) (hj:xs[j]? = some b) (hn:xs.length≤2000000) (B:Kn) (hv:ZN B l q cp 3 1 Zag xs):Zv (pj J) 309 [.slice q xs.length cp,.int .i64 i,.int .i64 j] B [l] (fun v B' Ls=>B'=B∧∃l',Ls=[l']∧ZN B l' q cp 3 1 Zag ((xs.set i b).set j a)):=by
 refine cB 20 Tryz.func309 (h:=?_)
 have hil:=Zbl hi
 have hjl:=Zbl hj
 refine Z2 (keeps _ [0] _) mo kr ⟨Kn.le.refl _,ZaY.refl _ _⟩ (fun _ _=>?_)
 refine aM 0 rfl (h:=aM 1 rfl (h:=aM 2 rfl (h:=aM 3 rfl (h:=aM 4 rfl (h:=aM 5 rfl (h:=?_))))))
 obtain ⟨y,hy⟩:=ZY (xs:=xs) (i:=j) om
 obtain ⟨bb2,_,hp2,rfl,hw2,hc2⟩:=hv.row hy
 refine aT 6 rfl (ZO fun D B L hI=>ZjE hp2 rfl rfl Tryz.underlying65 sz3 rfl rfl om om r4) (h:=?_)
 refine aT 7 rfl (ZO fun D B L hI=>Zm rfl rfl lk3 rfl (hc2 _ 0 (hI.2.1.trans rfl) 0 _ rfl) r4) (h:=aM 8 rfl (h:=aM 9 rfl (h:=?_)))
 obtain ⟨x,hx⟩:=ZY (xs:=xs) (i:=i) om
 obtain ⟨bb4,_,hp4,rfl,hw4,hc4⟩:=hv.row hx
 refine aT 10 rfl (ZO fun D B L hI=>ZjE hp4 rfl rfl Tryz.underlying65 sz3 rfl rfl om om r4) (h:=?_)
 refine aT 11 rfl (ZO fun D B L hI=>Zm rfl rfl lk3 rfl (hc4 _ 0 (hI.2.1.trans rfl) 0 _ rfl) r4) (h:=?_)
 obtain ⟨bb5,_,hp5,rfl,hw5,hc5⟩:=hv.row hx
 refine aT 12 rfl (ZO fun D B L hI=>ZjE hp5 rfl rfl Tryz.underlying65 sz3 rfl rfl om om r4) (h:=?_)
 refine Zbz 13 kr rfl kr kr (Zf8 (k:=i) (off:=0) (y) [_] 0 hv hp5 hx rfl rfl sz3 rfl rfl rfl rfl rfl rfl ((fun row h=>by cases h;rfl)) (fun l6 hv6=>?_))
 obtain ⟨w,hw⟩:=ZY (xs:=(xs.set i (y))) (i:=j) om
 obtain ⟨bb8,_,hp8,rfl,hw8,hc8⟩:=hv6.row hw
 refine aT 14 rfl (ZO fun D B L hI=>ZjE hp8 rfl rfl Tryz.underlying65 sz3 rfl rfl om om r4) (h:=?_)
 refine Zad 15 kr rfl kr kr kr (Zf8 (k:=j) (off:=0) (x) [_] 0 hv6 hp8 hw rfl rfl sz3 rfl rfl rfl rfl rfl rfl ((fun row h=>by cases h;rfl)) (fun l9 hv9=>?_))
 rw [hi] at hx
 cases hx
 rw [hj] at hy
 cases hy
 exact ZeC .normal (.inr rfl) [] [0] rfl trivial ⟨rfl,_,rfl,hv9⟩

theorem Zsb (b:Nat) (q:Option Addr) (cp:Nat) (xs:List Int) (l:Cells) (j:Nat) (hj:j<xs.length) (hn:xs.length≤2000000) (hh:ZfJ xs j) (B:Kn) (hv:ZN B l q cp 3 1 Zag xs):Zv (pj J) 255 [.iface 278 (ptr ⟨b,0,none⟩),.int .i64 j] B [ZK b [.slice q xs.length cp] 279,l] (fun v B' Ls=>B'=B∧∃ys l',Ls=[ZK b [.slice q ys.length cp] 279,l']∧ZN B l' q cp 3 1 Zag ys∧ys.Perm xs∧Zdg ys):=by
 refine cB 23 Tryz.func255 (h:=?_)
 refine Zh (Zz (α:=Nat × List Int × Cells) [0] (fun g=>[(1,.int .i64 g.1)]) [0,1] (fun g=>[ZK b [.slice q g.2.1.length cp] 279,g.2.2]) (fun g Bx=>Bx=B∧g.1<g.2.1.length∧g.2.1.Perm xs∧ZfJ g.2.1 g.1∧ZN B g.2.2 q cp 3 1 Zag g.2.1) (fun g=>g.1) (j,xs,l) t1 rfl (⟨rfl,hj,.refl _,hh,hv⟩) (fun g B1 hle1 hI=>?_))
 obtain ⟨rfl,hk,hp,hb,hv⟩:=hI
 have hpl:=hp.length_eq
 refine ZC [(0,_),(1,_)] [_,_] t2 rfl (Zh (Za (xM (h:=Zk (ZiG rfl rfl rfl rfl (Zcf oz oz) ?_)))))
 refine Zk (Zna (r:=(((g.1 - 1) / 2:Nat):Int)) rfl rfl rfl rfl oz (by rw [show Int.tdiv ((g.1:Int) - 1) 2=(((g.1 - 1) / 2:Nat):Int) from Zw0 g.1];exact Zcf oz oz) ?_)
 refine xA (h:=Zc (Za (xM (h:=xM (h:=ZjC (h:=xM (h:=Zy (d:=11) rfl (fun g1=>?_) (fun g1=>?_))))))))
 try simp only [sQ,ne_eq] at g1
 refine xP (h:=xP (h:=xP (h:=xP (h:=xP (h:=xT (h:=Zb (t:=true) rfl (fun _=>ZE (ZV (ZeQ rfl (ZH (Zw ?_))))) (fun h=>Bool.noConfusion h)))))))
 exact ZeC .normal (.inr rfl) [] [0,1] rfl trivial ⟨rfl,_,_,rfl,hv,hp,Ztx (by rw [show g.1=0 from by omega] at hb;exact hb)⟩
 try simp only [sQ,ne_eq] at g1
 refine xM (h:=xM (h:=xM (h:=Zk (Zfj 1 rfl rfl rfl Zqn rfl rfl (Za8 ZdF Tryz.underlying278 Ze2 (atL 0 rfl rfl rfl)) (Zaa.borrow fun hm2=>ZfY _ _ _ _ _ _ _ (ZaN oz) (ZaN oz) _ (hv.lend Zag.mono hm2 om)) ?_))))
 refine xN (h:=xF (h:=Zb rfl (fun g2=>?_) (fun g2=>?_)))
 try simp only [sQ,ne_eq] at g2
 refine ZE (ZV (ZeQ rfl (ZH (Zw ?_))))
 exact ZeC .normal (.inr rfl) [] [0,1] rfl trivial ⟨rfl,_,_,rfl,hv,hp,Ztz hb (by simpa using g2)⟩
 try simp only [sQ,ne_eq] at g2
 refine wSk (Za (xM (h:=xM (h:=xM (h:=Zk (ZgF [1] rfl rfl rfl rfl Zqm rfl rfl (Za8 ZdE Tryz.underlying278 Ze2 (atL 0 rfl rfl rfl)) (ZfX _ _ _ _ _ _ _ _ (ZaN oz) (ZaN oz) oz _ hv) ?_))))))
 rintro _ B3 _ hle3 ⟨rfl,l3,rfl,hv3⟩
 refine tL2 (Zf (xM (h:=xA (h:=ZP ?_))))
 rw [← Zc2 g.2.1 ((g.1 - 1) / 2) g.1]
 exact ZD ((g.1 - 1) / 2,(swp g.2.1 ((g.1 - 1) / 2) g.1),l3) [0,1] (so) ⟨rfl,by have:=Zc2 g.2.1 ((g.1 - 1) / 2) g.1;simp only [];omega,(ZfO oz oz).trans hp,Zty oz oz hb (by simpa using g2),hv3⟩ t2 rfl

theorem ZnO (b:Nat) (q:Option Addr) (cp:Nat) (xs:List Int) (l:Cells) (z:Int) (hn:xs.length<2000000) (hh:Zdg xs) (B:Kn) (hv:ZN B l q cp 3 1 Zag xs):Zv (pj J) 200 [.iface 278 (ptr ⟨b,0,none⟩),.iface 3 (.int .i64 z)] B [ZK b [.slice q xs.length cp] 279,l] (fun v B' Ls=>B'=B∧∃q' c' ys l',Ls=[ZK b [.slice q' ys.length c'] 279,l']∧ZN B l' q' c' 3 1 Zag ys∧ys.Perm (xs ++ [z])∧Zdg ys):=by
 refine cB 12 Tryz.func200 (h:=?_)
 refine Za (xM (h:=xM (h:=Zk (ZgF [0,1] rfl rfl rfl rfl ZxA rfl rfl (Zkx Zny Tryz.underlying278) (Zr8 _ _ _ _ _ _ oz _ hv) ?_))))
 rintro _ B1 _ hle1 ⟨rfl,q1,c1,l1,rfl,hv1⟩
 refine tL2 (Zf (xM (h:=xM (h:=Zk (Zfj 1 rfl rfl rfl Zwe rfl rfl (Za8 Zj7 Tryz.underlying278 Ze2 (atL 0 rfl rfl rfl)) (Zaa.borrow fun hm2=>ZpD _ _ _ _) (Zk (ZiG (r:=((xs.length:Nat):Int)) rfl rfl rfl rfl ((congrArg _ (show _=((xs.length:Nat):Int) from by rw [List.length_append,List.length_singleton];omega)).trans (Zcf oz oz)) ?_)))))))
 refine xK [0,1] rfl ZxN rfl (Zsb _ _ _ _ _ _ (by simp) (by simp;omega) (Zrz hh) _ hv1) (h:=?_)
 rintro _ Bu _ hleu ⟨rfl,ysu,lu,rfl,hvu,hpu,hhu⟩
 exact ZeC .normal (.inr rfl) [] [0,1] rfl trivial ⟨rfl,_,_,_,_,rfl,hvu,hpu,hhu⟩

theorem ZnQ (b:Nat) (q:Option Addr) (cp:Nat) (xs:List Int) (l:Cells) (m:Nat) (hm:m≤xs.length) (hm0:0<xs.length) (hn:xs.length≤2000000) (hh:ZeH xs m 0) (B:Kn) (hv:ZN B l q cp 3 1 Zag xs):Zv (pj J) 256 [.iface 278 (ptr ⟨b,0,none⟩),.int .i64 0,.int .i64 m] B [ZK b [.slice q xs.length cp] 279,l] (fun v B' Ls=>B'=B∧∃ys l',Ls=[ZK b [.slice q ys.length cp] 279,l']∧ZN B l' q cp 3 1 Zag ys∧ys.Perm xs∧ZsM ys m∧(∀k,m≤k→hat ys k=hat xs k)):=by
 refine cB 48 Tryz.func256 (h:=?_)
 refine Za (xA (h:=Za (xM (h:=xA (h:=Zc (Zh (Zz (α:=Nat × List Int × Cells) [0,1,2,6] (fun g=>[(7,.int .i64 g.1)]) [0,1] (fun g=>[ZK b [.slice q g.2.1.length cp] 279,g.2.2]) (fun g Bx=>Bx=B∧g.1<g.2.1.length∧g.2.1.Perm xs∧ZeH g.2.1 m g.1∧(∀k,m≤k→hat g.2.1 k=hat xs k)∧ZN B g.2.2 q cp 3 1 Zag g.2.1) (fun g=>xs.length - g.1) (0,xs,l) t1 rfl (⟨rfl,hm0,.refl _,hh,fun _ _=>rfl,hv⟩) (fun g B1 hle1 hI=>?_))))))))
 obtain ⟨rfl,hk,hp,hb,hs,hv⟩:=hI
 have hpl:=hp.length_eq
 refine ZC [(0,_),(1,_),(2,_),(6,_),(7,_)] [_,_] t5 rfl (Zh (Za (xM (h:=Zk (ZwV (r:=((2*g.1:Nat):Int)) rfl rfl rfl rfl ((congrArg _ (show _=((2*g.1:Nat):Int) from by omega)).trans (Zcf oz oz)) ?_)))))
 refine Zk (Zf9 (r:=((2*g.1+1:Nat):Int)) rfl rfl rfl rfl ((congrArg _ (show _=((2*g.1+1:Nat):Int) from by omega)).trans (Zcf oz oz)) ?_)
 refine xA (h:=Zc (Za (xM (h:=xM (h:=Zek (h:=xM (h:=Zy (d:=18) rfl (fun g1=>?_) (fun g1=>?_))))))))
 try simp only [sQ,ne_eq] at g1
 refine xP (h:=xP (h:=xT (h:=Zb (t:=true) rfl (fun _=>ZE (ZV (ZeQ rfl (ZH (Zw (Zo (Za (xM (h:=xM (h:=Zfi (h:=xA (h:=Ze ?_)))))))))))) (fun h=>Bool.noConfusion h))))
 exact eN [0,1] rfl t1 ⟨rfl,_,_,rfl,hv,hp,Zqr hb oz,hs⟩
 try simp only [sQ,ne_eq] at g1
 refine xM (h:=ZF (h:=xF (h:=Zb rfl (fun g2=>by have:=of_decide_eq_true g2;omega) (fun g2=>?_))))
 try simp only [sQ,ne_eq] at g2
 refine wSk (Za (xM (h:=xA (h:=Zc (Za (xM (h:=Zk (Zf9 (r:=((2*g.1+1+1:Nat):Int)) rfl rfl rfl rfl ((congrArg _ (show _=((2*g.1+1+1:Nat):Int) from by omega)).trans (Zcf oz oz)) ?_))))))))
 refine xA (h:=Za (xM (h:=xM (h:=ZF (h:=xM (h:=Zy (d:=28) rfl (fun g3=>?_) (fun g3=>?_)))))))
 try simp only [sQ,ne_eq] at g3
 refine xM (h:=xM (h:=xM (h:=Zk (Zfj 1 rfl rfl rfl Zqn rfl rfl (Za8 ZdF Tryz.underlying278 Ze2 (atL 0 rfl rfl rfl)) (Zaa.borrow fun hm2=>ZfY _ _ _ _ _ _ _ (ZaN oz) (ZaN oz) _ (hv.lend Zag.mono hm2 om)) ?_))))
 refine xT (h:=Zb rfl (fun g4=>?_) (fun g4=>?_))
 try simp only [sQ,ne_eq] at g4
 refine Zf (xM (h:=xA (h:=Zo (Zc (Za (xM (h:=xM (h:=xM (h:=Zk (Zfj 1 rfl rfl rfl Zqn rfl rfl (Za8 ZdF Tryz.underlying278 Ze2 (atL 0 rfl rfl rfl)) (Zaa.borrow fun hm3=>ZfY _ _ _ _ _ _ _ (ZaN oz) (ZaN oz) _ (hv.lend Zag.mono hm3 om)) ?_))))))))))
 refine xN (h:=Zb rfl (fun g5=>?_) (fun g5=>?_))
 try simp only [sQ,ne_eq] at g5
 refine ZE (ZV (ZeQ rfl (ZH (Zw (Zo (Za (xM (h:=xM (h:=Zfi (h:=xA (h:=Ze ?_)))))))))))
 exact eN [0,1] rfl t1 ⟨rfl,_,_,rfl,hv,hp,ZhM hb (by intro k h0 hk he;(try simp only [decide_eq_true_eq,decide_eq_false_iff_not,Bool.not_eq_true',Bool.not_eq_false',Int.not_lt] at *);rcases (show k=2*g.1+1∨k=2*g.1+1+1 from by omega) with rfl | rfl <;> omega),hs⟩
 try simp only [sQ,ne_eq] at g5
 refine wSk (Za (xM (h:=xM (h:=xM (h:=Zk (ZgF [1] rfl rfl rfl rfl Zqm rfl rfl (Za8 ZdE Tryz.underlying278 Ze2 (atL 0 rfl rfl rfl)) (ZfX _ _ _ _ _ _ _ _ (ZaN oz) (ZaN oz) oz _ hv) ?_))))))
 rintro _ B4 _ hle4 ⟨rfl,l4,rfl,hv4⟩
 refine tL2 (Zf (xM (h:=xA (h:=ZP ?_))))
 rw [← Zc2 g.2.1 g.1 (2*g.1+1+1)]
 have h5:hat g.2.1 (2*g.1+1+1)<hat g.2.1 g.1:=by simpa using g5
 exact ZD (2*g.1+1+1,(swp g.2.1 g.1 (2*g.1+1+1)),l4) [0,1] (so) ⟨rfl,by have:=Zc2 g.2.1 g.1 (2*g.1+1+1);simp only [];omega,(ZfO oz oz).trans hp,ZhL oz oz oz oz hb (by intro k h0 hk he;(try simp only [decide_eq_true_eq,decide_eq_false_iff_not,Bool.not_eq_true',Bool.not_eq_false',Int.not_lt] at *);rcases (show k=2*g.1+1∨k=2*g.1+1+1 from by omega) with rfl | rfl <;> omega) h5,(fun k hk=>by rw [Zew oz oz,if_neg oz,if_neg oz];exact hs k hk),hv4⟩ t5 rfl
 try simp only [sQ,ne_eq] at g4
 refine wSk (Zc (Za (xM (h:=xM (h:=xM (h:=Zk (Zfj 1 rfl rfl rfl Zqn rfl rfl (Za8 ZdF Tryz.underlying278 Ze2 (atL 0 rfl rfl rfl)) (Zaa.borrow fun hm5=>ZfY _ _ _ _ _ _ _ (ZaN oz) (ZaN oz) _ (hv.lend Zag.mono hm5 om)) ?_)))))))
 refine xN (h:=Zb rfl (fun g5=>?_) (fun g5=>?_))
 try simp only [sQ,ne_eq] at g5
 refine ZE (ZV (ZeQ rfl (ZH (Zw (Zo (Za (xM (h:=xM (h:=Zfi (h:=xA (h:=Ze ?_)))))))))))
 exact eN [0,1] rfl t1 ⟨rfl,_,_,rfl,hv,hp,ZhM hb (by intro k h0 hk he;(try simp only [decide_eq_true_eq,decide_eq_false_iff_not,Bool.not_eq_true',Bool.not_eq_false',Int.not_lt] at *);rcases (show k=2*g.1+1∨k=2*g.1+1+1 from by omega) with rfl | rfl <;> omega),hs⟩
 try simp only [sQ,ne_eq] at g5
 refine wSk (Za (xM (h:=xM (h:=xM (h:=Zk (ZgF [1] rfl rfl rfl rfl Zqm rfl rfl (Za8 ZdE Tryz.underlying278 Ze2 (atL 0 rfl rfl rfl)) (ZfX _ _ _ _ _ _ _ _ (ZaN oz) (ZaN oz) oz _ hv) ?_))))))
 rintro _ B6 _ hle6 ⟨rfl,l6,rfl,hv6⟩
 refine tL2 (Zf (xM (h:=xA (h:=ZP ?_))))
 rw [← Zc2 g.2.1 g.1 (2*g.1+1)]
 have h5:hat g.2.1 (2*g.1+1)<hat g.2.1 g.1:=by simpa using g5
 exact ZD (2*g.1+1,(swp g.2.1 g.1 (2*g.1+1)),l6) [0,1] (so) ⟨rfl,by have:=Zc2 g.2.1 g.1 (2*g.1+1);simp only [];omega,(ZfO oz oz).trans hp,ZhL oz oz oz oz hb (by intro k h0 hk he;(try simp only [decide_eq_true_eq,decide_eq_false_iff_not,Bool.not_eq_true',Bool.not_eq_false',Int.not_lt] at *);rcases (show k=2*g.1+1∨k=2*g.1+1+1 from by omega) with rfl | rfl <;> omega) h5,(fun k hk=>by rw [Zew oz oz,if_neg oz,if_neg oz];exact hs k hk),hv6⟩ t5 rfl
 try simp only [sQ,ne_eq] at g3
 refine xP (h:=xP (h:=xP (h:=xP (h:=xF (h:=Zb (t:=false) rfl (fun h=>Bool.noConfusion h) (fun _=>wSk (Zc (Za (xM (h:=xM (h:=xM (h:=Zk (Zfj 1 rfl rfl rfl Zqn rfl rfl (Za8 ZdF Tryz.underlying278 Ze2 (atL 0 rfl rfl rfl)) (Zaa.borrow fun hm7=>ZfY _ _ _ _ _ _ _ (ZaN oz) (ZaN oz) _ (hv.lend Zag.mono hm7 om)) ?_)))))))))))))
 refine xN (h:=Zb rfl (fun g5=>?_) (fun g5=>?_))
 try simp only [sQ,ne_eq] at g5
 refine ZE (ZV (ZeQ rfl (ZH (Zw (Zo (Za (xM (h:=xM (h:=Zfi (h:=xA (h:=Ze ?_)))))))))))
 exact eN [0,1] rfl t1 ⟨rfl,_,_,rfl,hv,hp,ZhM hb (by intro k h0 hk he;(try simp only [decide_eq_true_eq,decide_eq_false_iff_not,Bool.not_eq_true',Bool.not_eq_false',Int.not_lt] at *);rcases (show k=2*g.1+1∨k=2*g.1+1+1 from by omega) with rfl | rfl <;> omega),hs⟩
 try simp only [sQ,ne_eq] at g5
 refine wSk (Za (xM (h:=xM (h:=xM (h:=Zk (ZgF [1] rfl rfl rfl rfl Zqm rfl rfl (Za8 ZdE Tryz.underlying278 Ze2 (atL 0 rfl rfl rfl)) (ZfX _ _ _ _ _ _ _ _ (ZaN oz) (ZaN oz) oz _ hv) ?_))))))
 rintro _ B8 _ hle8 ⟨rfl,l8,rfl,hv8⟩
 refine tL2 (Zf (xM (h:=xA (h:=ZP ?_))))
 rw [← Zc2 g.2.1 g.1 (2*g.1+1)]
 have h5:hat g.2.1 (2*g.1+1)<hat g.2.1 g.1:=by simpa using g5
 exact ZD (2*g.1+1,(swp g.2.1 g.1 (2*g.1+1)),l8) [0,1] (so) ⟨rfl,by have:=Zc2 g.2.1 g.1 (2*g.1+1);simp only [];omega,(ZfO oz oz).trans hp,ZhL oz oz oz oz hb (by intro k h0 hk he;(try simp only [decide_eq_true_eq,decide_eq_false_iff_not,Bool.not_eq_true',Bool.not_eq_false',Int.not_lt] at *);rcases (show k=2*g.1+1∨k=2*g.1+1+1 from by omega) with rfl | rfl <;> omega) h5,(fun k hk=>by rw [Zew oz oz,if_neg oz,if_neg oz];exact hs k hk),hv8⟩ t5 rfl

theorem ZpF (b:Nat) (q:Option Addr) (cp:Nat) (xs:List Int) (l:Cells) (hm0:0<xs.length) (hn:xs.length≤2000000) (hh:Zdg xs) (B:Kn) (hv:ZN B l q cp 3 1 Zag xs):Zv (pj J) 201 [.iface 278 (ptr ⟨b,0,none⟩)] B [ZK b [.slice q xs.length cp] 279,l] (fun v B' Ls=>B'=B∧v = .iface 3 (.int .i64 (hat xs 0))∧∃ys l',Ls=[ZK b [.slice q ys.length cp] 279,l']∧ZN B l' q cp 3 1 Zag ys∧(hat xs 0 :: ys).Perm xs∧Zdg ys):=by
 refine cB 15 Tryz.func201 (h:=?_)
 refine Za (xA (h:=Za (xM (h:=Zk (Zfj 1 rfl rfl rfl Zwe rfl rfl (Za8 Zj7 Tryz.underlying278 Ze2 (atL 0 rfl rfl rfl)) (Zaa.borrow fun hm1=>ZpD _ _ _ _) (Zk (ZiG (r:=((xs.length - 1:Nat):Int)) rfl rfl rfl rfl ((congrArg _ (show _=((xs.length - 1:Nat):Int) from by omega)).trans (Zcf oz oz)) ?_)))))))
 refine xA (h:=Za (xM (h:=xM (h:=Zk (ZgF [1] rfl rfl rfl rfl Zqm rfl rfl (Za8 ZdE Tryz.underlying278 Ze2 (atL 0 rfl rfl rfl)) (ZfX _ _ _ _ _ _ _ _ (ZaN oz) (ZaN oz) oz _ hv) ?_)))))
 rintro _ Bs _ hles ⟨rfl,ls,rfl,hvs⟩
 refine tL2 ?_
 obtain ⟨zs,hzs,hzl⟩ :∃zs,zs=swp xs 0 (xs.length - 1)∧zs.length=xs.length:=⟨_,rfl,Zc2 _ _ _⟩
 have hzz:=hvs
 change ZN _ _ _ _ _ _ _ (swp xs 0 (xs.length - 1)) at hzz
 rw [← hzs] at hzz
 have hdb:ZeH zs (zs.length - 1) 0:=by rw [hzl,hzs];exact ZtO hh hm0
 have hlz:hat zs (zs.length - 1)=hat xs 0:=by rw [hzl,hzs];exact Zrs hm0
 have hpz:zs.Perm xs:=hzs ▸ ZfO hm0 oz
 rw [← hzl]
 refine Za (xM (h:=xM (h:=xK [0,1] rfl ZxM rfl (ZnQ _ _ _ _ _ _ oz oz oz hdb _ hzz) (h:=?_))))
 rintro _ Bd _ hled ⟨rfl,ysd,ld,rfl,hvd,hpd,hhd,hsd⟩
 refine tL2 ?_
 have hdl:=hpd.length_eq
 refine Za (xM (h:=Zk (ZgF [0,1] rfl rfl rfl rfl ZxB rfl rfl (Zkx Zpg Tryz.underlying278) (Zuh _ _ _ _ _ _ (ZaN oz) oz _ hvd) ?_)))
 rintro _ Bo _ hleo ⟨rfl,rfl,rfl,hvo⟩
 refine xA (h:=tL2 (Ze ?_))
 have hz9:hat ysd (ysd.length - 1)=hat xs 0:=by rw [hsd _ oz,hdl];exact hlz
 exact ZeC .ret (.inl rfl) [_] [0,1] rfl ⟨rfl,trivial⟩ ⟨rfl,by rw [hz9];rfl,_,_,by rw [show (ysd.take (ysd.length - 1)).length=ysd.length - 1 from by simp],hvo,ZrC (by omega) (hpd.trans hpz) hz9,ZnP (by rw [hdl];exact hhd) (by omega)⟩

theorem ZlM (q:Option Addr) (cp:Nat) (xs:List DItem) (last:Int) (B:Kn) (ha:SlK B q cp 4 ZI xs):Zaa (pj J) 143 [.slice q xs.length cp,.int .i64 last] B (.bool (asc 0 last (xs.map (·.id)))):=by
 refine cB 53 Tryz.func143 (h:=?_)
 have hxn:=ha.len
 refine Za (xA (h:=Za (xBs [] [] Tryz.underlying65 sz3 zo3 (h:=fun b1=>xBx [_] (h:=fun b2=>xA (h:=tL2 (Zc (Za (xM (h:=xV Tryz.underlying25 (h:=xM (h:=Zh (Zz (α:=Gh Int) [0,1,4,5,14,15] (fun g=>[(16,.int .i64 g.k)]) [0,1] (fun g=>[g.l,ZK b2 [.slice g.a g.xs.length g.c] 279]) (fun g Bx=>Bx=B∧g.k≤xs.length∧g.xs.Perm ((xs.take g.k).map (·.id))∧Zdg g.xs∧ZN Bx g.l g.a g.c 3 1 Zag g.xs) (fun g=>xs.length - g.k) ⟨0,0,_,_,_,[]⟩ t1 rfl (⟨rfl,Nat.zero_le _,.refl _,Zr9,.lit0⟩) (fun g B3 hle3 hI=>?_))))))))))))))
 obtain ⟨rfl,hk,hp,hh,hv⟩:=hI
 have hpl:=hp.length_eq
 rw [List.length_map,List.length_take] at hpl
 refine ZC [(0,_),(1,_),(4,_),(5,_),(14,_),(15,_),(16,_)] [_,_] t7 rfl (Za (ZF (h:=Zc (Zb rfl (fun g1=>?_) (fun g1=>?_)))))
 try simp only [sQ,ne_eq] at g1
 refine wSk (Zc (Zh (Za ?_)))
 obtain ⟨x,hx⟩:=ZY (xs:=xs) (i:=g.k) om
 obtain ⟨bb5,oo5,rfl⟩:=ha.base hx
 obtain ⟨_,⟨qi6,ci6,rfl,hi6,hb6,hb6b⟩,hc6⟩:=ha.elem hx
 have hi6n:=hi6.len
 refine xIx Tryz.underlying25 Zbr (h:=yL [_,_,_,_] Zeo hc6 0 (h:=xAl [_,_,_,_] Ze0 (h:=fun b7=>xS [_,_,_,_] 2 [_,_,_,_] Zbr (h:=tL3 (Zf (xM (h:=Zk (ZdT rfl rfl Tryz.underlying278 rfl rfl (xW Zd7 (h:=x1 lk3 2 (h:=Zk (ZdT rfl rfl Tryz.underlying3 rfl rfl (xK [1,0] rfl Zyb rfl (ZnO _ _ _ _ _ _ oz hh _ hv) (h:=?_))))))))))))))
 rintro _ Bp _ hlep ⟨rfl,qp,cp,ysp,lp,rfl,hvp,hpp,hhp⟩
 refine ZP (Zo (Zf (xD (h:=xM (h:=?_)))))
 exact ZD ⟨g.k+1,0,lp,_,_,ysp⟩ [0,1] so2 ⟨rfl,so,by simp only [];rw [ZaV hx,List.map_append];exact hpp.trans (hp.append_right _),hhp,hvp⟩ t7 rfl
 try simp only [sQ,ne_eq] at g1
 have hxe:xs.take g.k=xs:=List.take_of_length_le oz
 rw [hxe] at hp
 refine ZE (ZV (ZH (Zw (Zo (Za (xA (h:=Zc (Za (xM (h:=xV Tryz.underlying25 (h:=xM (h:=Zh (Zz (α:=Gh2 Int Int) [0,1,5,14,15,16,17,27,28] (fun h=>[(8,.int .i64 h.e),(29,.int .i64 h.k)]) [0,1] (fun h=>[h.l,ZK b2 [.slice h.a h.xs.length h.c] 279]) (fun h Bx=>Bx=B3∧h.k≤xs.length∧h.xs.Perm ((xs.drop h.k).map (·.id))∧Zdg h.xs∧asc 0 last (xs.map (·.id))=asc h.e last ((xs.drop h.k).map (·.id))∧ZN Bx h.l h.a h.c 3 1 Zag h.xs) (fun h=>xs.length - h.k) ⟨0,0,g.l,g.a,g.c,g.xs,0⟩ t2 rfl (⟨rfl,Nat.zero_le _,hp,hh,rfl,hv⟩) (fun h B9 hle9 hI=>?_))))))))))))))
 clear hv hp hpl hh
 obtain ⟨rfl,hk,hp,hh,hs,hv⟩:=hI
 have hpl:=hp.length_eq
 rw [List.length_map,List.length_drop] at hpl
 refine ZC [(0,_),(1,_),(5,_),(8,_),(14,_),(15,_),(16,_),(17,_),(27,_),(28,_),(29,_)] [_,_] t11 rfl (Za (ZF (h:=Zc (Zb rfl (fun g2=>?_) (fun g2=>?_)))))
 try simp only [sQ,ne_eq] at g2
 refine wSk (Zc (Zh (Za ?_)))
 obtain ⟨x,hx⟩:=ZY (xs:=xs) (i:=h.k) om
 obtain ⟨bb11,oo11,rfl⟩:=ha.base hx
 obtain ⟨_,⟨qi12,ci12,rfl,hi12,hb12,hb12b⟩,hc12⟩:=ha.elem hx
 have hi12n:=hi12.len
 refine xIx Tryz.underlying25 Zbr (h:=?_)
 rw [Zjl hx,List.map_cons] at hp hs
 refine yL [_,_,_,_] Zeo hc12 0 (h:=xAl [_,_,_,_] Ze0 (h:=fun b13=>xS [_,_,_,_] 2 [_,_,_,_] Zbr (h:=tL3 (Za (xM (h:=Zk (ZdT rfl rfl Tryz.underlying278 rfl rfl (xK [1,0] rfl Zya rfl (ZpF _ _ _ _ _ oz oz hh _ hv) (h:=?_)))))))))
 rintro _ Bo _ hleo ⟨rfl,rfl,yso,lo,rfl,hvo,hpo,hho⟩
 refine Zk (ZjF rfl rfl Tryz.underlying3 rfl rfl (xA (h:=tL3 (Zc (Za (xM (h:=xW Zd7 (h:=x1 lk3 2 (h:=ZaL (h:=xM (h:=Zy (d:=41) rfl (fun g3=>?_) (fun g3=>?_))))))))))))
 try simp only [sQ,ne_eq] at g3
 refine xP (h:=xP (h:=xP (h:=xT (h:=xM (h:=xP (h:=xP (h:=xP (h:=xT (h:=Zb (t:=true) rfl (fun _=>Za (xA (h:=Ze (Zn (ZB (Zn (ZS (ZB (Zn ?_))))))))) (fun h=>Bool.noConfusion h))))))))))
 exact eR t1 ⟨Zd (by rw [hs];exact ZsC hp hh (by simpa using g3)),rfl,rfl⟩
 try simp only [sQ,ne_eq] at g3
 refine xM (h:=xM (h:=Zck (h:=xF (h:=xM (h:=Zy (d:=46) rfl (fun g4=>?_) (fun g4=>?_))))))
 try simp only [sQ,ne_eq] at g4
 refine xP (h:=xP (h:=xP (h:=xT (h:=Zb (t:=true) rfl (fun _=>Za (xA (h:=Ze (Zn (ZB (Zn (ZS (ZB (Zn ?_))))))))) (fun h=>Bool.noConfusion h)))))
 exact eR t1 ⟨Zd (by rw [hs];exact ZsB (by rw [← g3];simpa using g4)),rfl,rfl⟩
 try simp only [sQ,ne_eq] at g4
 refine xM (h:=xM (h:=Zfi (h:=xF (h:=Zb rfl (fun g5=>?_) (fun g5=>?_)))))
 try simp only [sQ,ne_eq] at g5
 refine Za (xA (h:=Ze (Zn (ZB (Zn (ZS (ZB (Zn ?_))))))))
 exact eR t1 ⟨Zd (by rw [hs];exact ZsA (by rw [← g3];simpa using g5)),rfl,rfl⟩
 try simp only [sQ,ne_eq] at g5
 refine wSk (Zf (xM (h:=xA (h:=ZP (Zo (Zf (xD (h:=xM (h:=?_)))))))))
 exact ZD ⟨h.k+1,0,lo,_,_,yso,hat h.xs 0⟩ [0,1] so2 ⟨rfl,so,List.Perm.cons_inv ((show (x.id :: yso).Perm (hat h.xs 0 :: yso) from by rw [g3]).trans (hpo.trans hp)),hho,by simp only [];rw [hs,g3];exact Zwp (by rw [← g3];simpa using g4) (by rw [← g3];simpa using g5),hvo⟩ t11 rfl
 try simp only [sQ,ne_eq] at g2
 rw [Zqq oz,List.map_nil,asc] at hs
 refine ZE (ZV (ZH (Zw (Zo (Za (xA (h:=Ze ?_)))))))
 exact eR t1 ⟨Zd hs.symm,rfl,rfl⟩

theorem ZlL (aq:Option Addr) (cq:Nat) (q:DQueue) (B:Kn) (hq:SlK B aq cq 4 ZI q.items):Zaa (pj J) 83 [.agg #[.int .i64 q.next,.slice aq q.items.length cq]] B (.bool (ZaX q)):=by
 refine cB 42 Tryz.func83 (h:=?_)
 have hqn:=hq.len
 refine Za (xBx [_,_] (h:=fun b1=>xA (h:=tL1 (Zc (Za (xW ZbG (h:=x1 Zin 0 (h:=xV Tryz.underlying25 (h:=Zfi (h:=xM (h:=Zy (d:=9) rfl (fun g1=>?_) (fun g1=>?_))))))))))))
 try simp only [sQ,ne_eq] at g1
 refine xP (h:=xP (h:=xP (h:=xT (h:=xM (h:=xP (h:=xP (h:=xP (h:=xT (h:=Zb (t:=true) rfl (fun _=>Za (xA (h:=Ze (Zn ?_)))) (fun h=>Bool.noConfusion h))))))))))
 exact eR t1 ⟨Zd (Zgh oz),rfl,rfl⟩
 try simp only [sQ,ne_eq] at g1
 refine xW Zf1 (h:=x1 lk3 0 (h:=ZF (h:=xF (h:=xM (h:=Zy (d:=14) rfl (fun g2=>?_) (fun g2=>?_))))))
 try simp only [sQ,ne_eq] at g2
 refine xP (h:=xP (h:=xP (h:=xT (h:=Zb (t:=true) rfl (fun _=>Za (xA (h:=Ze (Zn ?_)))) (fun h=>Bool.noConfusion h)))))
 exact eR t1 ⟨Zd (Zgh oz),rfl,rfl⟩
 try simp only [sQ,ne_eq] at g2
 refine xW Zf1 (h:=x1 lk3 0 (h:=Zfi (h:=xF (h:=Zb rfl (fun g3=>?_) (fun g3=>?_)))))
 try simp only [sQ,ne_eq] at g3
 refine Za (xA (h:=Ze (Zn ?_)))
 exact eR t1 ⟨Zd (Zgh oz),rfl,rfl⟩
 try simp only [sQ,ne_eq] at g3
 refine wSk (Zc (Za (xW ZbG (h:=x1 Zin 0 (h:=xV Tryz.underlying25 (h:=xM (h:=Zh (Zz (α:=Nat) [0,1,18,20,21] (fun k=>[(22,.int .i64 k)]) [] (fun k=>[]) (fun k Bx=>Bx=B∧k≤q.items.length∧(q.items.take k).all Zes=true) (fun k=>q.items.length - k) 0 t1 rfl (⟨rfl,Nat.zero_le _,by simp⟩) (fun k B2 hle2 hI=>?_)))))))))
 obtain ⟨rfl,hk,ha⟩:=hI
 refine ZC [(0,_),(1,_),(18,_),(20,_),(21,_),(22,_)] [_] t6 rfl (Za (ZF (h:=Zc (Zb rfl (fun g4=>?_) (fun g4=>?_)))))
 try simp only [sQ,ne_eq] at g4
 refine wSk (Zc (Zh (Za ?_)))
 obtain ⟨x,hx⟩:=ZY (xs:=q.items) (i:=k) om
 obtain ⟨bb4,oo4,rfl⟩:=hq.base hx
 obtain ⟨_,⟨qi5,ci5,rfl,hi5,hb5,hb5b⟩,hc5⟩:=hq.elem hx
 have hi5n:=hi5.len
 refine xIx Tryz.underlying25 Zbr (h:=yL [_,_,_,_] Zeo hc5 0 (h:=xAl [_,_,_,_] Ze0 (h:=fun b6=>xS [_,_,_,_] 1 [_,_,_,_] Zbr (h:=tL2 (Za (xW Zd6 (h:=x1 lk9 1 (h:=xW Zcs (h:=x1 Zft 1 (h:=xW Zfy (h:=x1 lk9 1 (h:=xB [(0,_),(1,_),(2,_)] [_,_,_] [_,_,_] ZvD Zu2 (h:=xR ZyN rfl (Zkn _ _ ⟨x.fr,x.left,x.text⟩ _ hi5 oa oa) (h:=?_))))))))))))))
 refine xN (h:=Zb rfl (fun g5=>?_) (fun g5=>?_))
 try simp only [sQ,ne_eq] at g5
 refine Za (xA (h:=Ze (ZB (Zn (ZS (ZB (Zn ?_)))))))
 exact eR t1 ⟨Zd (Zlm hx g5),rfl,rfl⟩
 try simp only [sQ,ne_eq] at g5
 refine ZX (ZP (Zo (Zf (xD (h:=xM (h:=?_))))))
 exact ZD (k+1) [0] so2 ⟨rfl,oz,Zwq hx g5 ha⟩ t6 rfl
 try simp only [sQ,ne_eq] at g4
 refine ZE (ZV (ZH (Zw (Zo (Za (xW ZbG (h:=x1 Zin 0 (h:=xW Zf1 (h:=x1 lk3 0 (h:=xU (h:=xR ZyM rfl (ZlM _ _ _ _ _ hq) (h:=xA (h:=Ze ?_)))))))))))))
 exact eR t1 ⟨Zd (Zll oz ha oz oz oz),rfl,rfl⟩

theorem Zps (n:Int) (B:Kn):Zaa (pj J) 239 [.int .i64 n] B (.bool (decide (0≤n) && decide (n≤31))):=by
 refine cB 5 Tryz.func239 (h:=?_)
 refine Za (xA (h:=Za (xM (h:=xR Zjk rfl (ZfV _ _ _ _) (h:=xA (h:=Ze ?_))))))
 exact eR t1 ⟨rfl,rfl,rfl⟩

theorem Zfu (n:Int) (B:Kn):Zaa (pj J) 184 [.int .i64 n] B (.bool (decide (0≤n) && decide (n≤31))):=by
 refine cB 9 Tryz.func184 (h:=?_)
 refine Za (xA (h:=Za (xM (h:=Zek (h:=xM (h:=Zy (d:=5) rfl (fun g1=>?_) (fun g1=>?_)))))))
 refine xM (h:=Zck (h:=xT (h:=xA (h:=Ze ?_))))
 exact eR t1 ⟨Zd (by rw [Bool.eq_iff_iff];simp [g1];try omega),rfl,rfl⟩
 refine xP (h:=xP (h:=xF (h:=xA (h:=Ze ?_))))
 exact eR t1 ⟨Zd (by rw [Bool.eq_iff_iff];simp [g1];try omega),rfl,rfl⟩

theorem Zpx (m:DMail) (hm:m.text.length≤2000000) (B:Kn):Zaa (pj J) 181 [.agg #[.int .i64 m.uid,.int .i64 m.flags,str m.text]] B (.bool (Zcj m)):=by
 refine cB 17 Tryz.func181 (h:=?_)
 refine Za (xBx [_,_,_] (h:=fun b1=>xA (h:=tL1 (Za (xW Zeg (h:=x1 lk3 0 (h:=xR Zjk rfl (ZfV _ _ _ _) (h:=xM (h:=Zy (d:=6) rfl (fun g1=>?_) (fun g1=>?_))))))))))
 refine xW Zf0 (h:=x1 lk3 0 (h:=xR ZxT rfl (Zps _ _) (h:=xT (h:=xM (h:=Zy (d:=11) rfl (fun g2=>?_) (fun g2=>?_))))))
 refine xW ZfZ (h:=x1 lk9 0 (h:=xVs Tryz.underlying9 (h:=Zck (h:=xT (h:=xA (h:=Ze ?_))))))
 exact eR t1 ⟨Zd (by rw [Bool.eq_iff_iff];simp [Zcj,g1,g2];try omega),rfl,rfl⟩
 refine xP (h:=xP (h:=xP (h:=xP (h:=xF (h:=xA (h:=Ze ?_))))))
 exact eR t1 ⟨Zd (by rw [Bool.eq_iff_iff];simp [Zcj,g1,g2];try omega),rfl,rfl⟩
 refine xP (h:=xP (h:=xP (h:=xF (h:=xM (h:=xP (h:=xP (h:=xP (h:=xP (h:=xF (h:=xA (h:=Ze ?_)))))))))))
 exact eR t1 ⟨Zd (by rw [Bool.eq_iff_iff];simp [Zcj,g1];try omega),rfl,rfl⟩

theorem ZnJ (m:DMail) (hm:m.text.length≤2000000) (B:Kn):Zaa (pj J) 182 [.agg #[.int .i64 m.uid,.int .i64 m.flags,str m.text]] B (.bool (Zcj m)):=by
 refine cB 22 Tryz.func182 (h:=?_)
 refine Za (xBx [_,_,_] (h:=fun b1=>xA (h:=tL1 (Za (xW Zeg (h:=x1 lk3 0 (h:=Zek (h:=xM (h:=Zy (d:=6) rfl (fun g1=>?_) (fun g1=>?_))))))))))
 refine xW Zeg (h:=x1 lk3 0 (h:=Zck (h:=xT (h:=xM (h:=Zy (d:=11) rfl (fun g2=>?_) (fun g2=>?_))))))
 refine xW Zf0 (h:=x1 lk3 0 (h:=xR ZuJ rfl (Zfu _ _) (h:=xT (h:=xM (h:=Zy (d:=16) rfl (fun g3=>?_) (fun g3=>?_))))))
 refine xW ZfZ (h:=x1 lk9 0 (h:=xVs Tryz.underlying9 (h:=Zck (h:=xT (h:=xA (h:=Ze ?_))))))
 exact eR t1 ⟨Zd (by rw [Bool.eq_iff_iff];simp [Zcj,g1,g2,g3];try omega),rfl,rfl⟩
 refine xP (h:=xP (h:=xP (h:=xP (h:=xF (h:=xA (h:=Ze ?_))))))
 exact eR t1 ⟨Zd (by rw [Bool.eq_iff_iff];simp [Zcj,g1,g2,g3];try omega),rfl,rfl⟩
 refine xP (h:=xP (h:=xP (h:=xF (h:=xM (h:=xP (h:=xP (h:=xP (h:=xP (h:=xF (h:=xA (h:=Ze ?_)))))))))))
 exact eR t1 ⟨Zd (by rw [Bool.eq_iff_iff];simp [Zcj,g1,g2];try omega),rfl,rfl⟩
 refine xP (h:=xP (h:=xP (h:=xF (h:=xM (h:=xP (h:=xP (h:=xP (h:=xF (h:=xM (h:=xP (h:=xP (h:=xP (h:=xP (h:=xF (h:=xA (h:=Ze ?_))))))))))))))))
 exact eR t1 ⟨Zd (by rw [Bool.eq_iff_iff];simp [Zcj,g1];try omega),rfl,rfl⟩

theorem ZjV (q:Option Addr) (cp:Nat) (x:DBox) (B:Kn) (hx:SlK B q cp 3 Z6 x.mail):Zaa (pj J) 119 [.agg #[.int .i64 x.next,.slice q x.mail.length cp]] B (.bool (ZcF x)):=by
 refine cB 46 Tryz.func119 (h:=?_)
 have hxn:=hx.len
 refine Za (xBx [_,_] (h:=fun b1=>xA (h:=tL1 (Za (xA (h:=Zc (Za (xA (h:=Zh (Zz (α:=Nat × Int) [0,1] (fun g=>[(3,.int .i64 g.2),(4,.int .i64 g.1)]) [] (fun g=>[]) (fun g Bx=>Bx=B∧g.1≤x.mail.length∧ZcN (x.mail.take g.1)=(true,g.2)∧0≤g.2∧g.2≤99) (fun g=>x.mail.length - g.1) (0,0) t2 rfl (⟨rfl,Nat.zero_le _,Zfp,oz,oz⟩) (fun g B2 hle2 hI=>?_)))))))))))
 obtain ⟨rfl,hk,hs,hl0,hl1⟩:=hI
 refine ZC [(0,_),(1,_),(3,_),(4,_)] [_] t4 rfl (Zc (Za (xM (h:=xW Za9 (h:=x1 Zh0 0 (h:=xV Tryz.underlying91 (h:=ZF (h:=Zb rfl (fun g1=>?_) (fun g1=>?_)))))))))
 try simp only [sQ,ne_eq] at g1
 refine wSk (Zc (Zh (Zc (Za (xW Za9 (h:=x1 Zh0 0 (h:=xM (h:=?_))))))))
 obtain ⟨m,hm⟩:=ZY (xs:=x.mail) (i:=g.1) om
 obtain ⟨bb4,oo4,rfl⟩:=hx.base hm
 obtain ⟨_,⟨rfl,hb5⟩,hc5⟩:=hx.elem hm
 refine xIx Tryz.underlying91 Zf7 (h:=yL [_,_,_] ZmI hc5 0 (h:=xR Zyj rfl (Zpx m om2 _) (h:=?_)))
 refine xN (h:=xM (h:=Zy (d:=19) rfl (fun g2=>?_) (fun g2=>?_)))
 try simp only [sQ,ne_eq] at g2
 refine xP (h:=xP (h:=xP (h:=xP (h:=xP (h:=xP (h:=xP (h:=xP (h:=xT (h:=Zb (t:=true) rfl (fun _=>Za (xA (h:=Ze (Zn (ZB (Zn (ZS (ZB (Zn ?_))))))))) (fun h=>Bool.noConfusion h))))))))))
 exact eR t1 ⟨Zd (Zf4 (Zfq hm (by rw [show (scn ZcC (fun _ m=>m.uid) 0 (x.mail.take g.1)).2=g.2 from congrArg Prod.snd hs];simp [ZcC,g2]))).symm,rfl,rfl⟩
 try simp only [sQ,ne_eq] at g2
 refine xW Za9 (h:=x1 Zh0 0 (h:=xM (h:=xIx Tryz.underlying91 Zf7 (h:=xW Zeg (h:=y1 lk3 hc5 0 (h:=xM (h:=Zck (h:=xF (h:=Zb rfl (fun g3=>?_) (fun g3=>?_))))))))))
 try simp only [sQ,ne_eq] at g3
 refine Za (xA (h:=Ze (Zn (ZB (Zn (ZS (ZB (Zn ?_))))))))
 exact eR t1 ⟨Zd (Zf4 (Zfq hm (by rw [show (scn ZcC (fun _ m=>m.uid) 0 (x.mail.take g.1)).2=g.2 from congrArg Prod.snd hs];simp [ZcC,g2];omega))).symm,rfl,rfl⟩
 try simp only [sQ,ne_eq] at g3
 refine wSk (Zf (xW Za9 (h:=x1 Zh0 0 (h:=xM (h:=xIx Tryz.underlying91 Zf7 (h:=xW Zeg (h:=y1 lk3 hc5 0 (h:=xA (h:=ZP (Zo (Zf (xM (h:=xD (h:=xA (h:=?_)))))))))))))))
 exact ZD (g.1+1,m.uid) [0] so2 ⟨rfl,oz,Zcx hm hs (by simp [ZcC,g2];omega),Zim g2⟩ t4 rfl
 try simp only [sQ,ne_eq] at g1
 refine ZE (ZV (ZH (Zw (Zo (Za (xW ZeA (h:=x1 lk3 0 (h:=xM (h:=xD (h:=xR Zjk rfl (ZfV _ _ _ _) (h:=xM (h:=Zy (d:=40) rfl (fun g4=>?_) (fun g4=>?_)))))))))))))
 try simp only [sQ,ne_eq] at g4
 refine xW Za9 (h:=x1 Zh0 0 (h:=xV Tryz.underlying91 (h:=Zck (h:=xT (h:=xA (h:=Ze ?_))))))
 exact eR t1 ⟨Zd (by rw [ZeD (Zd1 hs oz),g4,Bool.true_and,Bool.eq_iff_iff];simp;omega),rfl,rfl⟩
 try simp only [sQ,ne_eq] at g4
 refine xP (h:=xP (h:=xP (h:=xP (h:=xF (h:=xA (h:=Ze ?_))))))
 exact eR t1 ⟨Zd (by rw [ZeD (Zd1 hs oz),g4,Bool.false_and]),rfl,rfl⟩

theorem Zhw (q:Option Addr) (cp:Nat) (x:DBox) (B:Kn) (hx:SlK B q cp 3 Z6 x.mail):Zaa (pj J) 120 [.agg #[.int .i64 x.next,.slice q x.mail.length cp]] B (.bool (ZcF x)):=by
 refine cB 38 Tryz.func120 (h:=?_)
 have hxn:=hx.len
 refine Za (xBx [_,_] (h:=fun b1=>xA (h:=tL1 (Zc (Za (xW Za9 (h:=x1 Zh0 0 (h:=xV Tryz.underlying91 (h:=Zfi (h:=Zb rfl (fun g0=>?_) (fun g0=>?_)))))))))))
 try simp only [sQ,ne_eq] at g0
 refine Za (xA (h:=Ze (Zn ?_)))
 exact eR t1 ⟨Zd (by simp [ZcF];omega),rfl,rfl⟩
 try simp only [sQ,ne_eq] at g0
 refine wSk (Za (xA (h:=Zc (Za (xW Za9 (h:=x1 Zh0 0 (h:=xV Tryz.underlying91 (h:=xM (h:=Zh (Zz (α:=Nat × Int) [0,1,9,11,12] (fun g=>[(3,.int .i64 g.2),(13,.int .i64 g.1)]) [] (fun g=>[]) (fun g Bx=>Bx=B∧g.1≤x.mail.length∧ZcN (x.mail.take g.1)=(true,g.2)∧0≤g.2∧g.2≤99) (fun g=>x.mail.length - g.1) (0,0) t2 rfl (⟨rfl,Nat.zero_le _,Zfp,oz,oz⟩) (fun g B2 hle2 hI=>?_)))))))))))
 obtain ⟨rfl,hk,hs,hl0,hl1⟩:=hI
 refine ZC [(0,_),(1,_),(3,_),(9,_),(11,_),(12,_),(13,_)] [_] t7 rfl (Za (ZF (h:=Zc (Zb rfl (fun g1=>?_) (fun g1=>?_)))))
 try simp only [sQ,ne_eq] at g1
 refine wSk (Zc (Zh (Za ?_)))
 obtain ⟨m,hm⟩:=ZY (xs:=x.mail) (i:=g.1) om
 obtain ⟨bb4,oo4,rfl⟩:=hx.base hm
 obtain ⟨_,⟨rfl,hb5⟩,hc5⟩:=hx.elem hm
 refine xIx Tryz.underlying91 Zf7 (h:=yL [_,_,_] ZmI hc5 0 (h:=xAl [_,_,_] Zn9 (h:=fun b6=>xS [_,_,_] 1 [_,_,_] Zf7 (h:=tL2 (Zc (Za (xL [_,_,_] ZmI 1 (h:=xR Zyi rfl (ZnJ m om2 _) (h:=?_)))))))))
 refine xN (h:=xM (h:=Zy (d:=20) rfl (fun g2=>?_) (fun g2=>?_)))
 try simp only [sQ,ne_eq] at g2
 refine xP (h:=xP (h:=xP (h:=xP (h:=xT (h:=Zb (t:=true) rfl (fun _=>Za (xA (h:=Ze (Zn (ZB (Zn (ZS (ZB (Zn ?_))))))))) (fun h=>Bool.noConfusion h))))))
 exact eR t1 ⟨Zd (Zf4 (Zfq hm (by rw [show (scn ZcC (fun _ m=>m.uid) 0 (x.mail.take g.1)).2=g.2 from congrArg Prod.snd hs];simp [ZcC,g2]))).symm,rfl,rfl⟩
 try simp only [sQ,ne_eq] at g2
 refine xW Zeg (h:=x1 lk3 1 (h:=xM (h:=Zck (h:=xF (h:=Zb rfl (fun g3=>?_) (fun g3=>?_))))))
 try simp only [sQ,ne_eq] at g3
 refine Za (xA (h:=Ze (Zn (ZB (Zn (ZS (ZB (Zn ?_))))))))
 exact eR t1 ⟨Zd (Zf4 (Zfq hm (by rw [show (scn ZcC (fun _ m=>m.uid) 0 (x.mail.take g.1)).2=g.2 from congrArg Prod.snd hs];simp [ZcC,g2];omega))).symm,rfl,rfl⟩
 try simp only [sQ,ne_eq] at g3
 refine wSk (Zf (xW Zeg (h:=x1 lk3 1 (h:=xA (h:=ZP (Zo (Zf (xD (h:=xM (h:=?_))))))))))
 exact ZD (g.1+1,m.uid) [0] so2 ⟨rfl,oz,Zcx hm hs (by simp [ZcC,g2];omega),Zim g2⟩ t7 rfl
 try simp only [sQ,ne_eq] at g1
 refine ZE (ZV (ZH (Zw (Zo (Za (xW ZeA (h:=x1 lk3 0 (h:=xM (h:=Zfi (h:=xM (h:=Zy (d:=33) rfl (fun g4=>?_) (fun g4=>?_))))))))))))
 try simp only [sQ,ne_eq] at g4
 refine xW ZeA (h:=x1 lk3 0 (h:=Zck (h:=xT (h:=xA (h:=Ze ?_)))))
 exact eR t1 ⟨Zd (by rw [ZeD (Zd1 hs oz),Bool.eq_iff_iff];simp;omega),rfl,rfl⟩
 try simp only [sQ,ne_eq] at g4
 refine xP (h:=xP (h:=xP (h:=xF (h:=xA (h:=Ze ?_)))))
 exact eR t1 ⟨Zd (by rw [ZeD (Zd1 hs oz),Bool.eq_iff_iff];simp;omega),rfl,rfl⟩

theorem Zpw (q:Option Addr) (cp:Nat) (x:DBox) (B:Kn) (hx:SlK B q cp 3 Z6 x.mail):Zaa (pj J) 163 [.agg #[.int .i64 x.next,.slice q x.mail.length cp]] B (.int .i64 (ZaA x.mail)):=by
 refine cB 22 Tryz.func163 (h:=?_)
 have hxn:=hx.len
 refine Za (xBx [_,_] (h:=fun b1=>xA (h:=tL1 (Za (xA (h:=Zc (Za (xA (h:=Zh (Zz (α:=Nat × Nat) [0,1,2] (fun g=>[(3,.int .i64 g.2),(4,.int .i64 g.1)]) [] (fun g=>[]) (fun g Bx=>Bx=B∧g.1≤x.mail.length∧g.2=ZaA (x.mail.take g.1)∧g.2≤g.1*2000000) (fun g=>x.mail.length - g.1) (0,0) t2 rfl (⟨rfl,Nat.zero_le _,by simp [ZaA],oz⟩) (fun g B2 hle2 hI=>?_)))))))))))
 obtain ⟨rfl,hk,hs,hl⟩:=hI
 refine ZC [(0,_),(1,_),(2,_),(3,_),(4,_)] [_] t5 rfl (Zc (Za (xM (h:=xW Za9 (h:=x1 Zh0 0 (h:=xV Tryz.underlying91 (h:=ZF (h:=Zb rfl (fun g1=>?_) (fun g1=>?_)))))))))
 try simp only [sQ,ne_eq] at g1
 refine wSk (Zc (Zh (Zf (xM (h:=xW Za9 (h:=x1 Zh0 0 (h:=xM (h:=?_))))))))
 obtain ⟨m,hm⟩:=ZY (xs:=x.mail) (i:=g.1) om
 obtain ⟨bb4,oo4,rfl⟩:=hx.base hm
 obtain ⟨_,⟨rfl,hb5⟩,hc5⟩:=hx.elem hm
 refine xIx Tryz.underlying91 Zf7 (h:=xW ZfZ (h:=y1 lk9 hc5 2 (h:=xVs Tryz.underlying9 (h:=xD (h:=xA (h:=ZP (Zo (Zf (xM (h:=xD (h:=xA (h:=?_))))))))))))
 exact ZD (g.1+1,g.2+m.text.length) [0] so2 ⟨rfl,oz,by rw [Zhh hm,← hs],oz⟩ t5 rfl
 try simp only [sQ,ne_eq] at g1
 refine ZE (ZV (ZH (Zw (Zo (Za (xM (h:=xA (h:=Ze ?_))))))))
 exact eR t1 ⟨ZG (by rw [← Zie hs oz]),rfl,rfl⟩

theorem ZqE (q:Option Addr) (cp:Nat) (x:DBox) (B:Kn) (hx:SlK B q cp 3 Z6 x.mail):Zaa (pj J) 242 [.agg #[.int .i64 x.next,.slice q x.mail.length cp]] B (.int .i64 (Zdw x)):=by
 refine cB 23 Tryz.func242 (h:=?_)
 have hxn:=hx.len
 refine Za (xBx [_,_] (h:=fun b1=>xA (h:=tL1 (Zc (Za (xL [_,_] ZgV 0 (h:=xR ZuL rfl (Zhw _ _ (⟨x.next,x.mail⟩:DBox) _ hx) (h:=xN (h:=Zb rfl (fun g0=>?_) (fun g0=>?_))))))))))
 try simp only [sQ,ne_eq] at g0
 refine Za (xA (h:=Ze (Zn ?_)))
 exact eR t1 ⟨ZG (by simp [Zdw,g0]),rfl,rfl⟩
 try simp only [sQ,ne_eq] at g0
 refine wSk (Za (xA (h:=Zc (Za (xW Za9 (h:=x1 Zh0 0 (h:=xV Tryz.underlying91 (h:=xM (h:=Zh (Zz (α:=Nat × Nat) [0,1,2,8,10,11] (fun g=>[(3,.int .i64 g.2),(12,.int .i64 g.1)]) [] (fun g=>[]) (fun g Bx=>Bx=B∧g.1≤x.mail.length∧g.2=ZaA (x.mail.take g.1)∧g.2≤g.1*2000000) (fun g=>x.mail.length - g.1) (0,0) t2 rfl (⟨rfl,Nat.zero_le _,by simp [ZaA],oz⟩) (fun g B3 hle3 hI=>?_)))))))))))
 obtain ⟨rfl,hk,hs,hl⟩:=hI
 refine ZC [(0,_),(1,_),(2,_),(3,_),(8,_),(10,_),(11,_),(12,_)] [_] t8 rfl (Za (ZF (h:=Zc (Zb rfl (fun g1=>?_) (fun g1=>?_)))))
 try simp only [sQ,ne_eq] at g1
 refine wSk (Zc (Zh (Za ?_)))
 obtain ⟨m,hm⟩:=ZY (xs:=x.mail) (i:=g.1) om
 obtain ⟨bb5,oo5,rfl⟩:=hx.base hm
 obtain ⟨_,⟨rfl,hb6⟩,hc6⟩:=hx.elem hm
 refine xIx Tryz.underlying91 Zf7 (h:=yL [_,_,_] ZmI hc6 0 (h:=xAl [_,_,_] Zn9 (h:=fun b7=>xS [_,_,_] 1 [_,_,_] Zf7 (h:=tL2 (Zf (xM (h:=xW ZfZ (h:=x1 lk9 1 (h:=xVs Tryz.underlying9 (h:=xD (h:=xA (h:=ZP (Zo (Zf (xD (h:=xM (h:=?_)))))))))))))))))
 exact ZD (g.1+1,g.2+m.text.length) [0] so2 ⟨rfl,oz,by rw [Zhh hm,← hs],oz⟩ t8 rfl
 try simp only [sQ,ne_eq] at g1
 refine ZE (ZV (ZH (Zw (Zo (Za (xM (h:=xA (h:=Ze ?_))))))))
 exact eR t1 ⟨ZG (by rw [Zdw,if_pos g0,← Zie hs oz]),rfl,rfl⟩

theorem Zrx (n:Int) (B:Kn):Zaa (pj J) 262 [.int .i64 n] B (.bool (decide (0≤n) && decide (n≤63))):=by
 refine cB 9 Tryz.func262 (h:=?_)
 refine Za (xA (h:=Za (xM (h:=Zek (h:=xM (h:=Zy (d:=5) rfl (fun g1=>?_) (fun g1=>?_)))))))
 refine xM (h:=Zck (h:=xT (h:=xA (h:=Ze ?_))))
 exact eR t1 ⟨Zd (by rw [Bool.eq_iff_iff];simp [g1];try omega),rfl,rfl⟩
 refine xP (h:=xP (h:=xF (h:=xA (h:=Ze ?_))))
 exact eR t1 ⟨Zd (by rw [Bool.eq_iff_iff];simp [g1];try omega),rfl,rfl⟩

theorem Zk4 (u:DUser) (h1:u.name.length≤2000000) (h2:u.pass.length≤2000000) (B:Kn):Zaa (pj J) 141 [.agg #[str u.name,str u.pass,.int .i64 u.quota]] B (.bool (ZcK u)):=by
 refine cB 26 Tryz.func141 (h:=?_)
 refine Za (xBx [_,_,_] (h:=fun b1=>xA (h:=tL1 (Za (xW Za7 (h:=x1 lk9 0 (h:=xR ZkC rfl (ZbW _ om2 _) (h:=?_))))))))
 refine xM (h:=Zy (d:=6) rfl (fun g1=>?_) (fun g1=>?_))
 try simp only [sQ,ne_eq] at g1
 refine xW Za7 (h:=x1 lk9 0 (h:=Ze5 (h:=xT (h:=xM (h:=Zy (d:=11) rfl (fun g2=>?_) (fun g2=>?_))))))
 try simp only [sQ,ne_eq] at g2
 refine xW Zfz (h:=x1 lk9 0 (h:=xR ZkC rfl (ZbW _ om2 _) (h:=?_)))
 refine xT (h:=xM (h:=Zy (d:=16) rfl (fun g3=>?_) (fun g3=>?_)))
 try simp only [sQ,ne_eq] at g3
 refine xW Zdu (h:=x1 lk3 0 (h:=Zek (h:=xT (h:=xM (h:=Zy (d:=21) rfl (fun g4=>?_) (fun g4=>?_))))))
 try simp only [sQ,ne_eq] at g4
 refine xW Zdu (h:=x1 lk3 0 (h:=Zck (h:=xT (h:=xA (h:=Ze ?_)))))
 exact eR t1 ⟨Zd (by rw [Bool.eq_iff_iff];simp [ZcK,anyone,g1,g2,g3,g4];try omega),rfl,rfl⟩
 try simp only [sQ,ne_eq] at g4
 refine xP (h:=xP (h:=xP (h:=xF (h:=xA (h:=Ze ?_)))))
 exact eR t1 ⟨Zd (by rw [Bool.eq_iff_iff];simp [ZcK,anyone,g1,g2,g3,g4];try omega),rfl,rfl⟩
 try simp only [sQ,ne_eq] at g3
 refine xP (h:=xP (h:=xP (h:=xF (h:=xM (h:=xP (h:=xP (h:=xP (h:=xF (h:=xA (h:=Ze ?_))))))))))
 exact eR t1 ⟨Zd (by rw [Bool.eq_iff_iff];simp [ZcK,anyone,g1,g2,g3];try omega),rfl,rfl⟩
 try simp only [sQ,ne_eq] at g2
 refine xP (h:=xP (h:=xP (h:=xF (h:=xM (h:=xP (h:=xP (h:=xP (h:=xF (h:=xM (h:=xP (h:=xP (h:=xP (h:=xF (h:=xA (h:=Ze ?_)))))))))))))))
 exact eR t1 ⟨Zd (by rw [Bool.eq_iff_iff];simp [ZcK,anyone,g1,g2];try omega),rfl,rfl⟩
 try simp only [sQ,ne_eq] at g1
 refine xP (h:=xP (h:=xP (h:=xF (h:=xM (h:=xP (h:=xP (h:=xP (h:=xF (h:=xM (h:=xP (h:=xP (h:=xP (h:=xF (h:=xM (h:=xP (h:=xP (h:=xP (h:=xF (h:=xA (h:=Ze ?_))))))))))))))))))))
 exact eR t1 ⟨Zd (by rw [Bool.eq_iff_iff];simp [ZcK,anyone,g1];try omega),rfl,rfl⟩

theorem Zhv (q:Option Addr) (cp:Nat) (us:List DUser) (B:Kn) (hu:SlK B q cp 3 Zs us):Zaa (pj J) 82 [.slice q us.length cp] B (.bool (Zax us)):=by
 refine cB 32 Tryz.func82 (h:=?_)
 have hun:=hu.len
 refine Za (xA (h:=Zc (Za (xM (h:=xV Tryz.underlying23 (h:=ZF (h:=xM (h:=Zy (d:=9) rfl (fun g0=>?_) (fun g0=>?_)))))))))
 try simp only [sQ,ne_eq] at g0
 refine xP (h:=xP (h:=xP (h:=xT (h:=Zb (t:=true) rfl (fun _=>Za (xA (h:=Ze (Zn ?_)))) (fun h=>Bool.noConfusion h)))))
 exact eR t1 ⟨Zd (by rw [Bool.eq_iff_iff];simp [Zax];omega),rfl,rfl⟩
 try simp only [sQ,ne_eq] at g0
 refine xM (h:=xV Tryz.underlying23 (h:=Zfi (h:=xF (h:=Zb rfl (fun g0b=>?_) (fun g0b=>?_)))))
 try simp only [sQ,ne_eq] at g0b
 refine Za (xA (h:=Ze (Zn ?_)))
 exact eR t1 ⟨Zd (by rw [Bool.eq_iff_iff];simp [Zax];omega),rfl,rfl⟩
 try simp only [sQ,ne_eq] at g0b
 refine wSk (Za (xA (h:=Zc (Za (xM (h:=xV Tryz.underlying23 (h:=xM (h:=Zh (Zz (α:=Nat × Str) [0,13,14,15] (fun g=>[(3,str g.2),(16,.int .i64 g.1)]) [] (fun g=>[]) (fun g Bx=>Bx=B∧g.1≤us.length∧ZdV (us.take g.1)=(true,g.2)∧g.2.length≤2000000) (fun g=>us.length - g.1) (0,[]) t2 rfl (⟨rfl,Nat.zero_le _,Zfp,by simp⟩) (fun g B1 hle1 hI=>?_))))))))))
 obtain ⟨rfl,hk,hs,hl⟩:=hI
 refine ZC [(0,_),(3,_),(13,_),(14,_),(15,_),(16,_)] [] t6 rfl (Za (ZF (h:=Zc (Zb rfl (fun g1=>?_) (fun g1=>?_)))))
 try simp only [sQ,ne_eq] at g1
 refine wSk (Zc (Zh (Za ?_)))
 obtain ⟨m,hm⟩:=ZY (xs:=us) (i:=g.1) om
 obtain ⟨bb3,oo3,rfl⟩:=hu.base hm
 obtain ⟨_,⟨rfl,hb4,hb4b⟩,hc4⟩:=hu.elem hm
 refine xIx Tryz.underlying23 Zbh (h:=yL [_,_,_] Ze3 hc4 0 (h:=xAl [_,_,_] ZdS (h:=fun b5=>xS [_,_,_] 0 [_,_,_] Zbh (h:=tL1 (Zc (Za (xL [_,_,_] Ze3 0 (h:=xR ZyO rfl (Zk4 m om2 om2 _) (h:=?_)))))))))
 refine xN (h:=xM (h:=Zy (d:=23) rfl (fun g2=>?_) (fun g2=>?_)))
 try simp only [sQ,ne_eq] at g2
 refine xP (h:=xP (h:=xP (h:=xP (h:=xT (h:=Zb (t:=true) rfl (fun _=>Za (xA (h:=Ze (Zn (ZB (Zn (ZS (ZB (Zn ?_))))))))) (fun h=>Bool.noConfusion h))))))
 exact eR t1 ⟨Zd (Zfl (Zfq hm (by rw [show (scn Zej (fun _ u=>u.name) [] (us.take g.1)).2=g.2 from congrArg Prod.snd hs];simp [Zej,g2]))).symm,rfl,rfl⟩
 try simp only [sQ,ne_eq] at g2
 refine xW Za7 (h:=x1 lk9 0 (h:=xM (h:=Zk (ZsU rfl rfl rfl rfl (xF (h:=Zb rfl (fun g3=>?_) (fun g3=>?_)))))))
 try simp only [sQ,ne_eq] at g3
 refine Za (xA (h:=Ze (Zn (ZB (Zn (ZS (ZB (Zn ?_))))))))
 exact eR t1 ⟨Zd (Zfl (Zfq hm (by rw [show (scn Zej (fun _ u=>u.name) [] (us.take g.1)).2=g.2 from congrArg Prod.snd hs,Zej,Zbt g.2 m.name,g3];simp))).symm,rfl,rfl⟩
 try simp only [sQ,ne_eq] at g3
 refine wSk (Zf (xW Za7 (h:=x1 lk9 0 (h:=xA (h:=ZP (Zo (Zf (xD (h:=xM (h:=?_))))))))))
 exact ZD (g.1+1,m.name) [] so2 ⟨rfl,oz,Zcx hm hs (by rw [Zej,Zbt g.2 m.name,g2,g3];rfl),oy⟩ t6 rfl
 try simp only [sQ,ne_eq] at g1
 refine ZE (ZV (ZH (Zw (Zo (Za (xA (h:=Ze ?_)))))))
 exact eR t1 ⟨Zd (by rw [Zhd (Zd1 hs oz),Bool.eq_iff_iff];simp;omega),rfl,rfl⟩

theorem ZjI (x:DUser) (u:Str) (b:Nat) (h1:x.name.length≤2000000) (h2:u.length≤2000000) (B:Kn) (hb:Zau B b 0 [str u]):Zaa (pj J) 241 [.agg #[str x.name,str x.pass,.int .i64 x.quota],ptr ⟨b,0,none⟩] B (.bool (decide (x.name=u))):=by
 refine cB 8 Tryz.func241 (h:=?_)
 refine Za (xBx [_,_,_] (h:=fun b1=>xA (h:=tL1 (Za (xW Za7 (h:=x1 lk9 0 (h:=Zk (Zm rfl rfl lk9 rfl (hb _ 0 _ rfl) (Zdx (h:=xA (h:=Ze ?_)))))))))))
 exact eR t1 ⟨rfl,rfl,rfl⟩

theorem Zqa (q:Option Addr) (cp:Nat) (us:List DUser) (F:FuncId) (cap:Array Value) (t:DUser→Bool) (B:Kn) (hu:SlK B q cp 3 Zs us) (he:enters (pj J) F=true) (hF :∀x:DUser,x.name.length≤2000000→x.pass.length≤2000000→Zaa (pj J) F ([.agg #[str x.name,str x.pass,.int .i64 x.quota]] ++ cap.toList) B (.bool (t x))):Zaa (pj J) 240 [.slice q us.length cp,.func (.func F) #[] cap] B (.tuple #[.agg #[str (ZfB t us).1.name,str (ZfB t us).1.pass,.int .i64 (ZfB t us).1.quota],.bool (ZfB t us).2]):=by
 refine cB 21 Tryz.func240 (h:=?_)
 have hun:=hu.len
 refine Za (xAl [_,_,_] ZdS (h:=fun b1=>xA (h:=tL1 (Zc (Za (xM (h:=xV Tryz.underlying23 (h:=xM (h:=Zh (Zz (α:=Nat) [0,1,4,9,10] (fun k=>[(11,.int .i64 k)]) [] (fun k=>[]) (fun k Bx=>Bx=B∧k≤us.length∧∀y,y∈us.take k→t y=false) (fun k=>us.length - k) 0 t1 rfl (⟨rfl,Nat.zero_le _,by simp⟩) (fun k B2 hle2 hI=>?_)))))))))))
 obtain ⟨rfl,hk,ha⟩:=hI
 refine ZC [(0,_),(1,_),(4,_),(9,_),(10,_),(11,_)] [_] t6 rfl (Za (ZF (h:=Zc (Zb rfl (fun g1=>?_) (fun g1=>?_)))))
 try simp only [sQ,ne_eq] at g1
 refine wSk (Zc (Zh (Za ?_)))
 obtain ⟨m,hm⟩:=ZY (xs:=us) (i:=k) om
 obtain ⟨bb4,oo4,rfl⟩:=hu.base hm
 obtain ⟨_,⟨rfl,hb5,hb5b⟩,hc5⟩:=hu.elem hm
 refine xIx Tryz.underlying23 Zbh (h:=yL [_,_,_] Ze3 hc5 0 (h:=xAl [_,_,_] ZdS (h:=fun b6=>xS [_,_,_] 1 [_,_,_] Zbh (h:=tL2 (Za (xM (h:=xL [_,_,_] Ze3 1 (h:=Zk (ZsP rfl rfl he rfl rfl (hF m om2 om2) ?_)))))))))
 refine Zb rfl (fun g2=>?_) (fun g2=>?_)
 try simp only [sQ,ne_eq] at g2
 refine Za (xL [_,_,_] Ze3 1 (h:=xS [_,_,_] 0 [_,_,_] Zbh (h:=xA (h:=tL2 (Ze (ZB (Zn (ZS (ZB (Zn ?_))))))))))
 exact Zql .ret (.inl rfl) [_,_] ⟨⟨_,rfl,.inr ⟨[_,_,_],Ze3,ZbT 0 rfl rfl rfl,rfl⟩⟩,rfl,trivial⟩ ⟨by rw [Zp9 hm g2 ha];rfl,rfl,rfl⟩
 try simp only [sQ,ne_eq] at g2
 refine ZX (ZP (Zo (Zf (xD (h:=xM (h:=?_))))))
 exact ZD (k+1) [0] so2 ⟨rfl,oz,Zbg hm ha g2⟩ t6 rfl
 try simp only [sQ,ne_eq] at g1
 refine ZE (ZV (ZH (Zw (Zo (Za (xAl [_,_,_] ZdS (h:=fun b8=>tL2 (Za (xL [_,_,_] Ze3 1 (h:=xS [_,_,_] 0 [_,_,_] Zbh (h:=xA (h:=tL2 (Ze ?_)))))))))))))
 exact Zql .ret (.inl rfl) [_,_] ⟨⟨_,rfl,.inr ⟨[_,_,_],Ze3,ZbT 0 rfl rfl rfl,rfl⟩⟩,rfl,trivial⟩ ⟨by rw [ZnV (Zbq oz ha)];rfl,rfl,rfl⟩

theorem Zhf (q:Option Addr) (cp:Nat) (us:List DUser) (nm:Str) (hn:nm.length≤2000000) (B:Kn) (hu:SlK B q cp 3 Zs us):Zaa (pj J) 186 [.slice q us.length cp,str nm] B (.tuple #[.agg #[str (ZaH us nm).1.name,str (ZaH us nm).1.pass,.int .i64 (ZaH us nm).1.quota],.bool (ZaH us nm).2]):=by
 refine cB 15 Tryz.func186 (h:=?_)
 have hun:=hu.len
 refine Za (xBx [_] (h:=fun b1=>xAl [_,_,_] ZdS (h:=fun b2=>xA (h:=tL2 (Zc (Za (xM (h:=xR Zzv rfl (Zhv _ _ _ _ hu) (h:=xN (h:=Zb rfl (fun g0=>?_) (fun g0=>?_)))))))))))
 try simp only [sQ,ne_eq] at g0
 refine Za (xB [] [_,_,_] [_,_,_] Zxf ZdS (h:=xS [_,_,_] 1 [_,_,_] Zbh (h:=xA (h:=tL2 (Ze (Zn ?_))))))
 exact Zql .ret (.inl rfl) [_,_] ⟨⟨_,rfl,.inr ⟨[_,_,_],Ze3,ZbT 1 rfl rfl rfl,rfl⟩⟩,rfl,trivial⟩ ⟨by rw [ZaH,g0];rfl,rfl,rfl⟩
 try simp only [sQ,ne_eq] at g0
 refine wSk (Za (xM (h:=Zk (Zdy (xs:=[]) (ys:=[_]) rfl rfl rfl rfl (Zk (Ze7 0 rfl rfl rfl ZxS rfl (Zaa.borrow fun hm=>Zqa _ _ us 241 _ (fun y=>decide (y.name=nm)) _ (hu.mono Zs.mono (Kn.le_add _ _)) ZxR (fun y h1 h2=>ZjI y nm _ h1 hn _ (ZiN hm))) (xE (h:=xE (h:=xS [_,_,_] 1 [_,_,_] Zbh (h:=xA (h:=tL2 (Ze ?_))))))))))))
 exact Zql .ret (.inl rfl) [_,_] ⟨⟨_,rfl,.inr ⟨[_,_,_],Ze3,ZbT 1 rfl rfl rfl,rfl⟩⟩,rfl,trivial⟩ ⟨by rw [ZaH,if_pos g0];rfl,rfl,rfl⟩

theorem ZgW (b o:Nat) (q1 q2 q3:Option Addr) (c1 c2 c3:Nat) (x:DHost) (nm:Str) (hn:nm.length≤2000000) (B:Kn) (hh:Zau B b o [str x.domain,.slice q1 x.users.length c1,.slice q2 x.folders.length c2,.int .i64 x.queue.next,.slice q3 x.queue.items.length c3]) (hu:SlK B q1 c1 3 Zs x.users):Zaa (pj J) 148 [ptr ⟨b,o,none⟩,str nm] B (.bool (ZaH x.users nm).2):=by
 refine cB 17 Tryz.func148 (h:=?_)
 refine Za (xA (h:=Za (xM (h:=xNc (h:=xW ZbZ (h:=Zk (Zm rfl rfl ZiW rfl (hh _ 1 _ rfl) (xM (h:=xR Zwg rfl (Zhf _ _ _ nm om2 _ hu) (h:=?_))))))))))
 refine xM (h:=xE (h:=xE (h:=xAl [_,_,_] ZdS (h:=fun b2=>xS [_,_,_] 0 [_,_,_] Zbh (h:=xA (h:=tL1 (Za (xM (h:=xA (h:=Ze ?_))))))))))
 exact eR t1 ⟨rfl,rfl,rfl⟩

theorem Zkk (q1 q2 q3:Option Addr) (c1 c2 c3:Nat) (x:DHost) (ow nm:Str) (ho:ow.length≤2000000) (hn:nm.length≤2000000) (B:Kn) (hf:SlK B q2 c2 5 Zu x.folders):Zaa (pj J) 42 [.agg #[str x.domain,.slice q1 x.users.length c1,.slice q2 x.folders.length c2,.int .i64 x.queue.next,.slice q3 x.queue.items.length c3],str ow,str nm] B (.int .i64 (ZbR (inF ow nm) x.folders)):=by
 refine cB 34 Tryz.func42 (h:=?_)
 have hfn:=hf.len
 refine Za (xBx [_,_,_,_,_] (h:=fun b1=>xA (h:=tL1 (Zc (Za (xA (h:=Zh (Zz (α:=Nat) [0,1,2,3] (fun k=>[(7,.int .i64 k)]) [] (fun k=>[]) (fun k Bx=>Bx=B∧k≤x.folders.length∧∀y,y∈x.folders.take k→inF ow nm y=false) (fun k=>x.folders.length - k) 0 t1 rfl (⟨rfl,Nat.zero_le _,by simp⟩) (fun k B2 hle2 hI=>?_)))))))))
 obtain ⟨rfl,hk,ha⟩:=hI
 refine ZC [(0,_),(1,_),(2,_),(3,_),(7,_)] [_] t5 rfl (Zc (Za (xM (h:=xW Zay (h:=x1 ZeO 0 (h:=xV Tryz.underlying24 (h:=ZF (h:=Zb rfl (fun g1=>?_) (fun g1=>?_)))))))))
 try simp only [sQ,ne_eq] at g1
 refine wSk (Zc (Zh (Za (xW Zay (h:=x1 ZeO 0 (h:=xM (h:=?_)))))))
 obtain ⟨y,hy⟩:=ZY (xs:=x.folders) (i:=k) om
 obtain ⟨bb4,oo4,rfl⟩:=hf.base hy
 obtain ⟨_,⟨qg5,cg5,qm5,cm5,rfl,hg5,hm5,hb5,hb5b⟩,hc5⟩:=hf.elem hy
 have hg5n:=hg5.len
 have hm5n:=hm5.len
 have hm5s:=Zaq hm5
 refine xIx Tryz.underlying24 Zb0 (h:=xW Zcc (h:=y1 lk9 hc5 0 (h:=xM (h:=Zdx (h:=xM (h:=Zy (d:=23) rfl (fun g2=>?_) (fun g2=>?_)))))))
 try simp only [sQ,ne_eq] at g2
 refine xW Zay (h:=x1 ZeO 0 (h:=xM (h:=xIx Tryz.underlying24 Zb0 (h:=xW ZdJ (h:=y1 lk9 hc5 1 (h:=xM (h:=Zdx (h:=xT (h:=Zb rfl (fun g3=>?_) (fun g3=>?_))))))))))
 try simp only [sQ,ne_eq] at g3
 refine Za (xM (h:=xA (h:=Ze (ZB (Zn (ZS (ZB (Zn ?_))))))))
 exact eR t1 ⟨ZG (ZgX hy (by simp [inF,g2,g3]) ha).symm,rfl,rfl⟩
 try simp only [sQ,ne_eq] at g3
 refine ZX (ZP (Zo (Zf (xM (h:=xD (h:=xA (h:=?_)))))))
 exact ZD (k+1) [0] so2 ⟨rfl,oz,Zbg hy ha (by simp [inF,g2,g3])⟩ t5 rfl
 try simp only [sQ,ne_eq] at g2
 refine xP (h:=xP (h:=xP (h:=xP (h:=xP (h:=xP (h:=xP (h:=xP (h:=xF (h:=Zb (t:=false) rfl (fun h=>Bool.noConfusion h) (fun _=>ZX (ZP (Zo (Zf (xM (h:=xD (h:=xA (h:=?_)))))))))))))))))
 exact ZD (k+1) [0] so2 ⟨rfl,oz,Zbg hy ha (by simp [inF,g2])⟩ t5 rfl
 try simp only [sQ,ne_eq] at g1
 refine ZE (ZV (ZH (Zw (Zo (Za (xA (h:=Ze ?_)))))))
 exact eR t1 ⟨ZG (Zev (Zbq oz ha)).symm,rfl,rfl⟩

theorem Zuu (f:DFolder) (qa qb:Option Addr) (ca cb:Nat) (ow nm:Str) (b b':Nat) (h1:f.owner.length≤2000000) (h2:f.name.length≤2000000) (h3:ow.length≤2000000) (h4:nm.length≤2000000) (B:Kn) (hb:Zau B b 0 [str ow]) (hb2:Zau B b' 0 [str nm]):Zaa (pj J) 154 [.agg #[str f.owner,str f.name,.slice qa f.grants.length ca,.int .i64 f.next,.slice qb f.mail.length cb],ptr ⟨b,0,none⟩,ptr ⟨b',0,none⟩] B (.bool (inF ow nm f)):=by
 refine cB 15 Tryz.func154 (h:=?_)
 refine Za (xBx [_,_,_,_,_] (h:=fun b1=>xA (h:=tL1 (Za (xW Zcc (h:=x1 lk9 0 (h:=Zk (Zm rfl rfl lk9 rfl (hb _ 0 _ rfl) (Zdx (h:=xM (h:=Zy (d:=9) rfl (fun g1=>?_) (fun g1=>?_))))))))))))
 refine xW ZdJ (h:=x1 lk9 0 (h:=Zk (Zm rfl rfl lk9 rfl (hb2 _ 0 _ rfl) (Zdx (h:=xT (h:=xA (h:=Ze ?_)))))))
 exact eR t1 ⟨Zd (by rw [Bool.eq_iff_iff];simp [inF,g1]),rfl,rfl⟩
 refine xP (h:=xP (h:=xP (h:=xP (h:=xF (h:=xA (h:=Ze ?_))))))
 exact eR t1 ⟨Zd (by rw [Bool.eq_iff_iff];simp [inF,g1]),rfl,rfl⟩

theorem Zr4 (q:Option Addr) (cp:Nat) (fs:List DFolder) (F:FuncId) (cap:Array Value) (t:DFolder→Bool) (B:Kn) (hf:SlK B q cp 5 Zu fs) (he:enters (pj J) F=true) (hF :∀(f:DFolder) (qa qb:Option Addr) (ca cb:Nat),f.owner.length≤2000000→f.name.length≤2000000→Zaa (pj J) F ([.agg #[str f.owner,str f.name,.slice qa f.grants.length ca,.int .i64 f.next,.slice qb f.mail.length cb]] ++ cap.toList) B (.bool (t f))):Zaa (pj J) 153 [.slice q fs.length cp,.func (.func F) #[] cap] B (.int .i64 (ZbR t fs)):=by
 refine cB 19 Tryz.func153 (h:=?_)
 have hfn:=hf.len
 refine Za (xA (h:=Zc (Za (xM (h:=xV Tryz.underlying24 (h:=xM (h:=Zh (Zz (α:=Nat) [0,1,7] (fun k=>[(8,.int .i64 k)]) [] (fun k=>[]) (fun k Bx=>Bx=B∧k≤fs.length∧∀y,y∈fs.take k→t y=false) (fun k=>fs.length - k) 0 t1 rfl (⟨rfl,Nat.zero_le _,by simp⟩) (fun k B1 hle1 hI=>?_)))))))))
 obtain ⟨rfl,hk,ha⟩:=hI
 refine ZC [(0,_),(1,_),(7,_),(8,_)] [] t4 rfl (Za (ZF (h:=Zc (Zb rfl (fun g1=>?_) (fun g1=>?_)))))
 try simp only [sQ,ne_eq] at g1
 refine wSk (Zc (Zh (Za (xM (h:=xA (h:=Za (xM (h:=xM (h:=xM (h:=?_))))))))))
 obtain ⟨y,hy⟩:=ZY (xs:=fs) (i:=k) om
 obtain ⟨bb3,oo3,rfl⟩:=hf.base hy
 obtain ⟨_,⟨qg4,cg4,qm4,cm4,rfl,hg4,hm4,hb4,hb4b⟩,hc4⟩:=hf.elem hy
 have hg4n:=hg4.len
 have hm4n:=hm4.len
 have hm4s:=Zaq hm4
 refine xIx Tryz.underlying24 Zb0 (h:=yL [_,_,_,_,_] ZhZ hc4 0 (h:=Zk (ZsP rfl rfl he rfl rfl (hF y _ _ _ _ om2 om2) ?_)))
 refine Zb rfl (fun g2=>?_) (fun g2=>?_)
 try simp only [sQ,ne_eq] at g2
 refine Za (xM (h:=xA (h:=Ze (ZB (Zn (ZS (ZB (Zn ?_))))))))
 exact eR t1 ⟨ZG (ZgX hy g2 ha).symm,rfl,rfl⟩
 try simp only [sQ,ne_eq] at g2
 refine ZX (ZP (Zo (Zf (xD (h:=xM (h:=?_))))))
 exact ZD (k+1) [] so2 ⟨rfl,oz,Zbg hy ha g2⟩ t4 rfl
 try simp only [sQ,ne_eq] at g1
 refine ZE (ZV (ZH (Zw (Zo (Za (xA (h:=Ze ?_)))))))
 exact eR t1 ⟨ZG (Zev (Zbq oz ha)).symm,rfl,rfl⟩

theorem Ztg (b o:Nat) (q1 q2 q3:Option Addr) (c1 c2 c3:Nat) (x:DHost) (ow nm:Str) (ho:ow.length≤2000000) (hn:nm.length≤2000000) (B:Kn) (hh:Zau B b o [str x.domain,.slice q1 x.users.length c1,.slice q2 x.folders.length c2,.int .i64 x.queue.next,.slice q3 x.queue.items.length c3]) (hf:SlK B q2 c2 5 Zu x.folders):Zaa (pj J) 88 [ptr ⟨b,o,none⟩,str ow,str nm] B (.int .i64 (ZbR (inF ow nm) x.folders)):=by
 refine cB 13 Tryz.func88 (h:=?_)
 refine Za (xBx [_] (h:=fun b1=>xBx [_] (h:=fun b2=>xA (h:=tL2 (Za (xM (h:=xNc (h:=xW Zay (h:=Zk (Zm rfl rfl ZeO rfl (hh _ 2 _ rfl) (Zk (Zdy (xs:=[]) (ys:=[_,_]) rfl rfl rfl rfl (Zk (Zu9 0 1 rfl rfl rfl rfl rfl ZyH rfl (Zaa.borrow2 fun hm1 hm2=>Zr4 _ _ x.folders 154 _ (inF ow nm) _ ((hf.mono Zu.mono (Kn.le_add _ _)).mono Zu.mono (Kn.le_add _ _)) ZyG (fun f qa qb ca cb h1 h2=>Zuu f qa qb ca cb ow nm _ _ h1 h2 ho hn _ (ZiN hm1) (ZiN hm2))) (xA (h:=Ze ?_))))))))))))))))
 exact eR t1 ⟨rfl,rfl,rfl⟩

theorem Zlo (b o:Nat) (q1 q2 q3:Option Addr) (c1 c2 c3:Nat) (x:DHost) (B:Kn) (hh:Zau B b o [str x.domain,.slice q1 x.users.length c1,.slice q2 x.folders.length c2,.int .i64 x.queue.next,.slice q3 x.queue.items.length c3]) (hu:SlK B q1 c1 3 Zs x.users) (hi:SlK B q3 c3 4 ZI x.queue.items):Zaa (pj J) 87 [ptr ⟨b,o,none⟩] B (.bool (x.queue.items.all (ZcO x.users))):=by
 refine cB 35 Tryz.func87 (h:=?_)
 have hin:=hi.len
 refine Za (xA (h:=Zc (Za (xM (h:=xNc (h:=xW Zeh (h:=xW ZbG (h:=Zk (Zm rfl rfl Zin rfl (hh _ 4 _ rfl) (xV Tryz.underlying25 (h:=xM (h:=Zh (Zz (α:=Nat) [0,11,12] (fun k=>[(13,.int .i64 k)]) [] (fun k=>[]) (fun k Bx=>Bx=B∧k≤x.queue.items.length∧∀y,y∈x.queue.items.take k→ZcO x.users y=true) (fun k=>x.queue.items.length - k) 0 t1 rfl (⟨rfl,Nat.zero_le _,by simp⟩) (fun k B1 hle1 hI=>?_))))))))))))))
 obtain ⟨rfl,hk,ha⟩:=hI
 refine ZC [(0,_),(11,_),(12,_),(13,_)] [] t4 rfl (Za (ZF (h:=Zc (Zb rfl (fun g1=>?_) (fun g1=>?_)))))
 try simp only [sQ,ne_eq] at g1
 refine wSk (Zc (Zh (Za ?_)))
 obtain ⟨y,hy⟩:=ZY (xs:=x.queue.items) (i:=k) om
 obtain ⟨bb3,oo3,rfl⟩:=hi.base hy
 obtain ⟨_,⟨qi4,ci4,rfl,hi4,hb4,hb4b⟩,hc4⟩:=hi.elem hy
 have hi4n:=hi4.len
 refine xIx Tryz.underlying25 Zbr (h:=yL [_,_,_,_] Zeo hc4 0 (h:=xAl [_,_,_,_] Ze0 (h:=fun b5=>xS [_,_,_,_] 0 [_,_,_,_] Zbr (h:=tL1 (Zc (Za (xM (h:=xW Zd6 (h:=x1 lk9 0 (h:=xR Zsp rfl (ZgW _ _ _ _ _ _ _ _ x y.fr om2 _ hh hu) (h:=?_)))))))))))
 refine xN (h:=Zb rfl (fun g2=>?_) (fun g2=>?_))
 try simp only [sQ,ne_eq] at g2
 refine Za (xA (h:=Ze (Zn (ZB (Zn (ZS (ZB (Zn ?_))))))))
 exact eR t1 ⟨Zd (Zdq hy (by simp [ZcO,g2])).symm,rfl,rfl⟩
 try simp only [sQ,ne_eq] at g2
 refine wSk (Za (xW Zcs (h:=x1 Zft 0 (h:=xV Tryz.underlying143 (h:=xM (h:=Zh (Zz (α:=Nat) [0,4,11,12,13,14,21,23,24] (fun j=>[(25,.int .i64 j)]) [] (fun j=>[]) (fun j Bx=>Bx=B1∧j≤y.left.length∧∀z,z∈y.left.take j→(ZaH x.users z).2=true) (fun j=>y.left.length - j) 0 t1 rfl (⟨rfl,Nat.zero_le _,by simp⟩) (fun j B7 hle7 hI=>?_))))))))
 obtain ⟨rfl,hj,hb⟩:=hI
 refine ZC [(0,_),(4,_),(11,_),(12,_),(13,_),(14,_),(21,_),(23,_),(24,_),(25,_)] [_] t10 rfl (Za (ZF (h:=Zc (Zb rfl (fun g3=>?_) (fun g3=>?_)))))
 try simp only [sQ,ne_eq] at g3
 refine wSk (Zc (Zh (Za ?_)))
 obtain ⟨z,hz⟩:=ZY (xs:=y.left) (i:=j) om
 obtain ⟨bb9,oo9,rfl⟩:=hi4.base hz
 obtain ⟨_,⟨rfl,hb10⟩,hc10⟩:=hi4.elem hz
 refine xIx Tryz.underlying143 sz9 (h:=y1 lk9 hc10 0 (h:=xA (h:=Za (xM (h:=xM (h:=xR Zsp rfl (ZgW _ _ _ _ _ _ _ _ x z om2 _ hh hu) (h:=?_)))))))
 refine xN (h:=Zb rfl (fun g4=>?_) (fun g4=>?_))
 try simp only [sQ,ne_eq] at g4
 refine Za (xA (h:=Ze (ZB (Zn (ZS (ZB (ZB (Zn (ZS (ZB (Zn ?_)))))))))))
 exact eR t1 ⟨Zd (Zdq hy (by rw [ZcO,Zdq hz g4,Bool.and_false])).symm,rfl,rfl⟩
 try simp only [sQ,ne_eq] at g4
 refine ZX (ZP (Zo (Zf (xD (h:=xM (h:=?_))))))
 exact ZD (j+1) [0] so2 ⟨rfl,oz,Zbg hz hb g4⟩ t10 rfl
 try simp only [sQ,ne_eq] at g3
 refine ZE (ZV (ZH (Zw (ZP (Zo (Zf (xD (h:=xM (h:=?_)))))))))
 exact ZD (k+1) [] so2 ⟨rfl,oz,Zbg hy ha (by rw [ZcO,g2,ZeZ (Zbq oz hb)];rfl)⟩ t4 rfl
 try simp only [sQ,ne_eq] at g1
 refine ZE (ZV (ZH (Zw (Zo (Za (xA (h:=Ze ?_)))))))
 exact eR t1 ⟨Zd (ZeZ (Zbq oz ha)).symm,rfl,rfl⟩

theorem Zpu (f g:DFolder) (qa qb qc qd:Option Addr) (ca cb cc cd:Nat) (B:Kn):Zaa (pj J) 162 [.agg #[str f.owner,str f.name,.slice qa f.grants.length ca,.int .i64 f.next,.slice qb f.mail.length cb],.agg #[str g.owner,str g.name,.slice qc g.grants.length cc,.int .i64 g.next,.slice qd g.mail.length cd]] B (.bool (Zeq f g)):=by
 refine cB 24 Tryz.func162 (h:=?_)
 refine Za (xBx [_,_,_,_,_] (h:=fun b1=>xBx [_,_,_,_,_] (h:=fun b2=>xA (h:=tL2 (Za (xW Zcc (h:=x1 lk9 0 (h:=xW Zcc (h:=x1 lk9 1 (h:=ZsN (h:=xM (h:=Zy (d:=10) rfl (fun g1=>?_) (fun g1=>?_)))))))))))))
 refine xP (h:=xP (h:=xP (h:=xP (h:=xP (h:=xP (h:=xP (h:=xP (h:=xP (h:=xP (h:=xP (h:=xP (h:=xT (h:=xA (h:=Ze ?_))))))))))))))
 exact eR t1 ⟨Zd (by rw [Bool.eq_iff_iff];simp [Zeq,Zdo,g1]),rfl,rfl⟩
 refine xW Zcc (h:=x1 lk9 0 (h:=xW Zcc (h:=x1 lk9 1 (h:=Zdx (h:=xM (h:=Zy (d:=16) rfl (fun g2=>?_) (fun g2=>?_)))))))
 refine xW ZdJ (h:=x1 lk9 0 (h:=xW ZdJ (h:=x1 lk9 1 (h:=ZsN (h:=xT (h:=xF (h:=xA (h:=Ze ?_))))))))
 exact eR t1 ⟨Zd (by rw [Bool.eq_iff_iff];simp [Zeq,Zdo,g1,g2]),rfl,rfl⟩
 refine xP (h:=xP (h:=xP (h:=xP (h:=xP (h:=xF (h:=xF (h:=xA (h:=Ze ?_))))))))
 exact eR t1 ⟨Zd (by rw [Bool.eq_iff_iff];simp [Zeq,Zdo,g1,g2]),rfl,rfl⟩

theorem Zle (q:Option Addr) (cp:Nat) (us:List DUser) (B:Kn) (hu:SlK B q cp 3 Zs us):Zaa (pj J) 92 [.slice q us.length cp] B (.bool (Zax us)):=by
 refine cB 54 Tryz.func92 (h:=?_)
 have hun:=hu.len
 refine Za (xA (h:=Zc (Za (xA (h:=Zh (Zz (α:=Nat × Str) [0] (fun g=>[(3,.int .i64 g.1)]) [] (fun g=>[]) (fun g Bx=>Bx=B∧g.1≤us.length∧ZdV (us.take g.1)=(true,g.2)∧Prev (fun y=>y.name) ([]:Str) us g.1 g.2) (fun g=>us.length - g.1) (0,[]) t1 rfl (⟨rfl,Nat.zero_le _,Zfp,.zero⟩) (fun g B1 hle1 hI=>?_)))))))
 obtain ⟨rfl,hk,hs,hp⟩:=hI
 refine ZC [(0,_),(3,_)] [] t2 rfl (Zc (Za (xM (h:=xM (h:=xV Tryz.underlying23 (h:=ZF (h:=Zb rfl (fun g1=>?_) (fun g1=>?_))))))))
 try simp only [sQ,ne_eq] at g1
 refine wSk (Zc (Zh (Za (xM (h:=xM (h:=?_))))))
 obtain ⟨m,hm⟩:=ZY (xs:=us) (i:=g.1) om
 obtain ⟨bb3,oo3,rfl⟩:=hu.base hm
 obtain ⟨_,⟨rfl,hb4,hb4b⟩,hc4⟩:=hu.elem hm
 refine xIx Tryz.underlying23 Zbh (h:=yL [_,_,_] Ze3 hc4 0 (h:=xAl [_,_,_] ZdS (h:=fun b5=>xS [_,_,_] 0 [_,_,_] Zbh (h:=tL1 (Zc (Z2 (same _ _) mo kr ⟨rfl,rfl⟩ (fun _ _=>?_)))))))
 refine aW 0 rfl Za7 (h:=aT 1 rfl (Zac fun D=>Zm rfl rfl lk9 rfl (atL 0 rfl rfl rfl) r4) (h:=aT 2 rfl (Zac fun D=>Z8 rfl rfl Zl4 rfl (Zco _ om2 _) r4) (h:=?_)))
 refine aN 3 rfl (h:=aM 4 rfl (h:=ZaF (d:=19) rfl (fun g2=>?_) (fun g2=>?_)))
 try simp only [sQ,ne_eq] at g2
 refine aZ 5 rfl (h:=aZ 6 rfl (h:=aZ 7 rfl (h:=aPT 8 rfl (h:=aM 9 rfl (h:=aZ 10 rfl (h:=aZ 11 rfl (h:=aZ 12 rfl (h:=aZ 13 rfl (h:=aPT 14 rfl (h:=aM 15 rfl (h:=aZ 16 rfl (h:=aZ 17 rfl (h:=aZ 18 rfl (h:=aZ 19 rfl (h:=aPT 20 rfl (h:=aM 21 rfl (h:=aZ 22 rfl (h:=aZ 23 rfl (h:=aZ 24 rfl (h:=aZ 25 rfl (h:=aZ 26 rfl (h:=aZ 27 rfl (h:=aZ 28 rfl (h:=aZ 29 rfl (h:=aZ 30 rfl (h:=aZ 31 rfl (h:=aZ 32 rfl (h:=aZ 33 rfl (h:=aZ 34 rfl (h:=aPT 35 rfl (h:=Zt kr kr ?_)))))))))))))))))))))))))))))))
 refine Zo (Zb (t:=true) rfl (fun _=>Za (xA (h:=Ze (ZB (Zn (ZS (ZB (Zn ?_)))))))) (fun h=>Bool.noConfusion h))
 exact eR t1 ⟨Zd (ZcZ hm hs (by simp [Zej,ZcK,anyone,g1,g2])).symm,rfl,rfl⟩
 try simp only [sQ,ne_eq] at g2
 refine aW 5 rfl Za7 (h:=aT 6 rfl (Zac fun D=>Zm rfl rfl lk9 rfl (atL 0 rfl rfl rfl) r4) (h:=ZqN 7 rfl (h:=aPF 8 rfl (h:=aM 9 rfl (h:=ZaF (d:=24) rfl (fun g3=>?_) (fun g3=>?_))))))
 try simp only [sQ,ne_eq] at g3
 refine aZ 10 rfl (h:=aZ 11 rfl (h:=aZ 12 rfl (h:=aZ 13 rfl (h:=aPT 14 rfl (h:=aM 15 rfl (h:=aZ 16 rfl (h:=aZ 17 rfl (h:=aZ 18 rfl (h:=aZ 19 rfl (h:=aPT 20 rfl (h:=aM 21 rfl (h:=aZ 22 rfl (h:=aZ 23 rfl (h:=aZ 24 rfl (h:=aZ 25 rfl (h:=aZ 26 rfl (h:=aZ 27 rfl (h:=aZ 28 rfl (h:=aZ 29 rfl (h:=aZ 30 rfl (h:=aZ 31 rfl (h:=aZ 32 rfl (h:=aZ 33 rfl (h:=aZ 34 rfl (h:=aPT 35 rfl (h:=Zt kr kr ?_))))))))))))))))))))))))))
 refine Zo (Zb (t:=true) rfl (fun _=>Za (xA (h:=Ze (ZB (Zn (ZS (ZB (Zn ?_)))))))) (fun h=>Bool.noConfusion h))
 exact eR t1 ⟨Zd (ZcZ hm hs (by simp [Zej,ZcK,anyone,g1,g2,g3])).symm,rfl,rfl⟩
 try simp only [sQ,ne_eq] at g3
 refine aW 10 rfl Zfz (h:=aT 11 rfl (Zac fun D=>Zm rfl rfl lk9 rfl (atL 0 rfl rfl rfl) r4) (h:=aT 12 rfl (Zac fun D=>Z8 rfl rfl Zl4 rfl (Zco _ om2 _) r4) (h:=?_)))
 refine aN 13 rfl (h:=aPF 14 rfl (h:=aM 15 rfl (h:=ZaF (d:=30) rfl (fun g4=>?_) (fun g4=>?_))))
 try simp only [sQ,ne_eq] at g4
 refine aZ 16 rfl (h:=aZ 17 rfl (h:=aZ 18 rfl (h:=aZ 19 rfl (h:=aPT 20 rfl (h:=aM 21 rfl (h:=aZ 22 rfl (h:=aZ 23 rfl (h:=aZ 24 rfl (h:=aZ 25 rfl (h:=aZ 26 rfl (h:=aZ 27 rfl (h:=aZ 28 rfl (h:=aZ 29 rfl (h:=aZ 30 rfl (h:=aZ 31 rfl (h:=aZ 32 rfl (h:=aZ 33 rfl (h:=aZ 34 rfl (h:=aPT 35 rfl (h:=Zt kr kr ?_))))))))))))))))))))
 refine Zo (Zb (t:=true) rfl (fun _=>Za (xA (h:=Ze (ZB (Zn (ZS (ZB (Zn ?_)))))))) (fun h=>Bool.noConfusion h))
 exact eR t1 ⟨Zd (ZcZ hm hs (by simp [Zej,ZcK,anyone,g1,g2,g3,g4])).symm,rfl,rfl⟩
 try simp only [sQ,ne_eq] at g4
 refine aW 16 rfl Zdu (h:=aT 17 rfl (Zac fun D=>Zm rfl rfl lk3 rfl (atL 0 rfl rfl rfl) r4) (h:=aT 18 rfl (Zac fun D=>Z8 rfl rfl Zjk rfl (ZfV _ _ _ _) r4) (h:=aN 19 rfl (h:=aPF 20 rfl (h:=aM 21 rfl (h:=ZaF (d:=36) rfl (fun g5=>?_) (fun g5=>?_)))))))
 try simp only [sQ,ne_eq] at g5
 refine aZ 22 rfl (h:=aZ 23 rfl (h:=aZ 24 rfl (h:=aZ 25 rfl (h:=aZ 26 rfl (h:=aZ 27 rfl (h:=aZ 28 rfl (h:=aZ 29 rfl (h:=aZ 30 rfl (h:=aZ 31 rfl (h:=aZ 32 rfl (h:=aZ 33 rfl (h:=aZ 34 rfl (h:=aPT 35 rfl (h:=Zt kr kr ?_))))))))))))))
 refine Zo (Zb (t:=true) rfl (fun _=>Za (xA (h:=Ze (ZB (Zn (ZS (ZB (Zn ?_)))))))) (fun h=>Bool.noConfusion h))
 exact eR t1 ⟨Zd (ZcZ hm hs (by simp [Zej,ZcK,anyone,g1,g2,g3,g4,g5])).symm,rfl,rfl⟩
 try simp only [sQ,ne_eq] at g5
 refine aM 22 rfl (h:=ZqM 23 rfl (h:=aM 24 rfl (h:=ZaF (d:=39) rfl (fun g6=>?_) (fun g6=>?_))))
 try simp only [sQ,ne_eq] at g6
 refine aM 25 rfl (h:=aM 26 rfl (h:=aU 27 rfl (h:=?_)))
 obtain ⟨y,hy⟩:=ZuY (xs:=us) (i:=(↑g.1 - 1)) om om
 obtain ⟨_,⟨rfl,hb10,hb10b⟩,hc10⟩:=hu.elem hy
 refine aIx 28 rfl Tryz.underlying23 Zbh (h:=?_)
 have hpe:=hp.at hy oz
 refine aW 29 rfl Za7 (h:=aT 30 rfl (Zac fun D=>Zm rfl rfl lk9 rfl (hc10 _ 0 _ rfl) r4) (h:=aW 31 rfl Za7 (h:=aT 32 rfl (Zac fun D=>Zm rfl rfl lk9 rfl (atL 0 rfl rfl rfl) r4) (h:=aT 33 rfl (Zac fun D=>ZsW rfl rfl rfl rfl r4) (h:=aPT 34 rfl (h:=aPF 35 rfl (h:=Zt kr kr ?_)))))))
 refine Zo (Zb rfl (fun g7=>?_) (fun g7=>?_))
 try simp only [sQ,ne_eq] at g7
 refine Za (xA (h:=Ze (ZB (Zn (ZS (ZB (Zn ?_)))))))
 exact eR t1 ⟨Zd (ZcZ hm hs (by simp [Zej,ZcK,anyone,g1,g2,g3,g4,g5,g6,g7,hpe])).symm,rfl,rfl⟩
 try simp only [sQ,ne_eq] at g7
 refine ZX (ZP (Zo (Zf (xM (h:=xD (h:=xA (h:=?_)))))))
 exact ZD (g.1+1,m.name) [] so2 ⟨rfl,oz,Zcx hm hs (by rw [hpe];simp [Zej,ZcK,anyone,g2,g3,g4,g7];simp at g5;omega),.succ hm⟩ t2 rfl
 try simp only [sQ,ne_eq] at g6
 refine aZ 25 rfl (h:=aZ 26 rfl (h:=aZ 27 rfl (h:=aZ 28 rfl (h:=aZ 29 rfl (h:=aZ 30 rfl (h:=aZ 31 rfl (h:=aZ 32 rfl (h:=aZ 33 rfl (h:=aPF 34 rfl (h:=aPF 35 rfl (h:=Zt kr kr ?_)))))))))))
 refine Zo (Zb (t:=false) rfl (fun h=>Bool.noConfusion h) (fun _=>ZX (ZP (Zo (Zf (xM (h:=xD (h:=xA (h:=?_)))))))))
 exact ZD (g.1+1,m.name) [] so2 ⟨rfl,oz,Zcx hm hs (by rw [hp.at0 oz];simp [Zej,ZcK,anyone,g2,g3,g4,ZmF (Zij g2)];simp at g5;omega),.succ hm⟩ t2 rfl
 try simp only [sQ,ne_eq] at g1
 refine ZE (ZV (ZH (Zw (Zo (Za (xM (h:=xV Tryz.underlying23 (h:=xR Zjk rfl (ZfV _ _ _ _) (h:=xA (h:=Ze ?_))))))))))
 exact eR t1 ⟨Zd (by rw [Zhd (Zd1 hs oz),Bool.eq_iff_iff];simp;omega),rfl,rfl⟩

theorem ZoS (q:Option Addr) (cp:Nat) (gs:List DGrant) (B:Kn) (hg:SlK B q cp 2 Z5 gs):Zaa (pj J) 161 [.slice q gs.length cp] B (.bool (ZcP gs)):=by
 refine cB 47 Tryz.func161 (h:=?_)
 have hgn:=hg.len
 refine Za (xA (h:=Zc (Za (xA (h:=Zh (Zz (α:=Nat × Str) [0] (fun g=>[(3,.int .i64 g.1)]) [] (fun g=>[]) (fun g Bx=>Bx=B∧g.1≤gs.length∧ZcD (gs.take g.1)=(true,g.2)∧Prev (fun y=>y.user) ([]:Str) gs g.1 g.2) (fun g=>gs.length - g.1) (0,[]) t1 rfl (⟨rfl,Nat.zero_le _,Zfp,.zero⟩) (fun g B1 hle1 hI=>?_)))))))
 obtain ⟨rfl,hk,hs,hp⟩:=hI
 refine ZC [(0,_),(3,_)] [] t2 rfl (Zc (Za (xM (h:=xM (h:=xV Tryz.underlying94 (h:=ZF (h:=Zb rfl (fun g1=>?_) (fun g1=>?_))))))))
 try simp only [sQ,ne_eq] at g1
 refine wSk (Zc (Zh (Zc (Z2 (same _ _) mo kr ⟨rfl,rfl⟩ (fun _ _=>?_)))))
 refine aM 0 rfl (h:=aM 1 rfl (h:=?_))
 obtain ⟨m,hm⟩:=ZY (xs:=gs) (i:=g.1) om
 obtain ⟨bb3,oo3,rfl⟩:=hg.base hm
 obtain ⟨_,⟨rfl,hb4⟩,hc4⟩:=hg.elem hm
 refine aIx 2 rfl Tryz.underlying94 Zds (h:=aW 3 rfl Zcd (h:=aT 4 rfl (Zac fun D=>Zm rfl rfl lk9 rfl (hc4 _ 0 _ rfl) r4) (h:=aT 5 rfl (Zac fun D=>Z8 rfl rfl Zl4 rfl (Zco _ om2 _) r4) (h:=?_))))
 refine aN 6 rfl (h:=aM 7 rfl (h:=ZaF (d:=17) rfl (fun g2=>?_) (fun g2=>?_)))
 try simp only [sQ,ne_eq] at g2
 refine aZ 8 rfl (h:=aZ 9 rfl (h:=aZ 10 rfl (h:=aZ 11 rfl (h:=aZ 12 rfl (h:=aZ 13 rfl (h:=aZ 14 rfl (h:=aPT 15 rfl (h:=aM 16 rfl (h:=aZ 17 rfl (h:=aZ 18 rfl (h:=aZ 19 rfl (h:=aZ 20 rfl (h:=aZ 21 rfl (h:=aZ 22 rfl (h:=aZ 23 rfl (h:=aZ 24 rfl (h:=aZ 25 rfl (h:=aZ 26 rfl (h:=aZ 27 rfl (h:=aZ 28 rfl (h:=aZ 29 rfl (h:=aZ 30 rfl (h:=aZ 31 rfl (h:=aZ 32 rfl (h:=aPT 33 rfl (h:=Zt kr kr ?_))))))))))))))))))))))))))
 refine Zo (Zb (t:=true) rfl (fun _=>Za (xA (h:=Ze (ZB (Zn (ZS (ZB (Zn ?_)))))))) (fun h=>Bool.noConfusion h))
 exact eR t1 ⟨Zd (Zdd hm hs (by simp [ZbY,g1,g2])).symm,rfl,rfl⟩
 try simp only [sQ,ne_eq] at g2
 refine aM 8 rfl (h:=aM 9 rfl (h:=aIx 10 rfl Tryz.underlying94 Zds (h:=aW 11 rfl Zc8 (h:=aT 12 rfl (Zac fun D=>Zm rfl rfl lk3 rfl (hc4 _ 1 _ rfl) r4) (h:=aT 13 rfl (Zac fun D=>Z8 rfl rfl Zjk rfl (ZfV _ _ _ _) r4) (h:=aN 14 rfl (h:=aPF 15 rfl (h:=aM 16 rfl (h:=ZaF (d:=26) rfl (fun g4=>?_) (fun g4=>?_))))))))))
 try simp only [sQ,ne_eq] at g4
 refine aZ 17 rfl (h:=aZ 18 rfl (h:=aZ 19 rfl (h:=aZ 20 rfl (h:=aZ 21 rfl (h:=aZ 22 rfl (h:=aZ 23 rfl (h:=aZ 24 rfl (h:=aZ 25 rfl (h:=aZ 26 rfl (h:=aZ 27 rfl (h:=aZ 28 rfl (h:=aZ 29 rfl (h:=aZ 30 rfl (h:=aZ 31 rfl (h:=aZ 32 rfl (h:=aPT 33 rfl (h:=Zt kr kr ?_)))))))))))))))))
 refine Zo (Zb (t:=true) rfl (fun _=>Za (xA (h:=Ze (ZB (Zn (ZS (ZB (Zn ?_)))))))) (fun h=>Bool.noConfusion h))
 exact eR t1 ⟨Zd (Zdd hm hs (by simp [ZbY,g1,g2,g4])).symm,rfl,rfl⟩
 try simp only [sQ,ne_eq] at g4
 refine aM 17 rfl (h:=ZqM 18 rfl (h:=aM 19 rfl (h:=ZaF (d:=29) rfl (fun g6=>?_) (fun g6=>?_))))
 try simp only [sQ,ne_eq] at g6
 refine aM 20 rfl (h:=aM 21 rfl (h:=aU 22 rfl (h:=?_)))
 obtain ⟨y,hy⟩:=ZuY (xs:=gs) (i:=(↑g.1 - 1)) om om
 obtain ⟨_,⟨rfl,hb8⟩,hc8⟩:=hg.elem hy
 refine aIx 23 rfl Tryz.underlying94 Zds (h:=?_)
 have hpe:=hp.at hy oz
 refine aW 24 rfl Zcd (h:=aT 25 rfl (Zac fun D=>Zm rfl rfl lk9 rfl (hc8 _ 0 _ rfl) r4) (h:=aM 26 rfl (h:=aM 27 rfl (h:=aIx 28 rfl Tryz.underlying94 Zds (h:=aW 29 rfl Zcd (h:=aT 30 rfl (Zac fun D=>Zm rfl rfl lk9 rfl (hc4 _ 0 _ rfl) r4) (h:=aT 31 rfl (Zac fun D=>ZsW rfl rfl rfl rfl r4) (h:=aPT 32 rfl (h:=aPF 33 rfl (h:=Zt kr kr ?_))))))))))
 refine Zo (Zb rfl (fun g7=>?_) (fun g7=>?_))
 try simp only [sQ,ne_eq] at g7
 refine Za (xA (h:=Ze (ZB (Zn (ZS (ZB (Zn ?_)))))))
 exact eR t1 ⟨Zd (Zdd hm hs (by simp [ZbY,g1,g2,g4,g6,g7,hpe])).symm,rfl,rfl⟩
 try simp only [sQ,ne_eq] at g7
 refine ZX (ZP (Zo (Zf (xM (h:=xD (h:=xA (h:=?_)))))))
 exact ZD (g.1+1,m.user) [] so2 ⟨rfl,oz,Zcx hm hs (by rw [hpe];simp [ZbY,g2,g7];simp at g4;omega),.succ hm⟩ t2 rfl
 try simp only [sQ,ne_eq] at g6
 refine aZ 20 rfl (h:=aZ 21 rfl (h:=aZ 22 rfl (h:=aZ 23 rfl (h:=aZ 24 rfl (h:=aZ 25 rfl (h:=aZ 26 rfl (h:=aZ 27 rfl (h:=aZ 28 rfl (h:=aZ 29 rfl (h:=aZ 30 rfl (h:=aZ 31 rfl (h:=aPF 32 rfl (h:=aPF 33 rfl (h:=Zt kr kr ?_))))))))))))))
 refine Zo (Zb (t:=false) rfl (fun h=>Bool.noConfusion h) (fun _=>ZX (ZP (Zo (Zf (xM (h:=xD (h:=xA (h:=?_)))))))))
 exact ZD (g.1+1,m.user) [] so2 ⟨rfl,oz,Zcx hm hs (by rw [hp.at0 oz];simp [ZbY,g2,ZmF (Zij g2)];simp at g4;omega),.succ hm⟩ t2 rfl
 try simp only [sQ,ne_eq] at g1
 refine ZE (ZV (ZH (Zw (Zo (Za (xM (h:=xV Tryz.underlying94 (h:=Zck (h:=xA (h:=Ze ?_))))))))))
 exact eR t1 ⟨Zd (by rw [ZkS (Zd1 hs oz),Bool.eq_iff_iff];simp;try omega),rfl,rfl⟩

theorem ZnG (q1 q2 q3:Option Addr) (c1 c2 c3:Nat) (x:DHost) (q:Option Addr) (cp:Nat) (ns:List Str) (B:Kn) (hu:SlK B q1 c1 3 Zs x.users) (hn:SlK B q cp 1 Zde ns):Zaa (pj J) 97 [.agg #[str x.domain,.slice q1 x.users.length c1,.slice q2 x.folders.length c2,.int .i64 x.queue.next,.slice q3 x.queue.items.length c3],.slice q ns.length cp] B (.bool (Zkl x.users ns)):=by
 refine cB 20 Tryz.func97 (h:=?_)
 have hnn:=hn.len
 have hun:=hu.len
 refine Za (xBx [_,_,_,_,_] (h:=fun b1=>xA (h:=tL1 (Zc (Za (xA (h:=Zh (Zz (α:=Nat) [0,1,2] (fun k=>[(5,.int .i64 k)]) [] (fun k=>[]) (fun k Bx=>Bx=B∧k≤ns.length∧∀z,z∈ns.take k→decide (0≤Zeu x.users z)=true) (fun k=>ns.length - k) 0 t1 rfl (⟨rfl,Nat.zero_le _,by simp⟩) (fun k B2 hle2 hI=>?_)))))))))
 obtain ⟨rfl,hk,ha⟩:=hI
 refine ZC [(0,_),(1,_),(2,_),(5,_)] [_] t4 rfl (Zc (Za (xM (h:=xM (h:=xV Tryz.underlying143 (h:=ZF (h:=Zb rfl (fun g1=>?_) (fun g1=>?_))))))))
 try simp only [sQ,ne_eq] at g1
 refine wSk (Zc (Zh (Zc (Z2 (same _ _) mo kr ⟨rfl,rfl⟩ (fun _ _=>?_)))))
 refine aW 0 rfl ZbZ (h:=aT 1 rfl (Zac fun D=>Zm rfl rfl ZiW rfl (atL 0 rfl rfl rfl) r4) (h:=aM 2 rfl (h:=aM 3 rfl (h:=?_))))
 obtain ⟨z,hz⟩:=ZY (xs:=ns) (i:=k) om
 obtain ⟨bb4,oo4,rfl⟩:=hn.base hz
 obtain ⟨_,⟨rfl,hb5⟩,hc5⟩:=hn.elem hz
 refine aIx 4 rfl Tryz.underlying143 sz9 (h:=aT 5 rfl (Zac fun D=>Zm rfl rfl lk9 rfl (hc5 _ 0 _ rfl) r4) (h:=aT 6 rfl (Zac fun D=>Z8 rfl rfl ZwC rfl (ZfW _ _ _ _ _ hu) r4) (h:=ZsJ 7 rfl (h:=Zt kr kr ?_))))
 refine Zo (Zb rfl (fun g2=>?_) (fun g2=>?_))
 try simp only [sQ,ne_eq] at g2
 refine Za (xA (h:=Ze (ZB (Zn (ZS (ZB (Zn ?_)))))))
 exact eR t1 ⟨Zd (Zdq hz (by simp;omega)).symm,rfl,rfl⟩
 try simp only [sQ,ne_eq] at g2
 refine ZX (ZP (Zo (Zf (xM (h:=xD (h:=xA (h:=?_)))))))
 exact ZD (k+1) [0] so2 ⟨rfl,oz,Zbg hz ha (by simp;omega)⟩ t4 rfl
 try simp only [sQ,ne_eq] at g1
 refine ZE (ZV (ZH (Zw (Zo (Za (xA (h:=Ze ?_)))))))
 exact eR t1 ⟨Zd (ZeZ (Zbq oz ha)).symm,rfl,rfl⟩

theorem Zpt (q1 q2 q3:Option Addr) (c1 c2 c3:Nat) (x:DHost) (u:Str) (B:Kn) (hf:SlK B q2 c2 5 Zu x.folders):Zaa (pj J) 95 [.agg #[str x.domain,.slice q1 x.users.length c1,.slice q2 x.folders.length c2,.int .i64 x.queue.next,.slice q3 x.queue.items.length c3],str u] B (.int .i64 (Zdz x.folders u)):=by
 refine cB 32 Tryz.func95 (h:=?_)
 have hfn:=hf.len
 refine Za (xBx [_,_,_,_,_] (h:=fun b1=>xA (h:=tL1 (Za (xA (h:=Zc (Za (xA (h:=Zh (Zz (α:=Nat × Nat) [0,1,2,4] (fun g=>[(5,.int .i64 g.2),(6,.int .i64 g.1)]) [] (fun g=>[]) (fun g Bx=>Bx=B∧g.1≤x.folders.length∧g.2=Zdz (x.folders.take g.1) u∧g.2≤g.1*4000000000000) (fun g=>x.folders.length - g.1) (0,0) t2 rfl (⟨rfl,Nat.zero_le _,by simp [Zdz],oz⟩) (fun g B2 hle2 hI=>?_)))))))))))
 obtain ⟨rfl,hk,hs,hl⟩:=hI
 refine ZC [(0,_),(1,_),(2,_),(4,_),(5,_),(6,_)] [_] t6 rfl (Zc (Za (xM (h:=xW Zay (h:=x1 ZeO 0 (h:=xV Tryz.underlying24 (h:=ZF (h:=Zb rfl (fun g1=>?_) (fun g1=>?_)))))))))
 try simp only [sQ,ne_eq] at g1
 refine wSk (Zc (Zh (Za (xW Zay (h:=x1 ZeO 0 (h:=xM (h:=?_)))))))
 obtain ⟨m,hm⟩:=ZY (xs:=x.folders) (i:=g.1) om
 obtain ⟨bb4,oo4,rfl⟩:=hf.base hm
 obtain ⟨_,⟨qg5,cg5,qm5,cm5,rfl,hg5,hm5,hb5,hb5b⟩,hc5⟩:=hf.elem hm
 have hg5n:=hg5.len
 have hm5n:=hm5.len
 have hm5s:=Zaq hm5
 refine xIx Tryz.underlying24 Zb0 (h:=xW Zcc (h:=y1 lk9 hc5 0 (h:=xM (h:=Zdx (h:=Zb rfl (fun g2=>?_) (fun g2=>?_))))))
 try simp only [sQ,ne_eq] at g2
 refine Zf (xM (h:=xW Zay (h:=x1 ZeO 0 (h:=xM (h:=xIx Tryz.underlying24 Zb0 (h:=xW Zcb (h:=yL [_,_] ZgV hc5 3 (h:=xR Zyz rfl (Zpw _ _ (⟨m.next,m.mail⟩:DBox) _ hm5) (h:=xD (h:=xA (h:=ZP (Zo (Zf (xM (h:=xD (h:=xA (h:=?_)))))))))))))))))
 exact ZD (g.1+1,g.2+ZaA m.mail) [0] so2 ⟨rfl,so,by rw [Zib hm,← hs,if_pos g2],so⟩ t6 rfl
 try simp only [sQ,ne_eq] at g2
 refine ZX (ZP (Zo (Zf (xM (h:=xD (h:=xA (h:=?_)))))))
 exact ZD (g.1+1,g.2) [0] so2 ⟨rfl,so,by rw [Zib hm,← hs,if_neg g2];simp only [Nat.add_zero],Nat.le_trans hl (Nat.mul_le_mul_right _ (Nat.le_succ _))⟩ t6 rfl
 try simp only [sQ,ne_eq] at g1
 refine ZE (ZV (ZH (Zw (Zo (Za (xM (h:=xA (h:=Ze ?_))))))))
 exact eR t1 ⟨ZG (by rw [← Zox hs oz]),rfl,rfl⟩

end Go.Proofs.YtkppijmhadbpdaaGreatDoor
