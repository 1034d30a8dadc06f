/-
  WHAT THE FUNCTIONS THAT THE LAWS REACH COMPUTE: each function's contract, proved off its printed body (the text is written by program). No condition beyond those that each theorem states.
-/
import Derived.Test.YtkppijmhadbpdaaGreatDoorRows
import Derived.Test.YtkppijmhadbpdaaGreatDoorL0
import Derived.KernelRfl
namespace Go.Proofs.YtkppijmhadbpdaaGreatDoor
open Go Go.BL
set_option linter.unusedVariables false
set_option linter.unusedSimpArgs false
noncomputable abbrev pj (J : JoinT) : PJ := ⟨Tryz.prog, J⟩
noncomputable abbrev wgL : Go.Conc.Lib.WgLink := { add := 145, done := 147, wait := 151, relMerge := 203, disable := 204, enable := 205, inBubble := 206, associate := 207, fatal := 208, uOr := 209, uAdd := 210, raceRead := 211, uLoad := 212, uStore := 213, disassociate := 214, semrelease := 215, acquire := 217, isAssociated := 218, uCas := 219, raceWrite := 220, semacquire := 221, orU64 := 258, addU64 := 259, loadU64 := 260, storeU64 := 261, casU64 := 263, tWg := 231, tUP := 284, tAssoc := 285, tAU := 229, tU64 := 227, tUint := 289, tU32 := 154, tNoCopy := 153, tANoCopy := 225, tAlign64 := 226, tWgP := 282, tPU32 := 290, tPAU := 344, tPU64 := 346 }
theorem ZlV : Go.Conc.Lib.WgLib Tryz.prog wgL :=
  ⟨Tryz.func145, Tryz.func147, Tryz.func151, Tryz.func203, Tryz.func204, Tryz.func205, Tryz.func206, Tryz.func207, Tryz.func208, Tryz.func209, Tryz.func210, Tryz.func211, Tryz.func212, Tryz.func213, Tryz.func214, Tryz.func215, Tryz.func217, Tryz.func218, Tryz.func219, Tryz.func220, Tryz.func221, Tryz.func258, Tryz.func259, Tryz.func260, Tryz.func261, Tryz.func263, Tryz.underlying282, Tryz.runUnderlying282, Tryz.sizeOf282, Tryz.isAgg282, Tryz.zeroValue282, Tryz.underlying284, Tryz.runUnderlying284, Tryz.sizeOf284, Tryz.isAgg284, Tryz.zeroValue284, Tryz.underlying285, Tryz.runUnderlying285, Tryz.sizeOf285, Tryz.isAgg285, Tryz.zeroValue285, Tryz.underlying231, Tryz.runUnderlying231, Tryz.sizeOf231, Tryz.isAgg231, Tryz.zeroValue231, Tryz.underlying229, Tryz.runUnderlying229, Tryz.sizeOf229, Tryz.isAgg229, Tryz.zeroValue229, Tryz.underlying227, Tryz.runUnderlying227, Tryz.sizeOf227, Tryz.isAgg227, Tryz.zeroValue227, Tryz.underlying289, Tryz.runUnderlying289, Tryz.sizeOf289, Tryz.isAgg289, Tryz.zeroValue289, Tryz.underlying154, Tryz.runUnderlying154, Tryz.sizeOf154, Tryz.isAgg154, Tryz.zeroValue154, Tryz.underlying290, Tryz.runUnderlying290, Tryz.sizeOf290, Tryz.isAgg290, Tryz.zeroValue290, Tryz.underlying344, Tryz.runUnderlying344, Tryz.sizeOf344, Tryz.isAgg344, Tryz.zeroValue344, Tryz.underlying346, Tryz.runUnderlying346, Tryz.sizeOf346, Tryz.isAgg346, Tryz.zeroValue346, Tryz.underlying0, Tryz.runUnderlying0, Tryz.sizeOf0, Tryz.isAgg0, Tryz.zeroValue0, Tryz.underlying3, Tryz.runUnderlying3, Tryz.sizeOf3, Tryz.isAgg3, Tryz.zeroValue3, Tryz.underlying4, Tryz.runUnderlying4, Tryz.sizeOf4, Tryz.isAgg4, Tryz.zeroValue4, Tryz.underlying9, Tryz.runUnderlying9, Tryz.sizeOf9, Tryz.isAgg9, Tryz.zeroValue9, Tryz.underlying20, Tryz.runUnderlying20, Tryz.sizeOf20, Tryz.isAgg20, Tryz.zeroValue20, Tryz.underlying21, Tryz.runUnderlying21, Tryz.sizeOf21, Tryz.isAgg21, Tryz.zeroValue21, (by kernel_rfl), (by kernel_rfl)⟩
abbrev muL : Go.Conc.Locks.MuLink := { lock := 167, unlock := 168, ilock := 228, iunlock := 229, lockSlow := 268, unlockSlow := 270, disable := 204, enable := 205, acquire := 217, relMerge := 203, cas32 := 267, add32 := 269, tMutex := 158, tIMutex := 156, tPMutex := 316, tPIMutex := 356, tPI32 := 358, tUP := 284, tNoCopy := 153, tU32 := 154 }
theorem Zs6 : Go.Conc.Locks.MuLib Tryz.prog muL :=
  ⟨Tryz.func167, Tryz.func168, Tryz.func228, Tryz.func229, Tryz.func204, Tryz.func205, Tryz.func217, Tryz.func203, Tryz.func267, Tryz.func269, Tryz.underlying156, Tryz.runUnderlying156, Tryz.sizeOf156, Tryz.isAgg156, Tryz.zeroValue156, Tryz.underlying158, Tryz.runUnderlying158, Tryz.sizeOf158, Tryz.isAgg158, Tryz.zeroValue158, Tryz.underlying316, Tryz.runUnderlying316, Tryz.sizeOf316, Tryz.isAgg316, Tryz.zeroValue316, Tryz.underlying356, Tryz.runUnderlying356, Tryz.sizeOf356, Tryz.isAgg356, Tryz.zeroValue356, Tryz.underlying358, Tryz.runUnderlying358, Tryz.sizeOf358, Tryz.isAgg358, Tryz.zeroValue358, Tryz.underlying284, Tryz.runUnderlying284, Tryz.sizeOf284, Tryz.isAgg284, Tryz.zeroValue284, Tryz.underlying153, Tryz.runUnderlying153, Tryz.sizeOf153, Tryz.isAgg153, Tryz.zeroValue153, Tryz.underlying21, Tryz.runUnderlying21, Tryz.sizeOf21, Tryz.isAgg21, Tryz.zeroValue21, (by kernel_rfl)⟩
theorem Zfw : enters Tryz.prog 106 = true := by kernel_rfl
theorem mo : Tryz.prog.follows .mixedOrders = true := by kernel_rfl
theorem Zcf : Zs Tryz.prog 216 1 = some 1 := by kernel_rfl
theorem lk3 : lk Tryz.prog 3 = some none := by kernel_rfl
theorem ZgY : Zs Tryz.prog 216 0 = some 0 := by kernel_rfl
theorem lk9 : lk Tryz.prog 9 = some none := by kernel_rfl
theorem ZtN : enters Tryz.prog 140 = true := by kernel_rfl
theorem sz3 : ZP Tryz.prog 3 = some 1 := by kernel_rfl
theorem Zzq : enters Tryz.prog 253 = true := by kernel_rfl
theorem Zv3 : enters Tryz.prog 197 = true := by kernel_rfl
theorem ZzO : enters Tryz.prog 198 = true := by kernel_rfl
theorem Zw4 : Za7 Tryz.prog 216 = some [(0, 1), (1, 1)] := by kernel_rfl
theorem Zr5 : Zai Tryz.prog 216 = some (.agg #[.string ⟨#[]⟩, .int .i64 0]) := by kernel_rfl
theorem ZwX : ZP Tryz.prog 216 = some 2 := by kernel_rfl
theorem sz5 : ZP Tryz.prog 5 = some 1 := by kernel_rfl
theorem sz9 : ZP Tryz.prog 9 = some 1 := by kernel_rfl
theorem zo9 : Zai Tryz.prog 9 = some (.string ⟨#[]⟩) := by kernel_rfl
theorem Zrt : ZcG Tryz.prog 143 9 1 16 = true := by kernel_rfl
theorem ZsF : (match Program.underlying Tryz.prog 143 with | some (.slice _) => true | _ => false) = true := by kernel_rfl
theorem ZAc : enters Tryz.prog 158 = true := by kernel_rfl
theorem ZmX : enters Tryz.prog 159 = true := by kernel_rfl
theorem Zbq : ZP Tryz.prog 141 = some 3 := by kernel_rfl
theorem Zbi : Zs Tryz.prog 141 0 = some 0 := by kernel_rfl
theorem Zzl : enters Tryz.prog 264 = true := by kernel_rfl
theorem Zq3 : Zs Tryz.prog 222 0 = some 0 := by kernel_rfl
theorem ZmU : Zs Tryz.prog 222 1 = some 1 := by kernel_rfl
theorem ZfV : lk Tryz.prog 143 = some none := by kernel_rfl
theorem ZzI : enters Tryz.prog 223 = true := by kernel_rfl
theorem Zq2 : Zs Tryz.prog 222 2 = some 2 := by kernel_rfl
theorem Zzf : enters Tryz.prog 276 = true := by kernel_rfl
theorem Zlw : enters Tryz.prog 149 = true := by kernel_rfl
theorem Zzp : enters Tryz.prog 254 = true := by kernel_rfl
theorem ZzN : enters Tryz.prog 199 = true := by kernel_rfl
theorem ZbX : Zs Tryz.prog 27 1 = some 1 := by kernel_rfl
theorem Zi5 : lk Tryz.prog 25 = some none := by kernel_rfl
theorem ZbC : ZP Tryz.prog 145 = some 4 := by kernel_rfl
theorem Ze1 : lk Tryz.prog 145 = some (some 4) := by kernel_rfl
theorem Zfs : Zai Tryz.prog 145 = some (.agg #[.int .i64 0, .string ⟨#[]⟩, .string ⟨#[]⟩, .slice none 0 0]) := by kernel_rfl
theorem ZeF : Zs Tryz.prog 145 0 = some 0 := by kernel_rfl
theorem ZeE : Zs Tryz.prog 145 1 = some 1 := by kernel_rfl
theorem ZcQ : Zs Tryz.prog 145 3 = some 3 := by kernel_rfl
theorem ZfY : Zs Tryz.prog 145 2 = some 2 := by kernel_rfl
theorem Zw3 : Za7 Tryz.prog 222 = some [(0, 1), (1, 1), (2, 1)] := by kernel_rfl
theorem Zwq : Zai Tryz.prog 222 = some (.agg #[.string ⟨#[]⟩, .slice none 0 0, .string ⟨#[]⟩]) := by kernel_rfl
theorem ZAb : enters Tryz.prog 160 = true := by kernel_rfl
theorem Zgs : Zs Tryz.prog 27 0 = some 0 := by kernel_rfl
theorem Zr4 : Zai Tryz.prog 27 = some (.agg #[.int .i64 0, .slice none 0 0]) := by kernel_rfl
theorem ZAX : Za7 Tryz.prog 27 = some [(0, 1), (1, 1)] := by kernel_rfl
theorem Zu0 : ZP Tryz.prog 27 = some 2 := by kernel_rfl
theorem Zu2 : ZP Tryz.prog 143 = some 1 := by kernel_rfl
theorem Zy5 : ZcG Tryz.prog 25 145 4 64 = true := by kernel_rfl
theorem ZAS : (match Program.underlying Tryz.prog 25 with | some (.slice _) => true | _ => false) = true := by kernel_rfl
theorem ZyF : ZP Tryz.prog 25 = some 1 := by kernel_rfl
theorem ZlS : lk Tryz.prog 27 = some (some 2) := by kernel_rfl
theorem ZBw : enters Tryz.prog 93 = true := by kernel_rfl
theorem ZeL : enters Tryz.prog 117 = true := by kernel_rfl
theorem zo3 : Zai Tryz.prog 3 = some (.int .i64 0) := by kernel_rfl
theorem Zyf : Zai Tryz.prog 314 = some (.pointer none) := by kernel_rfl
theorem Zzk : enters Tryz.prog 265 = true := by kernel_rfl
theorem Zze : enters Tryz.prog 277 = true := by kernel_rfl
theorem Zvo : lk Tryz.prog 314 = some none := by kernel_rfl
theorem Zzj : enters Tryz.prog 266 = true := by kernel_rfl
theorem ZyJ : Za7 Tryz.prog 351 = some [(0, 4), (4, 1)] := by kernel_rfl
theorem Zye : Zai Tryz.prog 351 = some (.agg #[.int .i64 0, .string ⟨#[]⟩, .string ⟨#[]⟩, .slice none 0 0, .pointer none]) := by kernel_rfl
theorem ZyE : ZP Tryz.prog 314 = some 1 := by kernel_rfl
theorem ZvH : Zs Tryz.prog 351 0 = some 0 := by kernel_rfl
theorem ZvG : Zs Tryz.prog 351 1 = some 4 := by kernel_rfl
theorem ZzF : enters Tryz.prog 227 = true := by kernel_rfl
theorem ZzG : enters Tryz.prog 226 = true := by kernel_rfl
theorem Zfu : lk Tryz.prog 279 = some none := by kernel_rfl
theorem Zy4 : ZcG Tryz.prog 279 3 1 8 = true := by kernel_rfl
theorem ZyI : (match Program.underlying Tryz.prog 279 with | some (.slice _) => true | _ => false) = true := by kernel_rfl
theorem ZwV : ZP Tryz.prog 279 = some 1 := by kernel_rfl
theorem Zed : ZjD Tryz.prog 278 "Less" 306 false = true := by kernel_rfl
theorem Zrw : enters Tryz.prog 306 = true := by kernel_rfl
theorem Zec : ZjD Tryz.prog 278 "Swap" 309 false = true := by kernel_rfl
theorem Zrv : enters Tryz.prog 309 = true := by kernel_rfl
theorem Zoy : ZjD Tryz.prog 278 "Push" 308 true = true := by kernel_rfl
theorem Zzc : enters Tryz.prog 308 = true := by kernel_rfl
theorem ZkV : ZjD Tryz.prog 278 "Len" 305 false = true := by kernel_rfl
theorem ZxF : enters Tryz.prog 305 = true := by kernel_rfl
theorem Zzo : enters Tryz.prog 255 = true := by kernel_rfl
theorem Zzn : enters Tryz.prog 256 = true := by kernel_rfl
theorem Zqp : ZjD Tryz.prog 278 "Pop" 307 true = true := by kernel_rfl
theorem Zzd : enters Tryz.prog 307 = true := by kernel_rfl
theorem ZzM : enters Tryz.prog 200 = true := by kernel_rfl
theorem ZzL : enters Tryz.prog 201 = true := by kernel_rfl
theorem ZAm : enters Tryz.prog 142 = true := by kernel_rfl
theorem ZAl : enters Tryz.prog 143 = true := by kernel_rfl
theorem ZeR : Zs Tryz.prog 99 0 = some 0 := by kernel_rfl
theorem Zgr : Zs Tryz.prog 99 1 = some 1 := by kernel_rfl
theorem Zzu : enters Tryz.prog 239 = true := by kernel_rfl
theorem Zfa : Zs Tryz.prog 99 2 = some 2 := by kernel_rfl
theorem ZxI : enters Tryz.prog 184 = true := by kernel_rfl
theorem Zbc : Zs Tryz.prog 93 1 = some 1 := by kernel_rfl
theorem Zh1 : lk Tryz.prog 91 = some none := by kernel_rfl
theorem Zgg : ZP Tryz.prog 99 = some 3 := by kernel_rfl
theorem ZmA : lk Tryz.prog 99 = some (some 3) := by kernel_rfl
theorem ZzS : enters Tryz.prog 181 = true := by kernel_rfl
theorem Zda : Zs Tryz.prog 93 0 = some 0 := by kernel_rfl
theorem ZlU : Zai Tryz.prog 99 = some (.agg #[.int .i64 0, .int .i64 0, .string ⟨#[]⟩]) := by kernel_rfl
theorem ZzR : enters Tryz.prog 182 = true := by kernel_rfl
theorem Zfl : lk Tryz.prog 93 = some (some 2) := by kernel_rfl
theorem Zv6 : enters Tryz.prog 120 = true := by kernel_rfl
theorem ZfZ : Zs Tryz.prog 141 1 = some 1 := by kernel_rfl
theorem ZdD : Zs Tryz.prog 141 2 = some 2 := by kernel_rfl
theorem Zfv : lk Tryz.prog 141 = some (some 3) := by kernel_rfl
theorem Zeo : Zai Tryz.prog 141 = some (.agg #[.string ⟨#[]⟩, .string ⟨#[]⟩, .int .i64 0]) := by kernel_rfl
theorem ZAn : enters Tryz.prog 141 = true := by kernel_rfl
theorem ZBb : enters Tryz.prog 82 = true := by kernel_rfl
theorem ZyM : Za7 Tryz.prog 141 = some [(0, 1), (1, 1), (2, 1)] := by kernel_rfl
theorem Zzt : enters Tryz.prog 240 = true := by kernel_rfl
theorem Zzs : enters Tryz.prog 241 = true := by kernel_rfl
theorem ZbL : Zs Tryz.prog 29 1 = some 1 := by kernel_rfl
theorem ZiE : lk Tryz.prog 23 = some none := by kernel_rfl
theorem ZxH : enters Tryz.prog 186 = true := by kernel_rfl
theorem Zat : Zs Tryz.prog 29 2 = some 2 := by kernel_rfl
theorem ZeB : lk Tryz.prog 24 = some none := by kernel_rfl
theorem ZbM : ZP Tryz.prog 96 = some 5 := by kernel_rfl
theorem ZbW : Zs Tryz.prog 96 0 = some 0 := by kernel_rfl
theorem Zeh : Zs Tryz.prog 96 1 = some 1 := by kernel_rfl
theorem ZiB : lk Tryz.prog 96 = some (some 5) := by kernel_rfl
theorem ZAg : enters Tryz.prog 153 = true := by kernel_rfl
theorem ZAf : enters Tryz.prog 154 = true := by kernel_rfl
theorem ZeS : Zs Tryz.prog 29 3 = some 3 := by kernel_rfl
theorem ZtM : enters Tryz.prog 148 = true := by kernel_rfl
theorem Zd0 : ZP Tryz.prog 259 = some 2 := by kernel_rfl
theorem Zcz : Zs Tryz.prog 259 0 = some 0 := by kernel_rfl
theorem ZdC : Zs Tryz.prog 259 1 = some 1 := by kernel_rfl
theorem ZxC : enters Tryz.prog 96 = true := by kernel_rfl
theorem Zbv : Zs Tryz.prog 96 3 = some 3 := by kernel_rfl
theorem Zz8 : enters Tryz.prog 163 = true := by kernel_rfl
theorem Zgx : Zai Tryz.prog 96 = some (.agg #[.string ⟨#[]⟩, .string ⟨#[]⟩, .slice none 0 0, .int .i64 0, .slice none 0 0]) := by kernel_rfl
theorem Zeg : Zs Tryz.prog 96 2 = some 2 := by kernel_rfl
theorem Zr2 : lk Tryz.prog 94 = some none := by kernel_rfl
theorem ZAa : enters Tryz.prog 161 = true := by kernel_rfl
theorem ZAw : enters Tryz.prog 119 = true := by kernel_rfl
theorem Zz9 : enters Tryz.prog 162 = true := by kernel_rfl
theorem Zif : Zs Tryz.prog 29 0 = some 0 := by kernel_rfl
theorem ZBy : enters Tryz.prog 91 = true := by kernel_rfl
theorem ZBx : enters Tryz.prog 92 = true := by kernel_rfl
theorem Zcd : lk Tryz.prog 29 = some (some 5) := by kernel_rfl
theorem ZBv : enters Tryz.prog 94 = true := by kernel_rfl
theorem Zy8 : enters Tryz.prog 42 = true := by kernel_rfl
theorem ZA8 : enters Tryz.prog 95 = true := by kernel_rfl
theorem ZBu : enters Tryz.prog 97 = true := by kernel_rfl
theorem ZqA : lk Tryz.prog 259 = some (some 2) := by kernel_rfl
theorem Zn3 : Zai Tryz.prog 259 = some (.agg #[.string ⟨#[]⟩, .int .i64 0]) := by kernel_rfl
theorem Zzm : enters Tryz.prog 262 = true := by kernel_rfl
theorem ZxG : enters Tryz.prog 216 = true := by kernel_rfl
theorem Zxv : Extern.findNext Tryz.f257 = none := by kernel_rfl
theorem Zxw : Extern.find Tryz.f257 = some Extern.BytealgCompare.compare := by kernel_rfl
theorem ZzK : enters Tryz.prog 202 = true := by kernel_rfl
theorem ZxL : enters Tryz.prog 144 = true := by kernel_rfl
theorem Zzr : enters Tryz.prog 242 = true := by kernel_rfl
theorem ZzP : enters Tryz.prog 187 = true := by kernel_rfl
theorem ZBa : enters Tryz.prog 88 = true := by kernel_rfl
theorem ZxM : enters Tryz.prog 128 = true := by kernel_rfl
theorem sz4 : ZP Tryz.prog 4 = some 1 := by kernel_rfl
theorem lk4 : lk Tryz.prog 4 = some none := by kernel_rfl
theorem ZzJ : enters Tryz.prog 222 = true := by kernel_rfl
theorem ZAo : enters Tryz.prog 139 = true := by kernel_rfl
theorem Zxh : lk Tryz.prog 224 = some none := by kernel_rfl
theorem ZyR : lk Tryz.prog 90 = some none := by kernel_rfl
theorem ZAj : enters Tryz.prog 150 = true := by kernel_rfl
theorem Zyj : Zai Tryz.prog 231 = some (.agg #[.int .u64 0, .int .u32 0]) := by kernel_rfl
theorem Zy6 : ZcG Tryz.prog 224 4 1 1 = true := by kernel_rfl
theorem zo4 : Zai Tryz.prog 4 = some (.bool false) := by kernel_rfl
theorem Zyk : Zai Tryz.prog 224 = some (.slice none 0 0) := by kernel_rfl
theorem ZyG : ZP Tryz.prog 224 = some 1 := by kernel_rfl
theorem ZAk : enters Tryz.prog 145 = true := by kernel_rfl
theorem ZAi : enters Tryz.prog 151 = true := by kernel_rfl
theorem ZAh : enters Tryz.prog 152 = true := by kernel_rfl
theorem ZBE : enters Tryz.prog 81 = true := by kernel_rfl
theorem ZBD : enters Tryz.prog 83 = true := by kernel_rfl
theorem ZBC : enters Tryz.prog 84 = true := by kernel_rfl
theorem ZBB : enters Tryz.prog 85 = true := by kernel_rfl
theorem ZBA : enters Tryz.prog 86 = true := by kernel_rfl
theorem ZBz : enters Tryz.prog 87 = true := by kernel_rfl
theorem Zrc : Zs Tryz.prog 168 0 = some 0 := by kernel_rfl
theorem Zrb : Zs Tryz.prog 168 1 = some 1 := by kernel_rfl
theorem ZqY : Zs Tryz.prog 318 0 = some 0 := by kernel_rfl
theorem ZqV : Zs Tryz.prog 362 2 = some 2 := by kernel_rfl
theorem ZwZ : ZP Tryz.prog 168 = some 3 := by kernel_rfl
theorem Zxm : lk Tryz.prog 168 = some (some 3) := by kernel_rfl
theorem ZAK : enters Tryz.prog 103 = true := by kernel_rfl
theorem ZwU : ZP Tryz.prog 318 = some 2 := by kernel_rfl
theorem Zxf : lk Tryz.prog 318 = some (some 2) := by kernel_rfl
theorem ZzD : enters Tryz.prog 230 = true := by kernel_rfl
theorem ZwT : ZP Tryz.prog 362 = some 3 := by kernel_rfl
theorem Zxe : lk Tryz.prog 362 = some (some 3) := by kernel_rfl
theorem Zzi : enters Tryz.prog 271 = true := by kernel_rfl
theorem Zq1 : Zs Tryz.prog 250 1 = some 1 := by kernel_rfl
theorem Zq0 : Zs Tryz.prog 250 2 = some 2 := by kernel_rfl
theorem ZqZ : Zs Tryz.prog 250 3 = some 3 := by kernel_rfl
theorem ZzB : enters Tryz.prog 232 = true := by kernel_rfl
theorem ZwW : ZP Tryz.prog 250 = some 4 := by kernel_rfl
theorem Zxg : lk Tryz.prog 250 = some (some 4) := by kernel_rfl
theorem Zz1 : enters Tryz.prog 171 = true := by kernel_rfl
theorem Zra : Zs Tryz.prog 173 1 = some 1 := by kernel_rfl
theorem Zxk : lk Tryz.prog 171 = some none := by kernel_rfl
theorem ZzC : enters Tryz.prog 231 = true := by kernel_rfl
theorem ZuB : Zs Tryz.prog 47 1 = some 1 := by kernel_rfl
theorem ZAZ : lk Tryz.prog 45 = some none := by kernel_rfl
theorem ZAI : enters Tryz.prog 105 = true := by kernel_rfl
theorem Zq9 : Zs Tryz.prog 175 0 = some 0 := by kernel_rfl
theorem Zq8 : Zs Tryz.prog 175 1 = some 1 := by kernel_rfl
theorem Zq7 : Zs Tryz.prog 175 2 = some 2 := by kernel_rfl
theorem Zxl : lk Tryz.prog 170 = some none := by kernel_rfl
theorem Zz3 : enters Tryz.prog 169 = true := by kernel_rfl
theorem Zq6 : Zs Tryz.prog 175 3 = some 3 := by kernel_rfl
theorem Zxj : lk Tryz.prog 173 = some (some 2) := by kernel_rfl
theorem Zz2 : enters Tryz.prog 170 = true := by kernel_rfl
theorem ZwY : ZP Tryz.prog 175 = some 5 := by kernel_rfl
theorem Zxi : lk Tryz.prog 175 = some (some 5) := by kernel_rfl
theorem ZAJ : enters Tryz.prog 104 = true := by kernel_rfl
theorem ZuA : Zs Tryz.prog 49 0 = some 0 := by kernel_rfl
theorem Zuz : Zs Tryz.prog 49 1 = some 1 := by kernel_rfl
theorem ZA1 : lk Tryz.prog 43 = some none := by kernel_rfl
theorem ZB0 : enters Tryz.prog 47 = true := by kernel_rfl
theorem Zuy : Zs Tryz.prog 49 2 = some 2 := by kernel_rfl
theorem ZA0 : lk Tryz.prog 44 = some none := by kernel_rfl
theorem ZBZ : enters Tryz.prog 48 = true := by kernel_rfl
theorem Zux : Zs Tryz.prog 49 3 = some 3 := by kernel_rfl
theorem ZAY : lk Tryz.prog 47 = some (some 2) := by kernel_rfl
theorem ZBY : enters Tryz.prog 49 = true := by kernel_rfl
theorem ZvM : Zs Tryz.prog 168 2 = some 2 := by kernel_rfl
theorem ZvI : Zs Tryz.prog 318 1 = some 1 := by kernel_rfl
theorem ZvF : Zs Tryz.prog 362 0 = some 0 := by kernel_rfl
theorem ZvE : Zs Tryz.prog 362 1 = some 1 := by kernel_rfl
theorem ZoY : ZcG Tryz.prog 23 141 3 40 = true := by kernel_rfl
theorem ZAG : enters Tryz.prog 108 = true := by kernel_rfl
theorem Zy3 : ZcG Tryz.prog 94 259 2 24 = true := by kernel_rfl
theorem ZzA : enters Tryz.prog 233 = true := by kernel_rfl
theorem Zwp : Zai Tryz.prog 40 = some (.agg #[.int .i64 0, .int .i64 0]) := by kernel_rfl
theorem ZvO : Zs Tryz.prog 113 0 = some 0 := by kernel_rfl
theorem Zhl : Zs Tryz.prog 40 0 = some 0 := by kernel_rfl
theorem ZvN : Zs Tryz.prog 113 1 = some 1 := by kernel_rfl
theorem Zhk : Zs Tryz.prog 40 1 = some 1 := by kernel_rfl
theorem Zwm : lk Tryz.prog 40 = some (some 2) := by kernel_rfl
theorem Zl6 : ZP Tryz.prog 40 = some 2 := by kernel_rfl
theorem ZBs : ZcG Tryz.prog 41 40 2 16 = true := by kernel_rfl
theorem ZyH : ZP Tryz.prog 113 = some 2 := by kernel_rfl
theorem ZyU : lk Tryz.prog 113 = some (some 2) := by kernel_rfl
theorem ZBS : enters Tryz.prog 56 = true := by kernel_rfl
theorem Zwn : ZcG Tryz.prog 91 99 3 32 = true := by kernel_rfl
theorem Zzh : enters Tryz.prog 272 = true := by kernel_rfl
theorem ZvJ : Zs Tryz.prog 250 0 = some 0 := by kernel_rfl
theorem Zzy : enters Tryz.prog 235 = true := by kernel_rfl
theorem ZzX : enters Tryz.prog 175 = true := by kernel_rfl
theorem Zxu : Zs Tryz.prog 47 0 = some 0 := by kernel_rfl
theorem ZAE : enters Tryz.prog 110 = true := by kernel_rfl
theorem Zpc : Zai Tryz.prog 93 = some (.agg #[.int .i64 0, .slice none 0 0]) := by kernel_rfl
theorem ZvL : Zs Tryz.prog 173 0 = some 0 := by kernel_rfl
theorem Zzz : enters Tryz.prog 234 = true := by kernel_rfl
theorem ZyD : ZP Tryz.prog 91 = some 1 := by kernel_rfl
theorem Zjr : ZP Tryz.prog 93 = some 2 := by kernel_rfl
theorem ZzZ : enters Tryz.prog 173 = true := by kernel_rfl
theorem ZyC : ZP Tryz.prog 94 = some 1 := by kernel_rfl
theorem ZzY : enters Tryz.prog 174 = true := by kernel_rfl
theorem Zx9 : ZcG Tryz.prog 24 96 5 88 = true := by kernel_rfl
theorem ZAF : enters Tryz.prog 109 = true := by kernel_rfl
theorem Zb3 : Zai Tryz.prog 29 = some (.agg #[.string ⟨#[]⟩, .slice none 0 0, .slice none 0 0, .int .i64 0, .slice none 0 0]) := by kernel_rfl
theorem ZBV : enters Tryz.prog 53 = true := by kernel_rfl
theorem ZBl : ZP Tryz.prog 23 = some 1 := by kernel_rfl
theorem ZBU : enters Tryz.prog 54 = true := by kernel_rfl
theorem ZAP : ZP Tryz.prog 24 = some 1 := by kernel_rfl
theorem ZBT : enters Tryz.prog 55 = true := by kernel_rfl
theorem ZcL : ZP Tryz.prog 29 = some 5 := by kernel_rfl
theorem ZBO : enters Tryz.prog 61 = true := by kernel_rfl
theorem ZAD : enters Tryz.prog 111 = true := by kernel_rfl
theorem Zzx : enters Tryz.prog 236 = true := by kernel_rfl
theorem Zzg : enters Tryz.prog 273 = true := by kernel_rfl
theorem Zzv : enters Tryz.prog 238 = true := by kernel_rfl
theorem ZzU : enters Tryz.prog 178 = true := by kernel_rfl
theorem ZAB : enters Tryz.prog 113 = true := by kernel_rfl
theorem Zzw : enters Tryz.prog 237 = true := by kernel_rfl
theorem ZzW : enters Tryz.prog 176 = true := by kernel_rfl
theorem ZzV : enters Tryz.prog 177 = true := by kernel_rfl
theorem ZAC : enters Tryz.prog 112 = true := by kernel_rfl
theorem ZBR : enters Tryz.prog 58 = true := by kernel_rfl
theorem ZBQ : enters Tryz.prog 59 = true := by kernel_rfl
theorem ZBP : enters Tryz.prog 60 = true := by kernel_rfl
theorem Zpd : (match Program.underlying Tryz.prog 23 with | some (.slice _) => true | _ => false) = true := by kernel_rfl
theorem Zx3 : (match Program.underlying Tryz.prog 91 with | some (.slice _) => true | _ => false) = true := by kernel_rfl
theorem ZAW : Za7 Tryz.prog 93 = some [(0, 1), (1, 1)] := by kernel_rfl
theorem ZAQ : (match Program.underlying Tryz.prog 94 with | some (.slice _) => true | _ => false) = true := by kernel_rfl
theorem Zv4 : enters Tryz.prog 188 = true := by kernel_rfl
theorem Zhn : Za7 Tryz.prog 29 = some [(0, 1), (1, 1), (2, 1), (3, 2)] := by kernel_rfl
theorem ZAT : (match Program.underlying Tryz.prog 24 with | some (.slice _) => true | _ => false) = true := by kernel_rfl
theorem ZB3 : enters Tryz.prog 40 = true := by kernel_rfl
theorem zo5 : Zai Tryz.prog 5 = some (.int .u8 0) := by kernel_rfl
theorem Zkh : enters Tryz.prog 65 = true := by kernel_rfl
theorem Zv2 : enters Tryz.prog 224 = true := by kernel_rfl
theorem Zz7 : enters Tryz.prog 164 = true := by kernel_rfl
theorem ZA7 : enters Tryz.prog 98 = true := by kernel_rfl
theorem ZxK : enters Tryz.prog 180 = true := by kernel_rfl
theorem ZAx : enters Tryz.prog 118 = true := by kernel_rfl
theorem ZAV : Za7 Tryz.prog 99 = some [(0, 1), (1, 1), (2, 1)] := by kernel_rfl
theorem ZxD : enters Tryz.prog 66 = true := by kernel_rfl
theorem ZAq : enters Tryz.prog 127 = true := by kernel_rfl
theorem Zy9 : enters Tryz.prog 41 = true := by kernel_rfl
theorem ZBH : enters Tryz.prog 73 = true := by kernel_rfl
theorem ZA3 : ZcG Tryz.prog 65 3 1 8 = true := by kernel_rfl
theorem ZAR : (match Program.underlying Tryz.prog 65 with | some (.slice _) => true | _ => false) = true := by kernel_rfl
theorem ZBc : enters Tryz.prog 50 = true := by kernel_rfl
theorem Zz0 : enters Tryz.prog 172 = true := by kernel_rfl
theorem ZqX : Zs Tryz.prog 31 1 = some 1 := by kernel_rfl
theorem ZqW : Zs Tryz.prog 31 2 = some 2 := by kernel_rfl
theorem Zjb : Zs Tryz.prog 31 0 = some 0 := by kernel_rfl
theorem ZAH : enters Tryz.prog 107 = true := by kernel_rfl
theorem Zx7 : lk Tryz.prog 31 = some (some 3) := by kernel_rfl
theorem ZBX : enters Tryz.prog 51 = true := by kernel_rfl
theorem ZBW : enters Tryz.prog 52 = true := by kernel_rfl
theorem ZAN : Zai Tryz.prog 31 = some (.agg #[.string ⟨#[]⟩, .string ⟨#[]⟩, .string ⟨#[]⟩]) := by kernel_rfl
theorem ZBk : ZP Tryz.prog 31 = some 3 := by kernel_rfl
theorem ZxE : enters Tryz.prog 31 = true := by kernel_rfl
theorem ZAe : enters Tryz.prog 155 = true := by kernel_rfl
theorem Zuw : Zs Tryz.prog 50 0 = some 0 := by kernel_rfl
theorem Zuv : Zs Tryz.prog 50 1 = some 1 := by kernel_rfl
theorem Zuu : Zs Tryz.prog 50 2 = some 2 := by kernel_rfl
theorem ZAA : enters Tryz.prog 114 = true := by kernel_rfl
theorem ZAz : enters Tryz.prog 115 = true := by kernel_rfl
theorem ZzT : enters Tryz.prog 179 = true := by kernel_rfl
theorem ZAy : enters Tryz.prog 116 = true := by kernel_rfl
theorem ZBN : enters Tryz.prog 62 = true := by kernel_rfl
theorem ZBM : enters Tryz.prog 63 = true := by kernel_rfl
theorem ZBL : enters Tryz.prog 64 = true := by kernel_rfl
theorem ZAt : enters Tryz.prog 124 = true := by kernel_rfl
theorem ZAs : enters Tryz.prog 125 = true := by kernel_rfl
theorem ZzQ : enters Tryz.prog 185 = true := by kernel_rfl
theorem ZAr : enters Tryz.prog 126 = true := by kernel_rfl
theorem ZBK : enters Tryz.prog 70 = true := by kernel_rfl
theorem ZBJ : enters Tryz.prog 71 = true := by kernel_rfl
theorem ZBI : enters Tryz.prog 72 = true := by kernel_rfl
theorem ZBg : (Tryz.prog.info? 372).map (·.comparable) = some true := by kernel_rfl
theorem ZwS : ZP Tryz.prog 397 = some 1 := by kernel_rfl
theorem Zyi : Zai Tryz.prog 305 = some (.nilIface) := by kernel_rfl
theorem Zyh : Zai Tryz.prog 308 = some (.nilIface) := by kernel_rfl
theorem Zyg : Zai Tryz.prog 310 = some (.nilIface) := by kernel_rfl
theorem ZAd : enters Tryz.prog 157 = true := by kernel_rfl
theorem Ztd : lk Tryz.prog 82 = some none := by kernel_rfl
theorem Zya : enters Tryz.prog 90 = true := by kernel_rfl
theorem ZA9 : enters Tryz.prog 89 = true := by kernel_rfl
theorem ZB4 : enters Tryz.prog 37 = true := by kernel_rfl
theorem Zzb : enters Tryz.prog 38 = true := by kernel_rfl
theorem Zza : enters Tryz.prog 39 = true := by kernel_rfl
theorem ZzH : enters Tryz.prog 225 = true := by kernel_rfl
theorem Zz6 : enters Tryz.prog 165 = true := by kernel_rfl
theorem Zz5 : enters Tryz.prog 166 = true := by kernel_rfl
theorem Zw5 : Za7 Tryz.prog 198 = some [(0, 3), (3, 1)] := by kernel_rfl
theorem Zwr : Zai Tryz.prog 198 = some (.agg #[.int .i64 0, .int .i64 0, .string ⟨#[]⟩, .pointer none]) := by kernel_rfl
theorem Zih : Zs Tryz.prog 195 1 = some 1 := by kernel_rfl
theorem ZqB : lk Tryz.prog 193 = some none := by kernel_rfl
theorem Zq5 : Zs Tryz.prog 195 0 = some 0 := by kernel_rfl
theorem ZsD : ZP Tryz.prog 193 = some 1 := by kernel_rfl
theorem Zig : Zs Tryz.prog 195 2 = some 2 := by kernel_rfl
theorem Zq4 : Zs Tryz.prog 198 1 = some 3 := by kernel_rfl
theorem ZyK : Za7 Tryz.prog 195 = some [(0, 1), (1, 1), (2, 1)] := by kernel_rfl
theorem Zyl : Zai Tryz.prog 195 = some (.agg #[.pointer none, .pointer none, .int .i64 0]) := by kernel_rfl
theorem ZxJ : enters Tryz.prog 183 = true := by kernel_rfl
theorem ZvK : Zs Tryz.prog 198 0 = some 0 := by kernel_rfl
theorem ZAv : enters Tryz.prog 121 = true := by kernel_rfl
theorem ZAu : enters Tryz.prog 123 = true := by kernel_rfl
theorem ZAp : enters Tryz.prog 129 = true := by kernel_rfl
theorem Zj0 : Zs Tryz.prog 156 0 = some 0 := by kernel_rfl
theorem ZjZ : Zs Tryz.prog 158 1 = some 0 := by kernel_rfl
theorem ZyS : lk Tryz.prog 21 = some none := by kernel_rfl
theorem ZzE : enters Tryz.prog 228 = true := by kernel_rfl
theorem Zv1 : enters Tryz.prog 229 = true := by kernel_rfl
theorem ZxO : enters Tryz.prog 101 = true := by kernel_rfl
theorem Zym : Zai Tryz.prog 165 = some (.agg #[.bool false, .bool false, .bool false, .bool false, .bool false, .bool false, .bool false, .bool false, .bool false, .bool false, .bool false, .bool false, .bool false, .bool false, .bool false, .bool false, .bool false, .bool false, .bool false, .bool false, .bool false, .bool false, .bool false, .bool false, .bool false, .bool false, .bool false, .bool false, .bool false, .bool false, .bool false, .bool false, .bool false, .bool false, .bool false, .bool false, .bool false, .bool false, .bool false, .bool false, .bool false, .bool false, .bool false, .bool false, .bool false, .bool false, .bool false, .bool false, .bool false, .bool false, .bool false, .bool false, .bool false, .bool false, .bool false, .bool false, .bool false, .bool false, .bool false, .bool false, .bool false, .bool false, .bool false, .bool false, .bool false, .bool false, .bool false, .bool false, .bool false, .bool false, .bool false, .bool false, .bool false, .bool false, .bool false, .bool false, .bool false, .bool false, .bool false, .bool false, .bool false, .bool false, .bool false, .bool false, .bool false, .bool false, .bool false, .bool false, .bool false, .bool false, .bool false, .bool false, .bool false, .bool false, .bool false, .bool false, .bool false, .bool false, .bool false, .bool false]) := by kernel_rfl
theorem ZyT : lk Tryz.prog 165 = some (some 100) := by kernel_rfl
theorem ZBd : enters Tryz.prog 44 = true := by kernel_rfl
theorem ZxN : enters Tryz.prog 102 = true := by kernel_rfl
theorem Zfb : Zs Tryz.prog 162 2 = some 3 := by kernel_rfl
theorem Zk8 : lk Tryz.prog 151 = some none := by kernel_rfl
theorem Zre : Zs Tryz.prog 160 0 = some 0 := by kernel_rfl
theorem Zz4 : enters Tryz.prog 167 = true := by kernel_rfl
theorem ZgZ : Zs Tryz.prog 160 1 = some 2 := by kernel_rfl
theorem Zrd : Zs Tryz.prog 162 1 = some 2 := by kernel_rfl
theorem ZjY : Zs Tryz.prog 162 0 = some 0 := by kernel_rfl
theorem Zrg : Zs Tryz.prog 150 0 = some 0 := by kernel_rfl
theorem Zrf : Zs Tryz.prog 150 1 = some 1 := by kernel_rfl
theorem ZyL : Za7 Tryz.prog 150 = some [(0, 1), (1, 1)] := by kernel_rfl
theorem Zyn : Zai Tryz.prog 150 = some (.agg #[.string ⟨#[]⟩, .string ⟨#[]⟩]) := by kernel_rfl
theorem ZA6 : enters Tryz.prog 99 = true := by kernel_rfl
theorem Zw6 : Za7 Tryz.prog 160 = some [(0, 2), (2, 5)] := by kernel_rfl
theorem Zws : Zai Tryz.prog 160 = some (.agg #[.int .i32 0, .int .u32 0, .string ⟨#[]⟩, .slice none 0 0, .slice none 0 0, .int .i64 0, .slice none 0 0]) := by kernel_rfl
theorem Zva : Za7 Tryz.prog 162 = some [(0, 2), (2, 1), (3, 1)] := by kernel_rfl
theorem Zn4 : Zai Tryz.prog 162 = some (.agg #[.string ⟨#[]⟩, .string ⟨#[]⟩, .string ⟨#[]⟩, .pointer none]) := by kernel_rfl
theorem Zu1 : ZP Tryz.prog 162 = some 4 := by kernel_rfl
theorem Zv7 : enters Tryz.prog 100 = true := by kernel_rfl
theorem ZA2 : lk Tryz.prog 41 = some none := by kernel_rfl
theorem ZB2 : enters Tryz.prog 43 = true := by kernel_rfl
theorem ZB1 : enters Tryz.prog 46 = true := by kernel_rfl
theorem Zxd : lk Tryz.prog 49 = some (some 5) := by kernel_rfl
theorem ZB9 : enters Tryz.prog 11 = true := by kernel_rfl
theorem Zx6 : lk Tryz.prog 50 = some (some 3) := by kernel_rfl
theorem ZB8 : enters Tryz.prog 12 = true := by kernel_rfl
theorem ZB7 : enters Tryz.prog 13 = true := by kernel_rfl
theorem Zwo : enters Tryz.prog 15 = true := by kernel_rfl
theorem Zv5 : enters Tryz.prog 16 = true := by kernel_rfl
theorem Zr3 : enters Tryz.prog 17 = true := by kernel_rfl
theorem Zyb : enters Tryz.prog 19 = true := by kernel_rfl
theorem ZB6 : enters Tryz.prog 20 = true := by kernel_rfl
theorem ZBf : enters Tryz.prog 21 = true := by kernel_rfl
theorem ZB5 : enters Tryz.prog 22 = true := by kernel_rfl
theorem ZBe : enters Tryz.prog 29 = true := by kernel_rfl
theorem ZBF : enters Tryz.prog 75 = true := by kernel_rfl
theorem ZBG : enters Tryz.prog 74 = true := by kernel_rfl
theorem Zv0 : enters Tryz.prog 32 = true := by kernel_rfl
set_option maxRecDepth 4000
set_option maxHeartbeats 6400000
variable {J : JoinT}
abbrev cur (b : Nat) (l : List UInt8) (i : Nat) : Cells := ZN b [str l, .int .i64 i] 216
theorem Zc9 (n lo hi:Int) (B:Kn):Zac (pj J) 106 [.int .i64 n,.int .i64 lo,.int .i64 hi] B (.bool (decide (lo≤n) && decide (n≤hi))):=by
 refine cB 15 Tryz.func106 (h:=?_)
 refine Za (xA (h:=Z6 [(0,_),(1,_),(2,_),(6,_)] t4 (Za (xM (h:=xM (h:=Zep (h:=xM (h:=Zx (d:=10) rfl (fun g1=>?_) (fun g1=>?_)))))))))
 try simp only [sQ,ne_eq] at g1
 refine xM (h:=xM (h:=Zb4 (h:=xT (h:=xA (h:=Z6 [(0,_),(1,_),(2,_),(6,_)] t4 (Zd ?_))))))
 exact eR t1 ⟨by exact Ze (by rw [Bool.eq_iff_iff];simp [];omega),rfl,rfl⟩
 try simp only [sQ,ne_eq] at g1
 refine xP (h:=xP (h:=xP (h:=xF (h:=xA (h:=Z6 [(0,_),(1,_),(2,_),(6,_)] t4 (Zd ?_))))))
 exact eR t1 ⟨by exact Ze (by rw [Bool.eq_iff_iff];simp [];omega),rfl,rfl⟩

theorem Zox (c:UInt8) (B:Kn):Zac (pj J) 253 [.int .u8 c.toNat] B (.bool (Zbr c)):=by
 refine cB 17 Tryz.func253 (h:=?_)
 refine Za (xA (h:=Z6 [(0,_),(2,_)] t2 (Za (xM (h:=Zep (h:=xM (h:=Zx (d:=5) rfl (fun g1=>?_) (fun g1=>?_))))))))
 try simp only [sQ,ne_eq] at g1
 refine xM (h:=Zb4 (h:=xT (h:=xM (h:=Zx (d:=9) rfl (fun g2=>?_) (fun g2=>?_)))))
 try simp only [sQ,ne_eq] at g2
 refine xP (h:=xP (h:=xP (h:=xP (h:=xP (h:=xP (h:=xT (h:=xA (h:=Z6 [(0,_),(2,_)] t2 (Zd ?_)))))))))
 exact eR t1 ⟨by exact Ze (by rw [Bool.eq_iff_iff];simp [Zbr];omega),rfl,rfl⟩
 try simp only [sQ,ne_eq] at g2
 refine xM (h:=Zep (h:=xM (h:=Zx (d:=12) rfl (fun g3=>?_) (fun g3=>?_))))
 try simp only [sQ,ne_eq] at g3
 refine xM (h:=Zb4 (h:=xT (h:=xF (h:=xA (h:=Z6 [(0,_),(2,_)] t2 (Zd ?_))))))
 exact eR t1 ⟨by exact Ze (by rw [Bool.eq_iff_iff];simp [Zbr];omega),rfl,rfl⟩
 try simp only [sQ,ne_eq] at g3
 refine xP (h:=xP (h:=xF (h:=xF (h:=xA (h:=Z6 [(0,_),(2,_)] t2 (Zd ?_))))))
 exact eR t1 ⟨by exact Ze (by rw [Bool.eq_iff_iff];simp [Zbr];omega),rfl,rfl⟩
 try simp only [sQ,ne_eq] at g1
 refine xP (h:=xP (h:=xF (h:=xM (h:=xM (h:=Zep (h:=xM (h:=Zx (d:=12) rfl (fun g4=>?_) (fun g4=>?_))))))))
 try simp only [sQ,ne_eq] at g4
 refine xM (h:=Zb4 (h:=xT (h:=xF (h:=xA (h:=Z6 [(0,_),(2,_)] t2 (Zd ?_))))))
 exact eR t1 ⟨by exact Ze (by rw [Bool.eq_iff_iff];simp [Zbr];omega),rfl,rfl⟩
 try simp only [sQ,ne_eq] at g4
 refine xP (h:=xP (h:=xF (h:=xF (h:=xA (h:=Z6 [(0,_),(2,_)] t2 (Zd ?_))))))
 exact eR t1 ⟨by exact Ze (by rw [Bool.eq_iff_iff];simp [Zbr];omega),rfl,rfl⟩

theorem ZcM (l:List UInt8) (hl:l.length≤2000000) (B:Kn):Zac (pj J) 159 [str l] B (.bool (Zax l)):=by
 refine cB 37 Tryz.func159 (h:=?_)
 refine Za (xA (h:=Z6 [(0,_),(2,_)] t2 (Zc (Za (xA (h:=Z6 [(0,_),(2,_),(3,_)] t3 (Zg (Zkn (α:=Nat) (fun k=>[(0,str l),(3,.int .i64 k)]) (fun k=>[]) (fun k Bx=>Bx=B∧k≤l.length∧(l.take k).all Zbr=true) (fun k=>l.length - k) 0 t2 rfl (⟨rfl,Nat.zero_le _,by simp⟩) (fun k B1 hle1 hI=>?_)))))))))
 obtain ⟨rfl,hk,ha⟩:=hI
 refine Zc (Za (xM (h:=xM (h:=xVs Tryz.underlying9 (h:=ZF (h:=Z6 [(0,_),(3,_),(7,_)] t3 (Zb rfl (fun g1=>?_) (fun g1=>?_))))))))
 try simp only [sQ,ne_eq] at g1
 obtain ⟨c,hc⟩ :∃c,l[k]? = some c:=⟨_,List.getElem?_eq_getElem oz⟩
 refine wSk (Zc (Zg (Zn7 33 (!(Zbr c)) [0,3,7] ?_ ?_)))
 refine xM (h:=xM (h:=Zl (Zer rfl rfl Tryz.underlying9 rfl rfl oz (by simpa using hc) ?_)))
 refine Zep (h:=xM (h:=Zx (d:=14) rfl (fun g1=>?_) (fun g1=>?_)))
 try simp only [sQ,ne_eq] at g1
 refine xM (h:=xM (h:=Zl (Zer rfl rfl Tryz.underlying9 rfl rfl oz (by simpa using hc) ?_)))
 refine Zb4 (h:=xT (h:=xN (h:=xM (h:=Zx (d:=21) rfl (fun g2=>?_) (fun g2=>?_)))))
 try simp only [sQ,ne_eq] at g2
 refine xM (h:=xM (h:=Zl (Zer rfl rfl Tryz.underlying9 rfl rfl oz (by simpa using hc) ?_)))
 refine Zep (h:=xM (h:=Zx (d:=26) rfl (fun g3=>?_) (fun g3=>?_)))
 try simp only [sQ,ne_eq] at g3
 refine xM (h:=xM (h:=Zl (Zer rfl rfl Tryz.underlying9 rfl rfl oz (by simpa using hc) ?_)))
 refine Zb4 (h:=xT (h:=xN (h:=xT (h:=?_))))
 exact ⟨rfl,rfl,rfl,ZjJ rfl (by rw [Bool.eq_iff_iff];simp [Zbr,];omega),t3⟩
 try simp only [sQ,ne_eq] at g3
 refine xP (h:=xP (h:=xP (h:=xP (h:=xF (h:=xN (h:=xT (h:=?_)))))))
 exact ⟨rfl,rfl,rfl,ZjJ rfl (by rw [Bool.eq_iff_iff];simp [Zbr,];omega),t3⟩
 try simp only [sQ,ne_eq] at g2
 refine xP (h:=xP (h:=xP (h:=xP (h:=xP (h:=xP (h:=xP (h:=xP (h:=xP (h:=xP (h:=xP (h:=xF (h:=?_))))))))))))
 exact ⟨rfl,rfl,rfl,ZjJ rfl (by rw [Bool.eq_iff_iff];simp [Zbr,];omega),t3⟩
 try simp only [sQ,ne_eq] at g1
 refine xP (h:=xP (h:=xP (h:=xP (h:=xF (h:=xN (h:=xM (h:=xM (h:=xM (h:=Zl (Zer rfl rfl Tryz.underlying9 rfl rfl oz (by simpa using hc) ?_))))))))))
 refine Zep (h:=xM (h:=Zx (d:=26) rfl (fun g4=>?_) (fun g4=>?_)))
 try simp only [sQ,ne_eq] at g4
 refine xM (h:=xM (h:=Zl (Zer rfl rfl Tryz.underlying9 rfl rfl oz (by simpa using hc) ?_)))
 refine Zb4 (h:=xT (h:=xN (h:=xT (h:=?_))))
 exact ⟨rfl,rfl,rfl,ZjJ rfl (by rw [Bool.eq_iff_iff];simp [Zbr,];omega),t3⟩
 try simp only [sQ,ne_eq] at g4
 refine xP (h:=xP (h:=xP (h:=xP (h:=xF (h:=xN (h:=xT (h:=?_)))))))
 exact ⟨rfl,rfl,rfl,ZjJ rfl (by rw [Bool.eq_iff_iff];simp [Zbr,];omega),t3⟩
 refine Z6 [(0,_),(3,_),(7,_),(33,_)] t4 (Zb rfl (fun g9=>?_) (fun g9=>?_))
 try simp only [sQ,ne_eq] at g9
 refine Za (xA (h:=Z6 [(0,_),(2,_),(3,_),(7,_),(33,_)] t5 (Zd (ZB (Zm (Zu7 (ZB (Zm ?_))))))))
 exact eR t1 ⟨Ze (by simp [Zax,Zt3 hc g9]),rfl,rfl⟩
 try simp only [sQ,ne_eq] at g9
 refine ZS (ZK (Zp (Zf (xM (h:=Zl (ZgB rfl rfl rfl rfl (by first | exact ZcB oz oz | rfl) ?_))))))
 refine xA (h:=?_)
 exact Zon (k+1) oz ⟨rfl,oz,ZnZ hc g9 ha⟩ t2 rfl
 try simp only [sQ,ne_eq] at g1
 refine ZE (ZV (Zom (Zt (Zp (Za (xM (h:=xVs Tryz.underlying9 (h:=xR Zfw rfl (Zc9 _ _ _ _) (h:=xA (h:=Z6 [(0,_),(2,_),(3,_),(7,_)] t4 (Zd ?_)))))))))))
 exact eR t1 ⟨Ze (by (obtain rfl:k=l.length:=oz);rw [List.take_length] at ha;rw [Bool.eq_iff_iff];simp [Zax,ha];omega),rfl,rfl⟩

theorem ZnR (b:Nat) (l:List UInt8) (i:Nat) (hi:i≤l.length) (hl:l.length≤2000000) (B:Kn):ZuG (pj J) 140 [ptr ⟨b,0,none⟩] B (cur b l i) (.bool (decide (i=l.length))) (cur b l i):=by
 refine cB 13 Tryz.func140 (h:=?_)
 refine Za (xA (h:=Z6 [(0,_),(2,_)] t2 (Zc (Z2 (same _ _) mo kr ⟨rfl,rfl⟩ (fun _ _=>?_)))))
 refine aM 0 rfl (h:=aNc 1 rfl (h:=aW 2 rfl Zcf (h:=aT 3 rfl (Zae fun D=>Zo rfl rfl lk3 rfl (atL 0 rfl rfl rfl) r4) (h:=aM 4 rfl (h:=aNc 5 rfl (h:=aW 6 rfl ZgY (h:=aT 7 rfl (Zae fun D=>Zo rfl rfl lk9 rfl (atL 0 rfl rfl rfl) r4) (h:=aT 8 rfl (Zae fun D=>Zps rfl rfl Tryz.underlying9 rfl r4) (h:=ZrY 9 rfl (h:=aA 10 rfl (h:=Zu kr kr ?_)))))))))))
 refine Zp (Z6 [(0,_),(2,_)] t2 (Zd ?_))
 exact e1 0 rfl t1 ⟨Ze (by rw [Bool.eq_iff_iff];simp;omega),rfl,rfl⟩

theorem ZwP (b:Nat) (l:List UInt8) (i:Nat) (hi:i≤l.length) (hl:l.length≤2000000) (x:UInt8) (B:Kn):ZuG (pj J) 198 [ptr ⟨b,0,none⟩,.int .u8 x.toNat] B (cur b l i) (.bool (decide (l[i]? = some x))) (cur b l (if l[i]? = some x then i+1 else i)):=by
 refine cB 27 Tryz.func198 (h:=?_)
 refine Za (xA (h:=Z6 [(0,_),(1,_),(4,_)] t3 (Zc (ZhI 19 (decide (l[i]?≠some x)) [0,1,4] (same _ _) mo kr ⟨rfl,rfl⟩ (fun _ _=>?_) ?_))))
 refine aM 0 rfl (h:=aT 1 rfl (Zae fun D=>ZiN 0 rfl rfl rfl ZtN rfl (ZnR _ _ _ oz oz _) r4) (h:=?_))
 refine aM 2 rfl (h:=ZaK (d:=7) rfl (fun g1=>?_) (fun g1=>?_))
 try simp only [sQ,ne_eq] at g1
 refine aZ 3 rfl (h:=aZ 4 rfl (h:=aZ 5 rfl (h:=aZ 6 rfl (h:=aZ 7 rfl (h:=aZ 8 rfl (h:=aZ 9 rfl (h:=aZ 10 rfl (h:=aZ 11 rfl (h:=aZ 12 rfl (h:=aZ 13 rfl (h:=aPT 14 rfl (h:=Zu kr kr ?_))))))))))))
 exact ⟨rfl,rfl,rfl,ZjJ rfl (by first | (simp [g1];done) | (rw [Bool.eq_iff_iff];simp [hc,← UInt8.toNat_inj];omega)),t3⟩
 try simp only [sQ,ne_eq] at g1
 obtain ⟨c,hc⟩ :∃c,l[i]? = some c:=⟨_,List.getElem?_eq_getElem oz⟩
 refine aM 3 rfl (h:=aNc 4 rfl (h:=aW 5 rfl ZgY (h:=aT 6 rfl (Zae fun D=>Zo rfl rfl lk9 rfl (atL 0 rfl rfl rfl) r4) (h:=aM 7 rfl (h:=aNc 8 rfl (h:=aW 9 rfl Zcf (h:=aT 10 rfl (Zae fun D=>Zo rfl rfl lk3 rfl (atL 0 rfl rfl rfl) r4) (h:=aT 11 rfl (Zae fun D=>Zer rfl rfl Tryz.underlying9 rfl rfl oz (by simpa using hc) r4) (h:=?_)))))))))
 refine aM 12 rfl (h:=Zx1 13 rfl (h:=aPF 14 rfl (h:=Zu kr kr ?_)))
 exact ⟨rfl,rfl,rfl,ZjJ rfl (by first | (simp [g1];done) | (rw [Bool.eq_iff_iff];simp [hc,← UInt8.toNat_inj];omega)),t3⟩
 refine Z6 [(0,_),(1,_),(4,_),(19,_)] t4 (Zb rfl (fun g2=>?_) (fun g2=>?_))
 try simp only [sQ,ne_eq] at g2
 refine Za (xA (h:=Z6 [(0,_),(1,_),(4,_),(19,_)] t4 (Zd (Zm ?_))))
 exact e1 0 rfl t1 ⟨Ze (by simp [g2]),rfl,by rw [if_neg g2]⟩
 try simp only [sQ,ne_eq] at g2
 refine wSk (Za (xM (h:=xNc (h:=xW Zcf (h:=x1 lk3 0 (h:=Zl (ZgB rfl rfl rfl rfl (by first | exact ZcB oz oz | rfl) ?_)))))))
 refine xNc (h:=xW Zcf (h:=xS [_] 0 [_,_] sz3 (h:=ZD [(0,_),(1,_),(4,_),(19,_)] [_] t4 rfl (Za (xA (h:=Z6 [(0,_),(1,_),(4,_),(19,_)] t4 (Zd ?_)))))))
 exact e1 0 rfl t1 ⟨Ze (by simp [g2]),rfl,by rw [if_pos g2];rfl⟩

theorem Zqm (b:Nat) (l:List UInt8) (i:Nat) (hi:i≤l.length) (hl:l.length≤2000000) (B:Kn):ZuG (pj J) 197 [ptr ⟨b,0,none⟩] B (cur b l i) (.tuple #[str (word l i),.bool (ZdQ (word l i))]) (cur b l (i+(word l i).length)):=by
 refine cB 54 Tryz.func197 (h:=?_)
 refine Za (xA (h:=xA (h:=Z6 [(0,_),(2,_),(3,_)] t3 (Za (xM (h:=xNc (h:=xW Zcf (h:=x1 lk3 0 (h:=xA (h:=Z6 [(0,_),(2,_),(3,_),(4,_)] t4 (Zc (Zg (Zkn (α:=Nat) (fun k=>[(0,ptr ⟨b,0,none⟩),(4,.int .i64 i)]) (fun k=>[cur b l (i+k)]) (fun k Bx=>Bx=B∧i+k≤l.length∧((l.drop i).take k).all Zbr=true) (fun k=>l.length - i - k) 0 t2 rfl (⟨rfl,oz,by simp⟩) (fun k B1 hle1 hI=>?_))))))))))))))
 obtain ⟨rfl,hk,ha⟩:=hI
 refine Zc (ZhI 24 (match l[i+k]? with | some c=>Zbr c | none=>false) [0,4] (same _ _) mo kr ⟨rfl,rfl⟩ (fun _ _=>?_) ?_)
 refine aM 0 rfl (h:=aT 1 rfl (Zae fun D=>ZiN 0 rfl rfl rfl ZtN rfl (ZnR _ _ _ oz oz _) r4) (h:=?_))
 refine aN 2 rfl (h:=aM 3 rfl (h:=ZaK (d:=13) rfl (fun g1=>?_) (fun g1=>?_)))
 try simp only [sQ,ne_eq] at g1
 obtain ⟨c,hc⟩ :∃c,l[i+k]? = some c:=⟨_,List.getElem?_eq_getElem oz⟩
 refine aM 4 rfl (h:=aNc 5 rfl (h:=aW 6 rfl ZgY (h:=aT 7 rfl (Zae fun D=>Zo rfl rfl lk9 rfl (atL 0 rfl rfl rfl) r4) (h:=aM 8 rfl (h:=aNc 9 rfl (h:=aW 10 rfl Zcf (h:=aT 11 rfl (Zae fun D=>Zo rfl rfl lk3 rfl (atL 0 rfl rfl rfl) r4) (h:=aT 12 rfl (Zae fun D=>Zer rfl rfl Tryz.underlying9 rfl rfl oz hc r4) (h:=?_)))))))))
 refine aT 13 rfl (Zae fun D=>Z7 rfl rfl Zzq rfl (Zox _ _) r4) (h:=aPT 14 rfl (h:=Zu kr kr ?_))
 exact ⟨rfl,rfl,rfl,ZjJ rfl (by first | (rw [hc];done) | (rw [List.getElem?_eq_none oz])),t2⟩
 try simp only [sQ,ne_eq] at g1
 refine aZ 4 rfl (h:=aZ 5 rfl (h:=aZ 6 rfl (h:=aZ 7 rfl (h:=aZ 8 rfl (h:=aZ 9 rfl (h:=aZ 10 rfl (h:=aZ 11 rfl (h:=aZ 12 rfl (h:=aZ 13 rfl (h:=aPF 14 rfl (h:=Zu kr kr ?_)))))))))))
 exact ⟨rfl,rfl,rfl,ZjJ rfl (by first | (rw [hc];done) | (rw [List.getElem?_eq_none oz])),t2⟩
 refine Z6 [(0,_),(4,_),(24,_)] t3 (Zb rfl (fun g2=>?_) (fun g2=>?_))
 try simp only [sQ,ne_eq] at g2
 refine wSk (Zg (Zf (xM (h:=xNc (h:=xW Zcf (h:=x1 lk3 0 (h:=Zl (ZgB rfl rfl rfl rfl (by first | exact ZcB oz oz | rfl) ?_))))))))
 refine xNc (h:=xW Zcf (h:=xS [_] 0 [_,_] sz3 (h:=ZK ?_)))
 obtain ⟨c,hc,hn⟩:=ZpZ g2
 exact Zon (k+1) (by have:=ZbU hc;omega) ⟨rfl,by have:=ZbU hc;omega,ZnZ (by simpa using hc) hn ha⟩ t2 rfl
 try simp only [sQ,ne_eq] at g2
 have hw:word l i=(l.drop i).take k:=Zsi ha (fun c hc=>by rw [hc] at g2;exact g2)
 have hwl:(word l i).length=k:=by rw [hw,List.length_take,List.length_drop];omega
 refine ZE (ZV (Zom (Zt (Zp (Za (xM (h:=xNc (h:=xW Zcf (h:=x1 lk3 0 (h:=xM (h:=Zl (Zjo rfl rfl rfl rfl (by first | exact ZcB oz oz | rfl) ?_))))))))))))
 refine xA (h:=Z6 [(0,_),(4,_),(5,_),(24,_)] t4 (Zc (Z2 (same _ _) mo kr ⟨rfl,rfl⟩ (fun _ _=>?_))))
 refine aM 0 rfl (h:=aNc 1 rfl (h:=aW 2 rfl ZgY (h:=aT 3 rfl (Zae fun D=>Zo rfl rfl lk9 rfl (atL 0 rfl rfl rfl) r4) (h:=aM 4 rfl (h:=aM 5 rfl (h:=aNc 6 rfl (h:=aW 7 rfl Zcf (h:=aT 8 rfl (Zae fun D=>Zo rfl rfl lk3 rfl (atL 0 rfl rfl rfl) r4) (h:=aT 9 rfl (Zae fun D=>Zgc rfl rfl Tryz.underlying9 rfl (a:=i) (b:=i+k) ⟨_,_,rfl,rfl⟩ ⟨_,_,rfl,oz⟩ oz oz r4) (h:=?_))))))))))
 refine aM 10 rfl (h:=ZAM 11 rfl (h:=aM 12 rfl (h:=ZaK (d:=50) rfl (fun g1=>?_) (fun g1=>?_))))
 try simp only [sQ,ne_eq] at g1
 refine aM 13 rfl (h:=Zwi 14 rfl (h:=aPT 15 rfl (h:=aA 16 rfl (h:=aA 17 rfl (h:=Zu kr kr ?_)))))
 refine Zp (Z6 [(0,_),(2,_),(3,_),(4,_),(5,_),(24,_)] t6 (Zd ?_))
 exact ZvZ .ret (.inl rfl) [_,_] 0 rfl t2 ⟨ZiQ (by rw [ZfG,hw]) (Ze (by rw [Bool.eq_iff_iff];simp [ZdQ,hwl];omega)),rfl,by rw [hwl]⟩
 try simp only [sQ,ne_eq] at g1
 refine aZ 13 rfl (h:=aZ 14 rfl (h:=aPF 15 rfl (h:=aA 16 rfl (h:=aA 17 rfl (h:=Zu kr kr ?_)))))
 refine Zp (Z6 [(0,_),(2,_),(3,_),(4,_),(5,_),(24,_)] t6 (Zd ?_))
 exact ZvZ .ret (.inl rfl) [_,_] 0 rfl t2 ⟨ZiQ (by rw [ZfG,hw]) (Ze (by rw [Bool.eq_iff_iff];simp [ZdQ,hwl];omega)),rfl,by rw [hwl]⟩

theorem ZtO (b:Nat) (l:List UInt8) (i:Nat) (hi:i≤l.length) (hl:l.length≤2000000) (B:Kn):ZuG (pj J) 139 [ptr ⟨b,0,none⟩] B (cur b l i) (.tuple #[str (Zin l i),.bool (ZmZ l i)]) (cur b l (dom l i).2):=by
 refine cB 53 Tryz.func139 (h:=?_)
 refine Za (xA (h:=xA (h:=Z6 [(0,_),(2,_),(3,_)] t3 (Za (xM (h:=xNc (h:=xW Zcf (h:=x1 lk3 0 (h:=xA (h:=Z6 [(0,_),(2,_),(3,_),(4,_)] t4 (Zc (Za (xM (h:=Zl (ZiL 0 rfl rfl rfl Zv3 rfl (Zqm _ _ _ oz oz _) ?_)))))))))))))))
 refine xM (h:=xE (h:=xE (h:=xA (h:=xA (h:=ZD [(0,_),(2,_),(3,_),(4,_),(6,_)] [_] t5 rfl (Za (xM (h:=xN (h:=Z6 [(0,_),(2,_),(3,_),(4,_),(6,_),(20,_)] t6 (Zb rfl (fun g1=>?_) (fun g1=>?_)))))))))))
 try simp only [sQ,ne_eq] at g1
 refine Za (xA (h:=xA (h:=Z6 [(0,_),(2,_),(3,_),(4,_),(6,_),(20,_)] t6 (Zd (Zm ?_)))))
 exact ZvZ .ret (.inl rfl) [_,_] 0 rfl t2 ⟨ZiQ (by simp [Zin,ZmY g1]) (Ze (by simp [ZmZ,ZmY g1])),rfl,by rw [ZmY g1]⟩
 try simp only [sQ,ne_eq] at g1
 refine wSk (Zc (Za (xA (h:=Z6 [(0,_),(2,_),(3,_),(4,_),(6,_),(7,_),(20,_)] t7 (Zg (Zkn (α:=Nat × Nat) (fun x=>[(0,ptr ⟨b,0,none⟩),(4,.int .i64 i),(7,.int .i64 x.1)]) (fun x=>[cur b l x.2]) (fun x Bx=>Bx=B∧1≤x.1∧x.1≤3∧i≤x.2∧x.2≤l.length∧dom l i=more (3 - x.1) l x.2) (fun x=>3 - x.1) (1,i+(word l i).length) t3 rfl (⟨rfl,oz,oz,oz,ZhH hi,ZtP g1⟩) (fun x B1 hle1 hI=>?_)))))))
 obtain ⟨rfl,hk1,hk3,hix,hxl,hd⟩:=hI
 refine Zc (Za (xM (h:=ZF (h:=xM (h:=Zx (d:=23) rfl (fun g2=>?_) (fun g2=>?_))))))
 try simp only [sQ,ne_eq] at g2
 refine xM (h:=Zl (ZiL 0 rfl rfl rfl ZzO rfl (ZwP _ _ _ oz oz 46 _) ?_))
 refine xT (h:=ZD [(0,_),(4,_),(7,_),(26,_)] [_] t4 rfl (Zb rfl (fun g3=>?_) (fun g3=>?_)))
 try simp only [sQ,ne_eq] at g3
 rw [if_pos g3]
 have hx2:=ZbU g3
 refine wSk (Zc (Zg (Za (xM (h:=Zl (ZiL 0 rfl rfl rfl Zv3 rfl (Zqm _ _ _ oz oz _) ?_))))))
 refine xM (h:=xE (h:=xE (h:=xA (h:=xA (h:=ZD [(0,_),(4,_),(7,_),(9,_),(26,_)] [_] t5 rfl (Za (xM (h:=xN (h:=Z6 [(0,_),(4,_),(7,_),(9,_),(26,_),(35,_)] t6 (Zb rfl (fun g4=>?_) (fun g4=>?_)))))))))))
 try simp only [sQ,ne_eq] at g4
 refine Za (xA (h:=xA (h:=Z6 [(0,_),(2,_),(3,_),(4,_),(7,_),(9,_),(26,_),(35,_)] t8 (Zd (ZB (Zm (Zu7 (ZB (Zm ?_)))))))))
 have hdd:=hd.trans (Zs8 oz g3 g4)
 exact ZvZ .ret (.inl rfl) [_,_] 0 rfl t2 ⟨ZiQ (by simp [Zin,hdd]) (Ze (by simp [ZmZ,hdd])),rfl,by rw [hdd]⟩
 try simp only [sQ,ne_eq] at g4
 refine ZS (ZK (Zp (Zf (xM (h:=Zl (ZgB rfl rfl rfl rfl (by first | exact ZcB oz oz | rfl) ?_))))))
 refine xA (h:=?_)
 exact Zon (x.1+1,x.2+1+(word l (x.2+1)).length) (so) ⟨rfl,so,so,so,ZhH oz,by rw [hd,Zqr oz g3 g4];rw [show 3 - (x.1+1)=3 - x.1 - 1 from by omega]⟩ t3 rfl
 try simp only [sQ,ne_eq] at g3
 rw [if_neg g3]
 replace hd:=hd.trans (ZhY g3)
 refine ZE (ZV (Zom (Zt (Zp (Zc (Z2 (same _ _) mo kr ⟨rfl,rfl⟩ (fun _ _=>?_)))))))
 refine aM 0 rfl (h:=aNc 1 rfl (h:=aW 2 rfl ZgY (h:=aT 3 rfl (Zae fun D=>Zo rfl rfl lk9 rfl (atL 0 rfl rfl rfl) r4) (h:=aM 4 rfl (h:=aM 5 rfl (h:=aNc 6 rfl (h:=aW 7 rfl Zcf (h:=aT 8 rfl (Zae fun D=>Zo rfl rfl lk3 rfl (atL 0 rfl rfl rfl) r4) (h:=aT 9 rfl (Zae fun D=>Zgc rfl rfl Tryz.underlying9 rfl (a:=i) (b:=x.2) ⟨_,_,rfl,rfl⟩ ⟨_,_,rfl,rfl⟩ oz oz r4) (h:=?_))))))))))
 refine aM 10 rfl (h:=aNc 11 rfl (h:=aW 12 rfl Zcf (h:=aT 13 rfl (Zae fun D=>Zo rfl rfl lk3 rfl (atL 0 rfl rfl rfl) r4) (h:=aM 14 rfl (h:=aT 15 rfl (Zae fun D=>Zjo rfl rfl rfl rfl (by first | exact ZcB oz oz | rfl) r4) (h:=?_))))))
 refine Zwi 16 rfl (h:=aA 17 rfl (h:=aA 18 rfl (h:=Zu kr kr ?_)))
 refine Zp (Z6 [(0,_),(2,_),(3,_),(4,_),(7,_),(26,_)] t6 (Zd ?_))
 exact ZvZ .ret (.inl rfl) [_,_] 0 rfl t2 ⟨ZiQ (by simp [Zin,hd]) (Ze (by rw [Bool.eq_iff_iff];simp [ZmZ,hd];omega)),rfl,by rw [hd]⟩
 try simp only [sQ,ne_eq] at g2
 replace hd:dom l i=(true,x.2):=hd.trans (by rw [show 3 - x.1=0 from by omega];rfl)
 refine xP (h:=xP (h:=xF (h:=Z6 [(0,_),(4,_),(7,_),(26,_)] t4 (Zb (t:=false) rfl (fun h=>Bool.noConfusion h) (fun _=>ZE (ZV (Zom (Zt (Zp (Zc (Z2 (same _ _) mo kr ⟨rfl,rfl⟩ (fun _ _=>?_))))))))))))
 refine aM 0 rfl (h:=aNc 1 rfl (h:=aW 2 rfl ZgY (h:=aT 3 rfl (Zae fun D=>Zo rfl rfl lk9 rfl (atL 0 rfl rfl rfl) r4) (h:=aM 4 rfl (h:=aM 5 rfl (h:=aNc 6 rfl (h:=aW 7 rfl Zcf (h:=aT 8 rfl (Zae fun D=>Zo rfl rfl lk3 rfl (atL 0 rfl rfl rfl) r4) (h:=aT 9 rfl (Zae fun D=>Zgc rfl rfl Tryz.underlying9 rfl (a:=i) (b:=x.2) ⟨_,_,rfl,rfl⟩ ⟨_,_,rfl,rfl⟩ oz oz r4) (h:=?_))))))))))
 refine aM 10 rfl (h:=aNc 11 rfl (h:=aW 12 rfl Zcf (h:=aT 13 rfl (Zae fun D=>Zo rfl rfl lk3 rfl (atL 0 rfl rfl rfl) r4) (h:=aM 14 rfl (h:=aT 15 rfl (Zae fun D=>Zjo rfl rfl rfl rfl (by first | exact ZcB oz oz | rfl) r4) (h:=?_))))))
 refine Zwi 16 rfl (h:=aA 17 rfl (h:=aA 18 rfl (h:=Zu kr kr ?_)))
 refine Zp (Z6 [(0,_),(2,_),(3,_),(4,_),(7,_),(26,_)] t6 (Zd ?_))
 exact ZvZ .ret (.inl rfl) [_,_] 0 rfl t2 ⟨ZiQ (by simp [Zin,hd]) (Ze (by rw [Bool.eq_iff_iff];simp [ZmZ,hd];omega)),rfl,by rw [hd]⟩

theorem Zck (l:List UInt8) (hl:l.length≤2000000) (B:Kn):Zac (pj J) 149 [str l] B (.bool (Zax l)):=by
 refine cB 16 Tryz.func149 (h:=?_)
 refine Za (xA (h:=Z6 [(0,_),(2,_)] t2 (Za (xM (h:=xB [(0,_)] [_,_] [_,_] Zw4 Zr5 (h:=xAl [_,_] Zr5 (h:=fun b0=>xS [_,_] 0 [_,_] ZwX (h:=ZD [(0,_),(2,_),(3,_)] [_] t3 rfl (Za (Zl (ZiL 0 rfl rfl rfl Zv3 rfl (Zqm _ _ 0 oz hl _) ?_)))))))))))
 refine xM (h:=xE (h:=xE (h:=xA (h:=xA (h:=ZD [(0,_),(2,_),(3,_),(5,_)] [_] t4 rfl (Za (xM (h:=xM (h:=Zx (d:=13) rfl (fun g1=>?_) (fun g1=>?_))))))))))
 refine Zl (ZiN 0 rfl rfl rfl ZtN rfl (ZnR _ _ (0+(word l 0).length) (ZhH (Nat.zero_le _)) oz _) ?_)
 refine xT (h:=xA (h:=Z6 [(0,_),(2,_),(3,_),(5,_)] t4 (Zd ?_)))
 exact eR t1 ⟨Ze (by rw [Zdv];simp [g1];try omega),rfl,rfl⟩
 refine xP (h:=xF (h:=xA (h:=Z6 [(0,_),(2,_),(3,_),(5,_)] t4 (Zd ?_))))
 exact eR t1 ⟨Ze (by rw [Zdv];simp [g1];try omega),rfl,rfl⟩

abbrev Zyd (s : Cells) (q : Option Addr) (m cp : Nat) (ls : List (List UInt8)) : Prop := Ziy s q m cp 9 1 (ls.map str)
theorem Zkq {s:Cells} {q:Option Addr} {m cp:Nat} {ls:List (List UInt8)} {a:List UInt8} (h:Ziy s q m cp 9 1 (ls.map str ++ [str a])):Zyd s q m cp (ls ++ [a]):=by
 unfold Zyd
 rw [List.map_append]
 exact h
theorem Zvr (l:List UInt8) (hl:l.length≤2000000) (x0:UInt8) (B:Kn):ZBi (pj J) 158 [str l,.int .u8 x0.toNat] B (fun v s=>∃q cp,v = .slice q (cut x0 l).length cp∧Zyd s q (cut x0 l).length cp (cut x0 l)):=by
 refine cB 35 Tryz.func158 (h:=?_)
 refine Za (xA (h:=Z6 [(0,_),(1,_),(4,_)] t3 (Za (xBs [] [] Tryz.underlying143 sz9 zo9 (h:=fun b0=>xA (h:=ZD [(0,_),(1,_),(4,_),(5,_)] [_] t4 rfl (Za (xA (h:=Z6 [(0,_),(1,_),(4,_),(5,_),(6,_)] t5 (Zc (Za (xA (h:=Z6 [(0,_),(1,_),(4,_),(5,_),(6,_),(7,_)] t6 (Zg (Zkn (α:=CutSt) (fun x=>[(0,str l),(1,.int .u8 x0.toNat),(5,.slice x.q x.m x.cp),(6,.int .i64 x.f),(7,.int .i64 x.i)]) (fun x=>[x.s]) (fun x Bx=>Bx=B∧x.f≤x.i∧x.i≤l.length∧x.m≤x.i∧x.m=x.ps.length∧Zyd x.s x.q x.m x.cp x.ps∧cut x0 l=x.ps ++ glue ((l.take x.i).drop x.f) (cut x0 (l.drop x.i))) (fun x=>l.length - x.i) ⟨0,0,0,[],some ⟨b0,0,none⟩,0,ZN b0 [] 9⟩ t5 rfl (⟨rfl,Nat.le_refl _,Nat.zero_le _,Nat.le_refl _,rfl,Ziy.lit rfl,by simp [ZnL (ZnU x0 l)]⟩) (fun x B1 hle1 hI=>?_))))))))))))))))
 obtain ⟨rfl,hf,hi,hn,hm,hv,hc⟩:=hI
 refine Zc (Za (xM (h:=xM (h:=xVs Tryz.underlying9 (h:=ZF (h:=Z6 [(0,_),(1,_),(5,_),(6,_),(7,_),(12,_)] t6 (Zb rfl (fun g1=>?_) (fun g1=>?_))))))))
 try simp only [sQ,ne_eq] at g1
 obtain ⟨c,hx⟩ :∃c,l[x.i]? = some c:=⟨_,List.getElem?_eq_getElem oz⟩
 refine wSk (Zc (Zg (Za (xM (h:=xM (h:=Zl (Zer rfl rfl Tryz.underlying9 rfl rfl oz hx ?_)))))))
 refine xM (h:=Zf8 (h:=Z6 [(0,_),(1,_),(5,_),(6,_),(7,_),(12,_),(19,_)] t7 (Zb rfl (fun g2=>?_) (fun g2=>?_))))
 try simp only [sQ,ne_eq] at g2
 refine Za (xM (h:=xM (h:=xM (h:=xM (h:=Zl (Zgc rfl rfl Tryz.underlying9 rfl (a:=x.f) (b:=x.i) ⟨_,_,rfl,rfl⟩ ⟨_,_,rfl,rfl⟩ oz oz ?_))))))
 refine xBs [(0,_)] [_] Tryz.underlying143 sz9 zo9 (h:=fun b1=>Zl (Zfh 0 rfl (hv) rfl rfl Zrt ZsF rfl rfl (Zc1.box 1 rfl) rfl rfl oz (fun l1 p1 c1 hv1=>?_)))
 refine xA (h:=ZD [(0,_),(1,_),(5,_),(6,_),(7,_),(12,_),(19,_)] [_,_] t7 rfl (Zpm [0] rfl (Zf (xM (h:=Zl (ZgB rfl rfl rfl rfl (by first | exact ZcB oz oz | rfl) ?_))))))
 refine xA (h:=ZK (Zp (Zf (xM (h:=Zl (ZgB rfl rfl rfl rfl (by first | exact ZcB oz oz | rfl) ?_))))))
 refine xA (h:=?_)
 exact Zon ⟨x.i+1,x.i+1,x.m+1,x.ps ++ [(l.take x.i).drop x.f],p1,c1,l1⟩ (so) ⟨rfl,Nat.le_refl _,so,so,by simp [hm],Zkq hv1,by rw [hc,Zwa hx (Zyw g2),List.append_assoc];simp [ZtE,ZnL (ZnU x0 _)]⟩ t5 rfl
 try simp only [sQ,ne_eq] at g2
 refine ZS (ZK (Zp (Zf (xM (h:=Zl (ZgB rfl rfl rfl rfl (by first | exact ZcB oz oz | rfl) ?_))))))
 refine xA (h:=?_)
 exact Zon ⟨x.i+1,x.f,x.m,x.ps,x.q,x.cp,x.s⟩ (so) ⟨rfl,so,so,so,hm,hv,by rw [hc,ZtR hx (Zyv g2),ZqS,ZpK hx hf]⟩ t5 rfl
 try simp only [sQ,ne_eq] at g1
 obtain hie:x.i=l.length:=by omega
 rw [hie,List.take_length,List.drop_length] at hc
 refine ZE (ZV (Zom (Zt (Zp (Za (xM (h:=xM (h:=xM (h:=Zl (Zgc rfl rfl Tryz.underlying9 rfl (a:=x.f) (b:=l.length) ⟨_,_,rfl,rfl⟩ rfl oz oz ?_))))))))))
 refine xBs [(0,_)] [_] Tryz.underlying143 sz9 zo9 (h:=fun b1=>Zl (Zfh 0 rfl (hv) rfl rfl Zrt ZsF rfl rfl (Zc1.box 1 rfl) rfl rfl oz (fun l2 p2 c2 hv2=>?_)))
 refine xA (h:=ZD [(0,_),(1,_),(4,_),(5,_),(6,_),(7,_),(12,_)] [_,_] t7 rfl (Zd ?_))
 have he:cut x0 l=x.ps ++ [l.drop x.f]:=by rw [hc];simp [cut,glue]
 have hlen:(cut x0 l).length=x.m+1:=by rw [he];simp [hm]
 exact Zd2 .ret (.inl rfl) [_] [0] rfl ⟨rfl,trivial⟩ ⟨rfl,_,rfl,p2,c2,by rw [hlen];rfl,by rw [hlen,he];rw [List.take_length] at hv2;exact Zkq hv2⟩

theorem ZkE (l:List UInt8) (hl:l.length≤2000000) (B:Kn):Zac (pj J) 91 [str l] B (.bool (Zc2 l)):=by
 refine cB 27 Tryz.func91 (h:=?_)
 refine Za (xA (h:=Z6 [(0,_),(2,_)] t2 (Za (xM (h:=Zl (Zwy rfl rfl ZAc rfl (Zvr _ hl 46 _) ?_))))))
 rintro _ s ⟨q,cp,rfl,hv⟩
 refine xA (h:=ZD [(0,_),(2,_),(3,_)] [_] t3 rfl (Zc (Za (xA (h:=Z6 [(0,_),(2,_),(3,_),(4,_)] t4 (Zg (Zkn (α:=Nat) (fun k=>[(0,str l),(3,.slice q (cut 46 l).length cp),(4,.int .i64 k)]) (fun k=>[s]) (fun k Bx=>Bx=B∧k≤(cut 46 l).length∧((cut 46 l).take k).all Zax=true) (fun k=>(cut 46 l).length - k) 0 t3 rfl (⟨rfl,Nat.zero_le _,by simp⟩) (fun k B1 hle1 hI=>?_))))))))
 obtain ⟨rfl,hk,ha⟩:=hI
 have hcc:=ZlA 46 l
 refine Zc (Za (xM (h:=xM (h:=xV Tryz.underlying143 (h:=ZF (h:=Z6 [(0,_),(3,_),(4,_),(10,_)] t4 (Zb rfl (fun g1=>?_) (fun g1=>?_))))))))
 try simp only [sQ,ne_eq] at g1
 obtain ⟨y,hy⟩ :∃y,(cut 46 l)[k]? = some y:=⟨_,List.getElem?_eq_getElem oz⟩
 have hyl:=Zm0 46 l y (List.mem_of_getElem? hy)
 obtain ⟨a,rfl,hsp,hat⟩:=hv.at (B:=B1) (L:=[s]) (i:=k) (v:=str y) 0 rfl (by rw [List.getElem?_map,hy];rfl)
 refine wSk (Zc (Zg (Za (xM (h:=xM (h:=Zl (Zb5 rfl rfl Tryz.underlying143 sz9 rfl rfl oz oz ?_)))))))
 refine Zl (Zo rfl rfl lk9 rfl (ZxU hat) (xR ZmX rfl (ZcM _ oz _) (h:=?_)))
 refine xN (h:=Z6 [(0,_),(3,_),(4,_),(10,_),(18,_)] t5 (Zb rfl (fun g2=>?_) (fun g2=>?_)))
 try simp only [sQ,ne_eq] at g2
 refine Za (xA (h:=Z6 [(0,_),(2,_),(3,_),(4,_),(10,_),(18,_)] t6 (Zd (ZB (Zm (Zu7 (ZB (Zm ?_))))))))
 exact eR t1 ⟨Ze (by simp [Zc2,ZlN hy g2]),rfl,rfl⟩
 try simp only [sQ,ne_eq] at g2
 refine ZS (ZK (Zp (Zf (xM (h:=Zl (ZgB rfl rfl rfl rfl (by first | exact ZcB oz oz | rfl) ?_))))))
 refine xA (h:=?_)
 exact Zon (k+1) oz ⟨rfl,oz,Zix hy g2 ha⟩ t3 rfl
 try simp only [sQ,ne_eq] at g1
 obtain hke:k=(cut 46 l).length:=by omega
 rw [hke,List.take_length] at ha
 refine ZE (ZV (Zom (Zt (Zp (Za (xM (h:=xV Tryz.underlying143 (h:=Zb4 (h:=xM (h:=Zx (d:=22) rfl (fun g3=>?_) (fun g3=>?_)))))))))))
 try simp only [sQ,ne_eq] at g3
 refine xM (h:=xVs Tryz.underlying9 (h:=Zb4 (h:=xT (h:=xA (h:=Z6 [(0,_),(2,_),(3,_),(4,_),(10,_)] t5 (Zd ?_))))))
 exact eR t1 ⟨Ze (by rw [Bool.eq_iff_iff];simp [Zc2,ha];omega),rfl,rfl⟩
 try simp only [sQ,ne_eq] at g3
 refine xP (h:=xP (h:=xP (h:=xF (h:=xA (h:=Z6 [(0,_),(2,_),(3,_),(4,_),(10,_)] t5 (Zd ?_))))))
 exact eR t1 ⟨Ze (by rw [Bool.eq_iff_iff];simp [Zc2,ha];omega),rfl,rfl⟩

theorem Ze4 (q:Option Addr) (cp:Nat) (us:List DUser) (u:Str) (B:Kn) (hu:SlK B q cp 3 Zn us):Zac (pj J) 96 [.slice q us.length cp,str u] B (.int .i64 (Zee us u)):=by
 refine cB 20 Tryz.func96 (h:=?_)
 have hun:=hu.len
 refine Za (xA (h:=Zc (Za (xA (h:=Zg (Zz (α:=Nat) [0,1] (fun k=>[(5,.int .i64 k)]) [] (fun k=>[]) (fun k Bx=>Bx=B∧k≤us.length∧∀x,x∈us.take k→x.name≠u) (fun k=>us.length - k) 0 t1 rfl (⟨rfl,Nat.zero_le _,by simp⟩) (fun k B1 hle1 hI=>?_)))))))
 obtain ⟨rfl,hk,ha⟩:=hI
 refine ZD [(0,_),(1,_),(5,_)] [] t3 rfl (Zc (Za (xM (h:=xM (h:=xV Tryz.underlying23 (h:=ZF (h:=Zb rfl (fun g1=>?_) (fun g1=>?_))))))))
 try simp only [sQ,ne_eq] at g1
 refine wSk (Zc (Zg (Za (xM (h:=xM (h:=?_))))))
 obtain ⟨x,hx⟩:=ZY (xs:=us) (i:=k) om
 obtain ⟨bb3,oo3,rfl⟩:=hu.base hx
 obtain ⟨_,⟨rfl,hb4,hb4b⟩,hc4⟩:=hu.elem hx
 refine xIx Tryz.underlying23 Zbq (h:=xW Zbi (h:=y1 lk9 hc4 0 (h:=xM (h:=Zd4 (h:=Zb rfl (fun g2=>?_) (fun g2=>?_))))))
 try simp only [sQ,ne_eq] at g2
 refine Za (xM (h:=xA (h:=Zd (ZB (Zm (ZM (ZB (Zm ?_))))))))
 exact eR t1 ⟨ZH (Zto hx g2 ha).symm,rfl,rfl⟩
 try simp only [sQ,ne_eq] at g2
 refine ZS (ZK (Zp (Zf (xM (h:=xD (h:=xA (h:=?_)))))))
 exact ZC (k+1) [] so2 ⟨rfl,oz,Za8 hx ha g2⟩ t3 rfl
 try simp only [sQ,ne_eq] at g1
 refine ZE (ZV (ZG (Zt (Zp (Za (xA (h:=Zd ?_)))))))
 exact eR t1 ⟨ZH (ZqJ (Zbe oz ha)).symm,rfl,rfl⟩

theorem ZmV (q q':Option Addr) (cp cp':Nat) (xs ys:List Str) (B:Kn) (ha:SlK B q cp 1 ZdM xs) (hb:SlK B q' cp' 1 ZdM ys):Zac (pj J) 238 [.slice q xs.length cp,.slice q' ys.length cp'] B (.bool (decide (xs=ys))):=by
 refine cB 26 Tryz.func238 (h:=?_)
 have han:=ha.len
 have hbn:=hb.len
 refine Za (xA (h:=Zc (Za (xM (h:=xV Tryz.underlying143 (h:=xM (h:=xV Tryz.underlying143 (h:=ZaH (h:=Zb rfl (fun g1=>?_) (fun g1=>?_))))))))))
 try simp only [sQ,ne_eq] at g1
 refine Za (xA (h:=Zd (Zm ?_)))
 exact eR t1 ⟨Ze (Zf2 g1),rfl,rfl⟩
 try simp only [sQ,ne_eq] at g1
 refine wSk (Zc (Za (xA (h:=Zg (Zz (α:=Nat) [0,1,10] (fun k=>[(5,.int .i64 k)]) [] (fun k=>[]) (fun k Bx=>Bx=B∧k≤xs.length∧xs.take k=ys.take k) (fun k=>xs.length - k) 0 t1 rfl (⟨rfl,Nat.zero_le _,by simp⟩) (fun k B1 hle1 hI=>?_))))))
 obtain ⟨rfl,hk,he⟩:=hI
 refine ZD [(0,_),(1,_),(5,_),(10,_)] [] t4 rfl (Zc (Za (xM (h:=xM (h:=xV Tryz.underlying143 (h:=ZF (h:=Zb rfl (fun g2=>?_) (fun g2=>?_))))))))
 try simp only [sQ,ne_eq] at g2
 refine wSk (Zc (Zg (Zc (Z2 (same _ _) mo kr ⟨rfl,rfl⟩ (fun _ _=>?_)))))
 refine aM 0 rfl (h:=aM 1 rfl (h:=?_))
 obtain ⟨x,hx⟩:=ZY (xs:=xs) (i:=k) om
 obtain ⟨bb3,oo3,rfl⟩:=ha.base hx
 obtain ⟨_,⟨rfl,hb4⟩,hc4⟩:=ha.elem hx
 refine aIx 2 rfl Tryz.underlying143 sz9 (h:=aT 3 rfl (Zae fun D=>Zo rfl rfl lk9 rfl (hc4 _ 0 _ rfl) r4) (h:=aM 4 rfl (h:=aM 5 rfl (h:=?_))))
 obtain ⟨y,hy⟩:=ZY (xs:=ys) (i:=k) om
 obtain ⟨bb6,oo6,rfl⟩:=hb.base hy
 obtain ⟨_,⟨rfl,hb7⟩,hc7⟩:=hb.elem hy
 refine aIx 6 rfl Tryz.underlying143 sz9 (h:=aT 7 rfl (Zae fun D=>Zo rfl rfl lk9 rfl (hc7 _ 0 _ rfl) r4) (h:=ZfJ 8 rfl (h:=Zu kr kr ?_)))
 refine Zp (Zb rfl (fun g3=>?_) (fun g3=>?_))
 try simp only [sQ,ne_eq] at g3
 refine Za (xA (h:=Zd (ZB (Zm (ZM (ZB (Zm ?_)))))))
 exact eR t1 ⟨Ze (ZeK hx hy g3),rfl,rfl⟩
 try simp only [sQ,ne_eq] at g3
 refine ZS (ZK (Zp (Zf (xM (h:=xD (h:=xA (h:=?_)))))))
 exact ZC (k+1) [] so2 ⟨rfl,oz,Zbx hx hy g3 he⟩ t4 rfl
 try simp only [sQ,ne_eq] at g2
 refine ZE (ZV (ZG (Zt (Zp (Za (xA (h:=Zd ?_)))))))
 exact eR t1 ⟨Ze (eqT oz oz he),rfl,rfl⟩

theorem Zth (q:Option Addr) (cp:Nat) (xs:List Str) (u:Str) (B:Kn) (ha:SlK B q cp 1 ZdM xs):Zac (pj J) 264 [.slice q xs.length cp,str u] B (.bool (decide (u∈xs))):=by
 refine cB 18 Tryz.func264 (h:=?_)
 have han:=ha.len
 refine Za (xA (h:=Zc (Za (xA (h:=Zg (Zz (α:=Nat) [0,1] (fun k=>[(5,.int .i64 k)]) [] (fun k=>[]) (fun k Bx=>Bx=B∧k≤xs.length∧∀x,x∈xs.take k→x≠u) (fun k=>xs.length - k) 0 t1 rfl (⟨rfl,Nat.zero_le _,by simp⟩) (fun k B1 hle1 hI=>?_)))))))
 obtain ⟨rfl,hk,hn⟩:=hI
 refine ZD [(0,_),(1,_),(5,_)] [] t3 rfl (Zc (Za (xM (h:=xM (h:=xV Tryz.underlying143 (h:=ZF (h:=Zb rfl (fun g1=>?_) (fun g1=>?_))))))))
 try simp only [sQ,ne_eq] at g1
 refine wSk (Zc (Zg (Za (xM (h:=xM (h:=?_))))))
 obtain ⟨x,hx⟩:=ZY (xs:=xs) (i:=k) om
 obtain ⟨bb3,oo3,rfl⟩:=ha.base hx
 obtain ⟨_,⟨rfl,hb4⟩,hc4⟩:=ha.elem hx
 refine xIx Tryz.underlying143 sz9 (h:=y1 lk9 hc4 0 (h:=xM (h:=Zd4 (h:=Zb rfl (fun g2=>?_) (fun g2=>?_)))))
 try simp only [sQ,ne_eq] at g2
 refine Za (xA (h:=Zd (ZB (Zm (ZM (ZB (Zm ?_)))))))
 exact eR t1 ⟨Ze (ZBp hx g2),rfl,rfl⟩
 try simp only [sQ,ne_eq] at g2
 refine ZS (ZK (Zp (Zf (xM (h:=xD (h:=xA (h:=?_)))))))
 exact ZC (k+1) [] so2 ⟨rfl,oz,Za8 hx hn g2⟩ t3 rfl
 try simp only [sQ,ne_eq] at g1
 refine ZE (ZV (ZG (Zt (Zp (Za (xA (h:=Zd ?_)))))))
 exact eR t1 ⟨Ze (ZBq (Zbe oz hn)),rfl,rfl⟩

theorem ZoG (q:Option Addr) (cp:Nat) (xs:List Str) (B:Kn) (ha:SlK B q cp 1 ZdM xs):Zac (pj J) 223 [.slice q xs.length cp] B (.bool (Zc4 xs)):=by
 refine cB 29 Tryz.func223 (h:=?_)
 have han:=ha.len
 refine Za (xA (h:=Zc (Za (xA (h:=Zg (Zz (α:=Nat) [0] (fun k=>[(3,.int .i64 k)]) [] (fun k=>[]) (fun k Bx=>Bx=B∧k≤xs.length∧(xs.take k).all Zax=true∧(xs.take k).Nodup) (fun k=>xs.length - k) 0 t1 rfl (⟨rfl,Nat.zero_le _,by simp,by simp⟩) (fun k B1 hle1 hI=>?_)))))))
 obtain ⟨rfl,hk,hv,hn⟩:=hI
 refine ZD [(0,_),(3,_)] [] t2 rfl (Zc (Za (xM (h:=xM (h:=xV Tryz.underlying143 (h:=ZF (h:=Zb rfl (fun g1=>?_) (fun g1=>?_))))))))
 try simp only [sQ,ne_eq] at g1
 refine wSk (Zc (Zg (Zc (Z2 (same _ _) mo kr ⟨rfl,rfl⟩ (fun _ _=>?_)))))
 refine aM 0 rfl (h:=aM 1 rfl (h:=?_))
 obtain ⟨x,hx⟩:=ZY (xs:=xs) (i:=k) om
 obtain ⟨bb3,oo3,rfl⟩:=ha.base hx
 obtain ⟨_,⟨rfl,hb4⟩,hc4⟩:=ha.elem hx
 refine aIx 2 rfl Tryz.underlying143 sz9 (h:=aT 3 rfl (Zae fun D=>Zo rfl rfl lk9 rfl (hc4 _ 0 _ rfl) r4) (h:=aT 4 rfl (Zae fun D=>Z7 rfl rfl ZmX rfl (ZcM _ om2 _) r4) (h:=?_)))
 refine aN 5 rfl (h:=aM 6 rfl (h:=ZaK (d:=16) rfl (fun g2=>?_) (fun g2=>?_)))
 try simp only [sQ,ne_eq] at g2
 refine aZ 7 rfl (h:=aZ 8 rfl (h:=aZ 9 rfl (h:=aZ 10 rfl (h:=aZ 11 rfl (h:=aZ 12 rfl (h:=aZ 13 rfl (h:=aZ 14 rfl (h:=aPT 15 rfl (h:=Zu kr kr ?_)))))))))
 refine Zp (Zb (t:=true) rfl (fun _=>Za (xA (h:=Zd (ZB (Zm (ZM (ZB (Zm ?_)))))))) (fun h=>Bool.noConfusion h))
 exact eR t1 ⟨Ze (Zhg hx g2),rfl,rfl⟩
 try simp only [sQ,ne_eq] at g2
 refine aM 7 rfl (h:=aM 8 rfl (h:=?_))
 obtain ⟨hq6,q6,cp6,hv6,hr6⟩:=ha.cutE 0 k om om
 have hr6n:=hr6.len
 refine aT 9 rfl (Zae fun D=>Zpw (a:=0) (b:=k) hv6 om hq6 rfl rfl Tryz.underlying143 sz9 rfl rfl ⟨_,_,rfl,by first | omega | (simp;done) | (simp;omega)⟩ r4) (h:=?_)
 refine aM 10 rfl (h:=aM 11 rfl (h:=aIx 12 rfl Tryz.underlying143 sz9 (h:=aT 13 rfl (Zae fun D=>Zo rfl rfl lk9 rfl (hc4 _ 0 _ rfl) r4) (h:=aT 14 rfl (Zae fun D=>Z7 rfl rfl Zzl rfl (Zth _ _ _ _ _ hr6) r4) (h:=aPF 15 rfl (h:=Zu kr kr ?_))))))
 refine Zp (Zb rfl (fun g3=>?_) (fun g3=>?_))
 try simp only [sQ,ne_eq] at g3
 refine Za (xA (h:=Zd (ZB (Zm (ZM (ZB (Zm ?_)))))))
 exact eR t1 ⟨Ze (Zhf hx (by simpa using g3)),rfl,rfl⟩
 try simp only [sQ,ne_eq] at g3
 refine ZS (ZK (Zp (Zf (xM (h:=xD (h:=xA (h:=?_)))))))
 exact ZC (k+1) [] so2 ⟨rfl,oz,Zix hx g2 hv,Zqk hx hn (by simpa using g3)⟩ t2 rfl
 try simp only [sQ,ne_eq] at g1
 refine ZE (ZV (ZG (Zt (Zp (Za (xM (h:=xV Tryz.underlying143 (h:=Zb4 (h:=xA (h:=Zd ?_))))))))))
 exact eR t1 ⟨Ze (ZhX oz hv hn),rfl,rfl⟩

theorem ZkD (q:Option Addr) (cp:Nat) (x:DLetter) (B:Kn) (ha:SlK B q cp 1 ZdM x.to_) (h1:x.fr.length≤2000000) (h2:x.text.length≤2000000):Zac (pj J) 160 [.agg #[str x.fr,.slice q x.to_.length cp,str x.text]] B (.bool (ZcW x)):=by
 refine cB 23 Tryz.func160 (h:=?_)
 refine Za (xBx [_,_,_] (h:=fun b1=>xA (h:=tL1 (Za (xW Zq3 (h:=x1 lk9 0 (h:=xR ZmX rfl (ZcM _ om2 _) (h:=?_))))))))
 refine xM (h:=Zx (d:=6) rfl (fun g1=>?_) (fun g1=>?_))
 try simp only [sQ,ne_eq] at g1
 refine xW ZmU (h:=x1 ZfV 0 (h:=xR ZzI rfl (ZoG _ _ _ _ ha) (h:=xT (h:=xM (h:=Zx (d:=11) rfl (fun g2=>?_) (fun g2=>?_))))))
 try simp only [sQ,ne_eq] at g2
 refine xW ZmU (h:=x1 ZfV 0 (h:=xV Tryz.underlying143 (h:=ZdP (h:=xT (h:=xM (h:=Zx (d:=17) rfl (fun g3=>?_) (fun g3=>?_)))))))
 try simp only [sQ,ne_eq] at g3
 refine xW Zq2 (h:=x1 lk9 0 (h:=xVs Tryz.underlying9 (h:=Zb4 (h:=xT (h:=xA (h:=Zd ?_))))))
 exact eR t1 ⟨Ze (by rw [Bool.eq_iff_iff];simp [ZcW,g1,g2,g3];try omega),rfl,rfl⟩
 try simp only [sQ,ne_eq] at g3
 refine xP (h:=xP (h:=xP (h:=xP (h:=xF (h:=xA (h:=Zd ?_))))))
 exact eR t1 ⟨Ze (by rw [Bool.eq_iff_iff];simp [ZcW,g1,g2,g3];try omega),rfl,rfl⟩
 try simp only [sQ,ne_eq] at g2
 refine xP (h:=xP (h:=xP (h:=xP (h:=xF (h:=xM (h:=xP (h:=xP (h:=xP (h:=xP (h:=xF (h:=xA (h:=Zd ?_))))))))))))
 exact eR t1 ⟨Ze (by rw [Bool.eq_iff_iff];simp [ZcW,g1,g2];try omega),rfl,rfl⟩
 try simp only [sQ,ne_eq] at g1
 refine xP (h:=xP (h:=xP (h:=xF (h:=xM (h:=xP (h:=xP (h:=xP (h:=xP (h:=xF (h:=xM (h:=xP (h:=xP (h:=xP (h:=xP (h:=xF (h:=xA (h:=Zd ?_)))))))))))))))))
 exact eR t1 ⟨Ze (by rw [Bool.eq_iff_iff];simp [ZcW,g1];try omega),rfl,rfl⟩

theorem Zvx (q:Option Addr) (cp:Nat) (xs:List Str) (v:Str) (B:Kn) (ha:SlK B q cp 1 ZdM xs):Zac (pj J) 276 [.slice q xs.length cp,str v] B (.int .i64 (Zy0 xs v)):=by
 refine cB 19 Tryz.func276 (h:=?_)
 have han:=ha.len
 refine Za (xA (h:=Zc (Za (xM (h:=xV Tryz.underlying143 (h:=xM (h:=Zg (Zz (α:=Nat) [0,1,7] (fun k=>[(8,.int .i64 k)]) [] (fun k=>[]) (fun k Bx=>Bx=B∧k≤xs.length∧∀x,x∈xs.take k→decide (x=v)=false) (fun k=>xs.length - k) 0 t1 rfl (⟨rfl,Nat.zero_le _,by simp⟩) (fun k B1 hle1 hI=>?_)))))))))
 obtain ⟨rfl,hk,hn⟩:=hI
 refine ZD [(0,_),(1,_),(7,_),(8,_)] [] t4 rfl (Za (ZF (h:=Zc (Zb rfl (fun g1=>?_) (fun g1=>?_)))))
 try simp only [sQ,ne_eq] at g1
 refine wSk (Zc (Zg (Za (xM (h:=xA (h:=Za (xM (h:=xM (h:=xM (h:=?_))))))))))
 obtain ⟨x,hx⟩:=ZY (xs:=xs) (i:=k) om
 obtain ⟨bb3,oo3,rfl⟩:=ha.base hx
 obtain ⟨_,⟨rfl,hb4⟩,hc4⟩:=ha.elem hx
 refine xIx Tryz.underlying143 sz9 (h:=y1 lk9 hc4 0 (h:=Zd4 (h:=Zb rfl (fun g2=>?_) (fun g2=>?_))))
 try simp only [sQ,ne_eq] at g2
 refine Za (xM (h:=xA (h:=Zd (ZB (Zm (ZM (ZB (Zm ?_))))))))
 exact eR t1 ⟨ZH (Zhx hx (by simp [g2]) hn).symm,rfl,rfl⟩
 try simp only [sQ,ne_eq] at g2
 refine ZS (ZK (Zp (Zf (xD (h:=xM (h:=?_))))))
 exact ZC (k+1) [] so2 ⟨rfl,oz,Za8 hx hn (by simp [Ne.symm g2])⟩ t4 rfl
 try simp only [sQ,ne_eq] at g1
 refine ZE (ZV (ZG (Zt (Zp (Za (xA (h:=Zd ?_)))))))
 exact eR t1 ⟨ZH (Ze8 (Zbe oz hn)).symm,rfl,rfl⟩

theorem Zo2 (q:Option Addr) (cp:Nat) (xs:List Str) (v:Str) (B:Kn) (ha:SlK B q cp 1 ZdM xs):Zac (pj J) 254 [.slice q xs.length cp,str v] B (.bool (decide (v∈xs))):=by
 refine cB 9 Tryz.func254 (h:=?_)
 refine Za (xA (h:=Za (xM (h:=xM (h:=xR Zzf rfl (Zvx _ _ _ _ _ ha) (h:=Zep (h:=xA (h:=Zd ?_))))))))
 exact eR t1 ⟨Ze (by rw [Bool.eq_iff_iff];simp [Ztp]),rfl,rfl⟩

theorem Zmf (q:Option Addr) (cp:Nat) (xs:List Str) (B:Kn) (ha:SlK B q cp 1 ZdM xs):Zac (pj J) 199 [.slice q xs.length cp] B (.bool (decide (1≤xs.length) && Zc4 xs)):=by
 refine cB 31 Tryz.func199 (h:=?_)
 have han:=ha.len
 refine Za (xA (h:=Zc (Za (xM (h:=xV Tryz.underlying143 (h:=ZF (h:=xM (h:=Zx (d:=8) rfl (fun g1=>?_) (fun g1=>?_)))))))))
 try simp only [sQ,ne_eq] at g1
 refine xP (h:=xP (h:=xP (h:=xT (h:=Zb (t:=true) rfl (fun _=>Za (xA (h:=Zd (Zm ?_)))) (fun h=>Bool.noConfusion h)))))
 exact eR t1 ⟨Ze (by simp;omega),rfl,rfl⟩
 try simp only [sQ,ne_eq] at g1
 refine xM (h:=xV Tryz.underlying143 (h:=ZdP (h:=xF (h:=Zb rfl (fun g2=>?_) (fun g2=>?_)))))
 try simp only [sQ,ne_eq] at g2
 refine Za (xA (h:=Zd (Zm ?_)))
 exact eR t1 ⟨Ze (by simp [Zc4];omega),rfl,rfl⟩
 try simp only [sQ,ne_eq] at g2
 refine wSk (Zc (Za (xM (h:=xV Tryz.underlying143 (h:=xM (h:=Zg (Zz (α:=Nat) [0,12,13,14] (fun k=>[(15,.int .i64 k)]) [] (fun k=>[]) (fun k Bx=>Bx=B∧k≤xs.length∧(xs.take k).all Zax=true∧(xs.take k).Nodup) (fun k=>xs.length - k) 0 t1 rfl (⟨rfl,Nat.zero_le _,by simp,by simp⟩) (fun k B1 hle1 hI=>?_))))))))
 obtain ⟨rfl,hk,hv,hn⟩:=hI
 refine ZD [(0,_),(12,_),(13,_),(14,_),(15,_)] [] t5 rfl (Za (ZF (h:=Zc (Zb rfl (fun g3=>?_) (fun g3=>?_)))))
 try simp only [sQ,ne_eq] at g3
 refine wSk (Zc (Zg (Za (xM (h:=?_)))))
 obtain ⟨x,hx⟩:=ZY (xs:=xs) (i:=k) om
 obtain ⟨bb3,oo3,rfl⟩:=ha.base hx
 obtain ⟨_,⟨rfl,hb4⟩,hc4⟩:=ha.elem hx
 refine xIx Tryz.underlying143 sz9 (h:=y1 lk9 hc4 0 (h:=xA (h:=xA (h:=Za (xM (h:=xR Zlw rfl (Zck _ om2 _) (h:=?_)))))))
 refine xN (h:=xM (h:=Zx (d:=23) rfl (fun g4=>?_) (fun g4=>?_)))
 try simp only [sQ,ne_eq] at g4
 refine xP (h:=xP (h:=xP (h:=xP (h:=xP (h:=xT (h:=Zb (t:=true) rfl (fun _=>Za (xA (h:=Zd (ZB (Zm (ZM (ZB (Zm ?_)))))))) (fun h=>Bool.noConfusion h)))))))
 exact eR t1 ⟨Ze (by rw [← Zhg hx g4,Bool.and_false]),rfl,rfl⟩
 try simp only [sQ,ne_eq] at g4
 refine xM (h:=xM (h:=?_))
 obtain ⟨hq6,q6,cp6,hv6,hr6⟩:=ha.cutE 0 k om om
 have hr6n:=hr6.len
 refine Zl (Zpw (a:=0) (b:=k) hv6 om hq6 rfl rfl Tryz.underlying143 sz9 rfl rfl ⟨_,_,rfl,by first | omega | (simp;done) | (simp;omega)⟩ ?_)
 refine xM (h:=xR Zzp rfl (Zo2 _ _ _ _ _ hr6) (h:=xF (h:=Zb rfl (fun g5=>?_) (fun g5=>?_))))
 try simp only [sQ,ne_eq] at g5
 refine Za (xA (h:=Zd (ZB (Zm (ZM (ZB (Zm ?_)))))))
 exact eR t1 ⟨Ze (by rw [← Zhf hx (by simpa using g5),Bool.and_false]),rfl,rfl⟩
 try simp only [sQ,ne_eq] at g5
 refine ZS (ZK (Zp (Zf (xD (h:=xM (h:=?_))))))
 exact ZC (k+1) [] so2 ⟨rfl,oz,Zix hx g4 hv,Zqk hx hn (by simpa using g5)⟩ t5 rfl
 try simp only [sQ,ne_eq] at g3
 refine ZE (ZV (ZG (Zt (Zp (Za (xA (h:=Zd ?_)))))))
 exact eR t1 ⟨Ze (by rw [← ZhX oz hv hn];simp;omega),rfl,rfl⟩

theorem Zlf (q:Option Addr) (cp:Nat) (x:DLetter) (B:Kn) (ha:SlK B q cp 1 ZdM x.to_) (h1:x.fr.length≤2000000) (h2:x.text.length≤2000000):Zac (pj J) 142 [.agg #[str x.fr,.slice q x.to_.length cp,str x.text]] B (.bool (ZcW x)):=by
 refine cB 17 Tryz.func142 (h:=?_)
 refine Za (xBx [_,_,_] (h:=fun b1=>xA (h:=tL1 (Za (xW Zq3 (h:=x1 lk9 0 (h:=xR Zlw rfl (Zck _ om2 _) (h:=?_))))))))
 refine xM (h:=Zx (d:=6) rfl (fun g1=>?_) (fun g1=>?_))
 refine xW ZmU (h:=x1 ZfV 0 (h:=xR ZzN rfl (Zmf _ _ _ _ ha) (h:=xT (h:=xM (h:=Zx (d:=11) rfl (fun g2=>?_) (fun g2=>?_))))))
 refine xW Zq2 (h:=x1 lk9 0 (h:=xVs Tryz.underlying9 (h:=Zb4 (h:=xT (h:=xA (h:=Zd ?_))))))
 exact eR t1 ⟨Ze (by rw [Ze2];simp [g1,g2]),rfl,rfl⟩
 refine xP (h:=xP (h:=xP (h:=xP (h:=xF (h:=xA (h:=Zd ?_))))))
 exact eR t1 ⟨Ze (by rw [Ze2];simp [g1,g2]),rfl,rfl⟩
 refine xP (h:=xP (h:=xP (h:=xF (h:=xM (h:=xP (h:=xP (h:=xP (h:=xP (h:=xF (h:=xA (h:=Zd ?_)))))))))))
 exact eR t1 ⟨Ze (by rw [Ze2];simp [g1]),rfl,rfl⟩

theorem Zmc (aq:Option Addr) (cq:Nat) (q:DQueue) (B:Kn) (hq:SlK B aq cq 4 Zy q.items):Zac (pj J) 93 [.agg #[.int .i64 q.next,.slice aq q.items.length cq]] B (.bool (Za4 q)):=by
 refine cB 48 Tryz.func93 (h:=?_)
 have hqn:=hq.len
 refine Za (xBx [_,_] (h:=fun b1=>xA (h:=tL1 (Za (xA (h:=Zc (Za (xA (h:=Zg (Zz (α:=Nat × Int) [0,1] (fun p=>[(3,.int .i64 p.2),(4,.int .i64 p.1)]) [] (fun p=>[]) (fun p Bx=>Bx=B∧p.1≤q.items.length∧Zd7 0 q.items=Zd7 p.2 (q.items.drop p.1)∧0≤p.2∧p.2≤99) (fun p=>q.items.length - p.1) (0,0) t2 rfl (⟨rfl,Nat.zero_le _,rfl,by decide,by decide⟩) (fun p B2 hle2 hI=>?_)))))))))))
 obtain ⟨rfl,hk,hs,hl0,hl1⟩:=hI
 refine ZD [(0,_),(1,_),(3,_),(4,_)] [_] t4 rfl (Zc (Za (xM (h:=xW ZbX (h:=x1 Zi5 0 (h:=xV Tryz.underlying25 (h:=ZF (h:=Zb rfl (fun g1=>?_) (fun g1=>?_)))))))))
 try simp only [sQ,ne_eq] at g1
 refine wSk (Zc (Zg (Za (xW ZbX (h:=x1 Zi5 0 (h:=xM (h:=?_)))))))
 obtain ⟨x,hx⟩:=ZY (xs:=q.items) (i:=p.1) om
 obtain ⟨bb4,oo4,rfl⟩:=hq.base hx
 obtain ⟨_,⟨qi5,ci5,rfl,hi5,hb5,hb5b⟩,hc5⟩:=hq.elem hx
 have hi5n:=hi5.len
 refine xIx Tryz.underlying25 ZbC (h:=?_)
 replace hs:=Zp2 hs hx
 refine yL [_,_,_,_] Ze1 hc5 0 (h:=xAl [_,_,_,_] Zfs (h:=fun b6=>xS [_,_,_,_] 1 [_,_,_,_] ZbC (h:=tL2 (Zc (Za (xW ZeF (h:=x1 lk3 1 (h:=xM (h:=xD (h:=xR Zfw rfl (Zc9 _ _ _ _) (h:=xN (h:=xM (h:=Zx (d:=24) rfl (fun g2=>?_) (fun g2=>?_))))))))))))))
 try simp only [sQ,ne_eq] at g2
 refine xP (h:=xP (h:=xP (h:=xP (h:=xP (h:=xP (h:=xP (h:=xP (h:=xP (h:=xT (h:=Zb (t:=true) rfl (fun _=>Za (xA (h:=Zd (Zm (ZB (Zm (ZM (ZB (Zm ?_))))))))) (fun h=>Bool.noConfusion h)))))))))))
 exact eR t1 ⟨Ze (Zny (by rw [hs,if_neg];intro h;simp [h.1] at g2)),rfl,rfl⟩
 try simp only [sQ,ne_eq] at g2
 simp only [Bool.and_eq_true,decide_eq_true_eq] at g2
 refine xW ZeE (h:=x1 lk9 1 (h:=xW ZcQ (h:=x1 ZfV 1 (h:=xW ZfY (h:=x1 lk9 1 (h:=xB [(0,_),(1,_),(2,_)] [_,_,_] [_,_,_] Zw3 Zwq (h:=xR ZAb rfl (ZkD _ _ ⟨x.fr,x.left,x.text⟩ _ hi5 oa oa) (h:=?_))))))))
 refine xN (h:=xF (h:=Zb rfl (fun g3=>?_) (fun g3=>?_)))
 try simp only [sQ,ne_eq] at g3
 refine Za (xA (h:=Zd (Zm (ZB (Zm (ZM (ZB (Zm ?_))))))))
 exact eR t1 ⟨Ze (Zny (by rw [hs,if_neg];intro h;rw [Ze6,g3] at h;cases h.2)),rfl,rfl⟩
 try simp only [sQ,ne_eq] at g3
 refine wSk (Zf (xW ZeF (h:=x1 lk3 1 (h:=xA (h:=ZK (Zp (Zf (xM (h:=xD (h:=xA (h:=?_)))))))))))
 exact ZC (p.1+1,x.id) [0] so2 ⟨rfl,so,by rw [hs,if_pos ⟨g2,g3⟩],so,so⟩ t4 rfl
 try simp only [sQ,ne_eq] at g1
 rw [Zrz oz,Zd7] at hs
 refine ZE (ZV (ZG (Zt (Zp (Za (xW Zgs (h:=x1 lk3 0 (h:=xM (h:=xD (h:=xR Zfw rfl (Zc9 _ _ _ _) (h:=xM (h:=Zx (d:=42) rfl (fun g1=>?_) (fun g1=>?_)))))))))))))
 try simp only [sQ,ne_eq] at g1
 refine xW ZbX (h:=x1 Zi5 0 (h:=xV Tryz.underlying25 (h:=Zb4 (h:=xT (h:=xA (h:=Zd ?_))))))
 exact eR t1 ⟨Ze (by rw [← Znx hs,Bool.eq_iff_iff];simp [g1,g1];try omega),rfl,rfl⟩
 try simp only [sQ,ne_eq] at g1
 refine xP (h:=xP (h:=xP (h:=xP (h:=xF (h:=xA (h:=Zd ?_))))))
 exact eR t1 ⟨Ze (by rw [← Znx hs,Bool.eq_iff_iff];simp [g1,g1];try omega),rfl,rfl⟩

theorem Zay (aq:Option Addr) (cq:Nat) (q:DQueue) (B:Kn) (hq:SlK B aq cq 4 Zy q.items):Zv (pj J) 117 [.agg #[.int .i64 q.next,.slice aq q.items.length cq]] B [] (fun v B' Ls=>∃l a cp,Ls=[l]∧v = .agg #[.int .i64 q.next,.slice a q.items.length cp]∧ZT (B'.less B) l a cp 145 4 Zy q.items):=by
 refine cB 34 Tryz.func117 (h:=?_)
 have hqn:=hq.len
 refine Za (xBx [_,_] (h:=fun b1=>xAl [_,_] Zr4 (h:=fun b2=>tL2 (Za (xW Zgs (h:=x1 lk3 0 (h:=xBs [] [] Tryz.underlying25 ZbC Zfs (h:=fun b3=>xB [(0,_),(1,_)] [_,_] [_,_] ZAX Zr4 (h:=xAl [_,_] Zr4 (h:=fun b4=>xS [_,_] 3 [_,_] Zu0 (h:=tL4 (Zc (Za (xA (h:=Zg (Zz (α:=Gh DItem) [0,1,2,3] (fun g=>[(4,.int .i64 g.k)]) [2,3] (fun g=>[g.l,ZN b4 [.int .i64 q.next,.slice g.a g.xs.length g.c] 27]) (fun g Bx=>g.k≤q.items.length∧g.xs=q.items.take g.k∧ZT (Bx.less B) g.l g.a g.c 145 4 Zy g.xs) (fun g=>q.items.length - g.k) ⟨0,0,_,_,_,[]⟩ t1 rfl (⟨Nat.zero_le _,rfl,.lit0⟩) (fun g B5 hle5 hI=>?_)))))))))))))))))
 obtain ⟨hk,hxs,hv⟩:=hI
 have hxn:=congrArg List.length hxs
 rw [List.length_take] at hxn
 replace hq:=up1 hle5 hq
 refine ZD [(0,_),(1,_),(2,_),(3,_),(4,_)] [_,_,_,_] t5 rfl (Zc (Za (xM (h:=xW ZbX (h:=x1 Zi5 0 (h:=xV Tryz.underlying25 (h:=ZF (h:=Zb rfl (fun g1=>?_) (fun g1=>?_)))))))))
 try simp only [sQ,ne_eq] at g1
 refine wSk (Zc (Zg (Za (xW ZbX (h:=x1 Zi5 0 (h:=xM (h:=?_)))))))
 obtain ⟨x,hx⟩:=ZY (xs:=q.items) (i:=g.k) om
 obtain ⟨bb7,oo7,rfl⟩:=hq.base hx
 obtain ⟨_,⟨qi8,ci8,rfl,hi8,hb8,hb8b⟩,hc8⟩:=hq.elem hx
 have hi8n:=hi8.len
 refine xIx Tryz.underlying25 ZbC (h:=yL [_,_,_,_] Ze1 hc8 0 (h:=xAl [_,_,_,_] Zfs (h:=fun b9=>xS [_,_,_,_] 4 [_,_,_,_] ZbC (h:=tL5 (Za (xBs [] [] Tryz.underlying143 sz9 zo9 (h:=fun b10=>xW ZcQ (h:=x1 ZfV 4 (h:=Zl (ZcC (R:=ZdM) 5 rfl (ZT.lit0 (R:=ZdM)) rfl rfl rfl Zrt ZsF rfl rfl rfl hi8.rows ZdM.one rfl om (fun l11 p11 c11 hv11=>?_)))))))))))
 refine xW ZcQ (h:=xS [_] 4 [_,_,_,_] Zu2 (h:=tL6 (Zww 5 rfl hv11 ZdM.any om3 hle5 (fun B12 hle12 hr12f=>?_))))
 have hr12:=hr12f.mono ZdM.mono Kn.less_le
 replace hv:=hv.mono Zy.mono (Kn.less_mono hle12)
 have hr12n:=hr12.len
 refine Zf (xW ZbX (h:=x1 Zi5 3 (h:=xL [_,_,_,_] Ze1 4 (h:=xBs [(0,_)] [_,_,_,_] Tryz.underlying25 ZbC Zfs (h:=fun b13=>Zl (ZhK (z:=⟨x.id,x.fr,x.text,x.left⟩) (R:=Zy) 2 rfl hv rfl rfl rfl Zy5 ZAS rfl rfl (Zc1.box 6 rfl) rfl rfl (⟨_,_,rfl,hr12f,by first | assumption | omega | (simp;done) | (simp;omega),by first | assumption | omega | (simp;done) | (simp;omega)⟩) om (fun l14 p14 c14 hv14=>?_)))))))
 refine xW ZbX (h:=xS [_] 3 [_,_] ZyF (h:=ZK (Zp (Zf (xM (h:=xD (h:=xA (h:=?_))))))))
 exact ZC ⟨g.k+1,0,l14,p14,c14,(g.xs ++ [⟨x.id,x.fr,x.text,x.left⟩])⟩ [0,1,2,3] so2 ⟨so,by simp only [];rw [Zbj hx,hxs],hv14⟩ t5 rfl
 try simp only [sQ,ne_eq] at g1
 have hxe:g.xs=q.items:=by rw [hxs];exact List.take_of_length_le oz
 refine ZE (ZV (ZG (Zt (Zp (Za (xL [_,_] ZlS 3 (h:=xS [_,_] 1 [_,_] Zu0 (h:=tL4 (Zd ?_)))))))))
 exact Zd2 .ret (.inl rfl) [_] [2] rfl ⟨⟨_,rfl,.inr ⟨[_,_],ZlS,Zbw 1 rfl rfl rfl,rfl⟩⟩,trivial⟩ ⟨_,_,_,rfl,by rw [← hxe];rfl,hxe ▸ hv⟩

theorem ZmI (q:Option Addr) (cp:Nat) (x:DItem) (B:Kn) (hx:SlK B q cp 1 ZdM x.left):Zv (pj J) 266 [.agg #[.int .i64 x.id,str x.fr,str x.text,.slice q x.left.length cp]] B [] (fun v B' Ls=>B'=B∧∃ins a c,Ls=[ins]∧v = .agg #[.int .i64 x.id,str x.fr,str x.text,.slice a x.left.length c]∧ZrZ 9 ins a c x.left):=by
 refine cB 9 Tryz.func266 (h:=?_)
 have hxn:=hx.len
 refine Za (xBx [_,_,_,_] (h:=fun b1=>xAl [_,_,_,_] Zfs (h:=fun b2=>tL2 (Za (xBs [] [] Tryz.underlying143 sz9 zo9 (h:=fun b3=>xW ZcQ (h:=x1 ZfV 0 (h:=Zl (ZcC (R:=ZdM) 2 rfl (ZT.lit0 (R:=ZdM)) rfl rfl rfl Zrt ZsF rfl rfl rfl hx.rows ZdM.one rfl om (fun l4 p4 c4 hv4=>?_))))))))))
 refine xW ZcQ (h:=xS [_] 0 [_,_,_,_] Zu2 (h:=tL3 (Za (xL [_,_,_,_] Ze1 0 (h:=xS [_,_,_,_] 1 [_,_,_,_] ZbC (h:=tL3 (Zd ?_)))))))
 exact eN [2] rfl ⟨⟨_,rfl,.inr ⟨[_,_,_,_],Ze1,Zbw 1 rfl rfl rfl,rfl⟩⟩,trivial⟩ ⟨rfl,_,_,_,rfl,rfl,(hv4).anyK ZdM.any⟩

theorem Zo4 (q:Option Addr) (m cp:Nat) (B:Kn):Zv (pj J) 265 [.slice q m cp] B [] (fun v B' Ls=>B'=B∧∃b,Ls=[ZN b [.slice q m cp] 25]∧v = .func (.func 277) #[] #[ptr ⟨b,0,none⟩]):=by
 refine cB 4 Tryz.func265 (h:=?_)
 refine Za (xBx [_] (h:=fun b1=>xA (h:=tL1 (Za (Zl (Zd5 (xs:=[]) (ys:=[_]) rfl rfl rfl rfl (xA (h:=Zd ?_))))))))
 exact eN [0] rfl t1 ⟨rfl,_,rfl,rfl⟩

theorem Zwf (l bc:Nat) (q:Option Addr) (cp:Nat) (xs:List DItem) (Inv:Nat→Kn→Cells→Prop) (s0:Cells) (B:Kn) (hq:SlK B q cp 4 Zy xs) (hcc:Zal B bc 0 [.slice q xs.length cp]) (h0:Inv xs.length B s0) (hround :∀(j:Nat) (i:Int) (x:DItem) (row:List Value) (B':Kn) (s:Cells),B.le B'→Inv (j+1) B' s→xs[j]? = some x→Zy B' row x→∃lp,(l,Obj.loop lp)∈s∧lp.params.size=2∧Zr0 (pj J) l lp.fn (ZlL lp.params lp.tmps [.int .i64 i,.agg row.toArray]) lp.assign lp.body B' s (fun B'' s'=>Inv j B'' s')):Zv (pj J) 277 [.func (.yield l) #[] #[],ptr ⟨bc,0,none⟩] B [s0] (fun v B' Ls=>∃s,Ls=[s]∧Inv 0 B' s):=by
 refine cB 19 Tryz.func277 (h:=?_)
 have hqn:=hq.len
 refine Za (Zl (Zo rfl rfl Zi5 rfl (hcc _ 0 _ rfl) (xV Tryz.underlying25 (h:=xU (h:=xA (h:=Zg (Zz (α:=Int × Cells) [0,1] (fun g=>[(3,.int .i64 g.1)]) [0] (fun g=>[g.2]) (fun g Bx=>-1≤g.1∧g.1<xs.length∧Inv (g.1+1).toNat Bx g.2) (fun g=>(g.1+1).toNat) ((xs.length:Int) - 1,s0) t1 rfl (⟨so,so,by rw [show ((xs.length:Int) - 1+1).toNat=xs.length from by omega];exact h0⟩) (fun g B1 hle1 hI=>?_))))))))
 obtain ⟨hk1,hk,hI⟩:=hI
 replace hq:=up1 hle1 hq
 replace hcc:=hcc.mono hle1
 refine ZD [(0,_),(1,_),(3,_)] [_] t3 rfl (Zc (Za (xM (h:=Zep (h:=Zb rfl (fun g1=>?_) (fun g1=>?_))))))
 try simp only [sQ,ne_eq] at g1
 refine wSk (Zc (Zg (Za (xM (h:=xM (h:=Zl (Zo rfl rfl Zi5 rfl (hcc _ 0 _ rfl) (xM (h:=?_)))))))))
 obtain ⟨x,hx⟩:=ZtF (xs:=xs) (i:=g.1) om om
 obtain ⟨bb3,oo3,rfl⟩:=hq.base hx
 obtain ⟨_,⟨qi4,ci4,rfl,hi4,hb4,hb4b⟩,hc4⟩:=hq.elem hx
 have hi4n:=hi4.len
 refine xIx Tryz.underlying25 ZbC (h:=?_)
 obtain ⟨lp,hl,hs,hr⟩:=hround g.1.toNat g.1 x _ _ g.2 (oy) (by rw [show g.1.toNat+1=(g.1+1).toNat from by omega];exact hI) hx ⟨_,_,rfl,oy,oy,oy⟩
 refine yL [_,_,_,_] Ze1 hc4 0 (h:=Zl (ZuO (j:=0) rfl hl rfl rfl rfl rfl hs.symm hr (fun Bc sc hlec hIc=>xN (h:=tL1 (Zb rfl (fun g2=>by cases g2) (fun g2=>?_))))))
 try simp only [sQ,ne_eq] at g2
 refine ZS (ZK (Zp (Zf (xM (h:=xU (h:=xA (h:=?_)))))))
 exact ZC (g.1 - 1,sc) [0] so2 ⟨so,so,by simp only [];rw [show (g.1 - 1+1).toNat=g.1.toNat from by omega];exact hIc⟩ t3 rfl
 try simp only [sQ,ne_eq] at g1
 refine ZE (ZV (ZG (Zt ?_)))
 exact Zd2 .normal (.inr rfl) [] [0] rfl trivial ⟨_,rfl,by rw [show (g.1+1).toNat=0 from by omega] at hI;exact hI⟩

theorem Zmi (q:Option Addr) (cp:Nat) (x:DQueue) (B:Kn) (hx:SlK B q cp 4 Zy x.items):Zv (pj J) 227 [.agg #[.int .i64 x.next,.slice q x.items.length cp]] B [] (fun v B' Ls=>∃s,Ls=[s]∧Zg6 9 351 v x.items s):=by
 refine ZlH 17 Tryz.func227 rfl rfl rfl (Nat.le_of_ble_eq_true rfl) ?_
 refine ZeX (xBx [_,_] (h:=fun b1=>xA (h:=ZpL [(0,_),(1,_),(2,_)] [_] t3 rfl (ZeX (xAl [_] Zyf (h:=fun b2=>ZpL [(0,_),(1,_),(2,_),(3,_)] [_,_] t4 rfl (ZwQ (ZeX (xW ZbX (h:=x1 Zi5 0 (h:=xC Zzk rfl (Zo4 _ _ _ _) (h:=?_))))))))))))
 rintro _ B3 _ hle3 ⟨rfl,b3,rfl,rfl⟩
 refine ZpL [(0,_),(1,_),(2,_),(3,_),(8,_)] [_,_,_] t5 rfl (ZuY (ZyB 2 rfl (fun B4 hle4 hm4=>?_)))
 replace hx:=up1 hle4 hx
 have hcc:=Za0 hm4
 refine ZyA [1] rfl (Zsx (J:=fun B' L'=>∃v s,L'=[ZN b2 [v] 314,s]∧Zg6 9 351 v x.items s) (cap:=[_]) rfl Zze (fun lp l hTn hTS hps hasg hbd hst hlp=>?_) (fun r B9 L9 hle9 hJ=>?_))
 refine Zv.mono (Zwf l _ _ _ x.items (fun j B9 s9=>∃v cells,s9.Perm ((l,Obj.loop lp) :: (ZN b2 [v] 314 ++ cells))∧Zg6 9 351 v (x.items.drop j) cells) _ _ hx hcc ⟨.pointer none,[],by simp,by rw [List.drop_length];exact ⟨rfl,rfl⟩⟩ ?_) ?_
 rintro j i y row B9 s9 hle9 ⟨v,cells,hp,hl⟩ hy hrow
 obtain ⟨qy,cy,rfl,hy5,hy6,hy7⟩:=hrow
 have hy5n:=hy5.len
 obtain ⟨p9,rfl⟩:=hl.ptr
 obtain ⟨hA,hN⟩:=Zt4 (a:=9) (b:=10) (x:=.int .i64 i) (y:=.agg #[.int .i64 y.id,str y.fr,str y.text,.slice qy y.left.length cy]) hTS hTn rfl rfl
 refine ⟨lp,hp.mem_iff.2 (List.mem_cons_self ..),by rw [hps];rfl,?_⟩
 rw [hps,hasg,hbd]
 refine Zp4 (L:=[ZN b2 [.pointer p9] 314,cells]) (lp:=lp) hN [(3,_),(9,_),(10,_)] (hA.sub t3) (by simpa using hp) hst ?_
 refine Zf (xAl [_,_,_,_] Zfs (h:=fun b4=>xS [_,_,_,_] 3 [_,_,_,_] ZbC (h:=⟨rfl,rfl,rfl,(tL4 (Zg (Z2 (keeps _ [1,3] _) mo kr ⟨Kn.le.refl _,Za6.refl _ _⟩ (fun _ _=>?_))))⟩)))
 refine aT 0 rfl (ZO fun D B L hI=>ZW [_,_,_,_] rfl rfl Ze1 rfl (Zbw 3 (hI.2.2.1.trans rfl) rfl rfl) r4) (h:=aT 2 rfl (ZO fun D B L hI=>Zo rfl rfl Zvo rfl (atL 1 (hI.2.1.trans rfl) rfl rfl) r4) (h:=ZA 1 kr rfl kr (Zad rfl rfl Zzj rfl (ZmI _ _ y _ hy5) ?_)))
 rintro _ B5 _ hle5 ⟨rfl,ins5,a5,c5,rfl,rfl,hs5⟩
 refine ⟨⟨Kn.le.refl _,t2⟩,(aT 3 rfl (ZO fun D B L hI=>Zaq (parts:=[(0,_),(1,_)]) [_,_,_,_,_] [_,_,_,_,_] rfl rfl ZyJ Zye rfl rfl rfl r4) (h:=ZA 4 kr rfl kr (Zpy (l:=[_,_,_,_,_]) rfl rfl rfl rfl (fun b6=>?_))))⟩
 refine ⟨⟨Kn.le.refl _,t2⟩,(Zag 5 kr rfl kr kr kr (ZL [_] 1 [_] rfl rfl ZyE rfl rfl rfl rfl rfl rfl rfl rfl ?_))⟩
 refine ZK (⟨rfl,rfl,(l,Obj.loop lp) :: (ZN b2 [ptr ⟨b6,0,none⟩] 314 ++ (ZN b6 ([.int .i64 y.id,str y.fr,str y.text,.slice a5 y.left.length c5] ++ [.pointer p9]) 351 ++ (ins5 ++ cells))),ZN b4 [.int .i64 y.id,str y.fr,str y.text,.slice qy y.left.length cy] 145,?_,_,_,.refl _,?_⟩)
 refine (Zaf [0,1,5,4,2] _ _ _ rfl).trans ?_
 rw [hlp]
 simp [ZN]
 rw [Zry hy]
 exact ⟨_,_,_,_,_,rfl,.refl _,⟨_,_,rfl,hs5,oy,oy,oy⟩,hl⟩
 rintro _ B9 _ hle9 ⟨s9,rfl,v,cells,hp,hl⟩
 exact ⟨[ZN b2 [v] 314,cells],_,rfl,by simpa using hp,v,cells,rfl,by simpa using hl⟩
 obtain ⟨v,s9,rfl,hl⟩:=hJ
 refine ZK (Zp (Za (x1 Zvo 0 (h:=xA (h:=tL3 (Zd ?_))))))
 exact ⟨.inl rfl,r,2,rfl,rfl,[_],[_],t1,⟨_,List.perm_append_comm⟩,_,rfl,hl⟩

theorem Zp9 (nx:Int) (v:Value) (xs:List DItem) (cells:Cells) (B:Kn) (hn:xs.length≤2000000) (hv:Zg6 9 351 v xs cells):Zv (pj J) 226 [.int .i64 nx,v] B [cells] (fun v B' Ls=>B'=B∧∃l q c,Ls=[l]∧v = .agg #[.int .i64 nx,.slice q xs.length c]∧ZaF l q c 145 4 (ZaQ 9) xs):=by
 refine cB 27 Tryz.func226 (h:=?_)
 obtain ⟨p,rfl⟩:=hv.ptr
 refine Za (xAl [_,_] Zr4 (h:=fun b1=>tL2 (Za (xM (h:=xBs [] [] Tryz.underlying25 ZbC Zfs (h:=fun b2=>xB [(0,_),(1,_)] [_,_] [_,_] ZAX Zr4 (h:=xAl [_,_] Zr4 (h:=fun b3=>xS [_,_] 3 [_,_] Zu0 (h:=tL4 (Zc (Za (xM (h:=xA (h:=Zg (Zz (α:=QOf) [0,1,4,5] (fun g=>[(6,.pointer g.p)]) [0,2,3] (fun g=>[g.cells,g.l,ZN b3 [.int .i64 nx,.slice g.q g.ys.length g.c] 27]) (fun g Bx=>Bx=B∧g.ys ++ g.xs=xs∧ZaF g.l g.q g.c 145 4 (ZaQ 9) g.ys∧Zg6 9 351 (.pointer g.p) g.xs g.cells) (fun g=>g.xs.length) ⟨p,[],xs,_,_,_,_⟩ t1 rfl (⟨rfl,rfl,.lit0,hv⟩) (fun g B4 hle4 hI=>?_))))))))))))))))
 obtain ⟨rfl,hxs,hvd,hl⟩:=hI
 refine ZD [(0,_),(1,_),(4,_),(5,_),(6,_)] [_,_,_,_] t5 rfl (Zc (Za (xM (h:=Zl (Zui rfl rfl rfl rfl rfl (Zhy Tryz.underlying314) (Zb rfl (fun g1=>?_) (fun g1=>?_)))))))
 obtain ⟨y,ys,b8,q8,c8,np,ins8,rest8,hp8,hrest,hperm,hy5,hy6,hy7,hy8,hl8⟩:=hl.more (by simpa using g1)
 rw [hp8]
 have hlen:=congrArg List.length hxs
 rw [List.length_append,hrest,List.length_cons] at hlen
 replace hlen:g.ys.length+1≤2000000:=by omega
 refine ZeW 0 rfl hperm (tL6 (wSk (Zc (Zg (Z2 (keeps _ [0,3] _) mo kr ⟨Kn.le.refl _,Za6.refl _ _⟩ (fun _ _=>?_))))))
 refine aW 0 rfl ZbX (h:=aT 1 rfl (ZO fun D B L hI=>Zo rfl rfl Zi5 rfl (atL 3 (hI.2.2.1.trans rfl) rfl rfl) r4) (h:=aM 2 rfl (h:=aNc 3 rfl (h:=aW 4 rfl ZvH (h:=aT 5 rfl (ZO fun D B L hI=>ZW [_,_,_,_] rfl rfl Ze1 rfl (Zbw 0 (hI.2.1.trans rfl) rfl rfl) r4) (h:=ZA 6 kr rfl kr (ZJ (parts:=[(0,_)]) [_,_,_,_] rfl rfl Tryz.underlying25 ZbC Zfs rfl rfl rfl rfl rfl (fun b5=>?_))))))))
 refine ⟨⟨Kn.le.refl _,t2⟩,(ZA 7 kr rfl kr (ZwK (R:=ZaQ 9) (z:=y) 2 4 rfl rfl rfl hvd rfl rfl rfl Zy5 ZAS rfl rfl (Zc1.box 6 rfl) rfl rfl ⟨_,_,rfl,hy5,hy6,hy7,hy8⟩ oz (fun l9 q9 c9 hv9=>?_)))⟩
 refine ⟨⟨Kn.le.refl _,t2⟩,(aW 8 rfl ZbX (h:=Zag 9 kr rfl kr kr kr (ZL [_] 3 [_,_] rfl rfl ZyF rfl rfl rfl rfl rfl rfl rfl rfl ?_)))⟩
 refine ZK (Zp (Zf (xM (h:=xNc (h:=xW ZvG (h:=x1 Zvo 0 (h:=xA (h:=?_))))))))
 exact ZC ⟨np,g.ys ++ [y],ys,l9,q9,c9,rest8⟩ [5,1,2,3] (by rw [hrest];simp) ⟨rfl,by rw [← hxs,hrest];simp,hv9,hl8⟩ t5 rfl
 rw [hl.done (by simpa using g1),List.append_nil] at hxs
 subst hxs
 refine ZE (ZV (ZG (Zt (Zp (Za (xL [_,_] ZlS 3 (h:=xS [_,_] 1 [_,_] Zu0 (h:=tL4 (Zd ?_)))))))))
 exact eN [2] rfl ⟨⟨_,rfl,.inr ⟨[_,_],ZlS,Zbw 1 rfl rfl rfl,rfl⟩⟩,trivial⟩ ⟨rfl,_,_,_,rfl,rfl,hvd⟩

theorem ZkK (q:Option Addr) (cp:Nat) (x:DQueue) (B:Kn) (hx:SlK B q cp 4 Zy x.items):Zv (pj J) 166 [.agg #[.int .i64 x.next,.slice q x.items.length cp]] B [] (fun v B' Ls=>∃l q c,Ls=[l]∧v = .agg #[.int .i64 x.next,.slice q x.items.length c]∧ZaF l q c 145 4 (ZaQ 9) x.items):=by
 refine cB 8 Tryz.func166 (h:=?_)
 have hxn:=hx.len
 refine Za (xBx [_,_] (h:=fun b1=>xAl [_,_] Zr4 (h:=fun b2=>tL2 (Zc (Z2 (keeps _ [0] _) mo kr ⟨Kn.le.refl _,Za6.refl _ _⟩ (fun _ _=>?_))))))
 refine aW 0 rfl Zgs (h:=aT 1 rfl (ZO fun D B L hI=>Zo rfl rfl lk3 rfl (atL 0 (hI.2.1.trans rfl) rfl rfl) r4) (h:=aT 2 rfl (ZO fun D B L hI=>ZW [_,_] rfl rfl ZlS rfl (Zbw 0 (hI.2.1.trans rfl) rfl rfl) r4) (h:=ZA 3 kr rfl kr (Zad rfl rfl ZzF rfl (Zmi _ _ x _ hx) ?_))))
 rintro _ B3 _ hle3 ⟨sl3,rfl,hl3⟩
 refine ⟨⟨hle3,t1⟩,(ZA 4 kr rfl kr (ZcI [2] rfl rfl rfl rfl ZzG rfl (Zp9 _ _ _ _ _ oa hl3) ?_))⟩
 rintro _ B4 _ hle4 ⟨rfl,ld4,ad4,cd4,rfl,rfl,hd4⟩
 refine ⟨⟨hle3,t1⟩,(Zag 5 kr rfl kr kr kr (ZL [_,_] 1 [_,_] rfl rfl Zu0 rfl rfl rfl rfl rfl rfl rfl rfl ?_))⟩
 refine Zp (tL3 (Zd ?_))
 exact eN [2] rfl ⟨⟨_,rfl,.inr ⟨[_,_],ZlS,Zbw 1 rfl rfl rfl,rfl⟩⟩,trivial⟩ ⟨_,_,_,rfl,rfl,hd4⟩

theorem ZqL (q:Option Addr) (m cp:Nat) (B:Kn):Zac (pj J) 305 [.slice q m cp] B (.int .i64 m):=by
 refine cB 5 Tryz.func305 (h:=?_)
 refine Za (xA (h:=Za (xM (h:=xV Tryz.underlying279 (h:=xA (h:=Zd ?_))))))
 exact eR t1 ⟨rfl,rfl,rfl⟩

theorem Zgq (q:Option Addr) (cp:Nat) (xs:List Int) (i j:Nat) (a b:Int) (hi:xs[i]? = some a) (hj:xs[j]? = some b) (B:Kn) (hx:SlK B q cp 1 ZcH xs):Zac (pj J) 306 [.slice q xs.length cp,.int .i64 i,.int .i64 j] B (.bool (decide (a<b))):=by
 refine cB 16 Tryz.func306 (h:=?_)
 have hil:=ZbU hi
 have hjl:=ZbU hj
 refine Za (xA (h:=Zc (Z2 (same _ _) mo kr ⟨rfl,rfl⟩ (fun _ _=>?_))))
 refine aM 0 rfl (h:=aM 1 rfl (h:=?_))
 obtain ⟨z,hz⟩:=ZY (xs:=xs) (i:=i) om
 obtain ⟨bb2,oo2,rfl⟩:=hx.base hz
 obtain ⟨_,rfl,hc3⟩:=hx.elem hz
 refine aIx 2 rfl Tryz.underlying65 sz3 (h:=aT 3 rfl (Zae fun D=>Zo rfl rfl lk3 rfl (hc3 _ 0 _ rfl) r4) (h:=aM 4 rfl (h:=aM 5 rfl (h:=?_))))
 obtain ⟨w,hw⟩:=ZY (xs:=xs) (i:=j) om
 obtain ⟨_,rfl,hc5⟩:=hx.elem hw
 refine aIx 6 rfl Tryz.underlying65 sz3 (h:=?_)
 rw [hi] at hz
 cases hz
 rw [hj] at hw
 cases hw
 refine aT 7 rfl (Zae fun D=>Zo rfl rfl lk3 rfl (hc5 _ 0 _ rfl) r4) (h:=Zt8 8 rfl (h:=aA 9 rfl (h:=Zu kr kr ?_)))
 refine Zp (Zd ?_)
 exact eR t1 ⟨rfl,rfl,rfl⟩

theorem Ztq (b:Nat) (q:Option Addr) (cp:Nat) (xs:List Int) (l:Cells) (z:Int) (hn:xs.length≤2000000) (B:Kn) (hv:ZT B l q cp 3 1 ZcH xs):Zv (pj J) 308 [ptr ⟨b,0,none⟩,.iface 3 (.int .i64 z)] B [ZN b [.slice q xs.length cp] 279,l] (fun v B' Ls=>B'=B∧∃q' c' l',Ls=[ZN b [.slice q' (xs ++ [z]).length c'] 279,l']∧ZT B l' q' c' 3 1 ZcH (xs ++ [z])):=by
 refine cB 13 Tryz.func308 (h:=?_)
 refine Z2 (keeps _ [0] _) mo kr ⟨Kn.le.refl _,Za6.refl _ _⟩ (fun _ _=>?_)
 refine aM 0 rfl (h:=aM 1 rfl (h:=aNc 2 rfl (h:=aT 3 rfl (ZO fun D B L hI=>Zo rfl rfl Zfu rfl (atL 0 (hI.2.1.trans rfl) rfl rfl) r4) (h:=aM 4 rfl (h:=aT 5 rfl (ZO fun D B L hI=>Zkp rfl rfl Tryz.underlying3 rfl rfl r4) (h:=ZA 6 kr rfl kr (ZJ (parts:=[(0,_)]) [_] rfl rfl Tryz.underlying65 sz3 zo3 rfl rfl rfl rfl rfl (fun b1=>?_))))))))
 refine ⟨⟨Kn.le.refl _,t1⟩,(ZA 7 kr rfl kr (ZhK (z:=z) (R:=ZcH) 1 rfl hv rfl rfl rfl Zy4 ZyI rfl rfl (Zc1.box 2 rfl) rfl rfl (rfl) om (fun l2 p2 c2 hv2=>?_)))⟩
 refine ⟨⟨Kn.le.refl _,t1⟩,(aNc 8 rfl (h:=Zag 9 kr rfl kr kr kr (ZL [_] 0 [_] rfl rfl ZwV rfl rfl rfl rfl rfl rfl rfl rfl ?_)))⟩
 exact Zd2 .normal (.inr rfl) [] [0,1] rfl trivial ⟨rfl,_,_,_,rfl,hv2⟩

theorem Zvz (b:Nat) (q:Option Addr) (cp:Nat) (xs:List Int) (l:Cells) (z:Int) (hz:xs[xs.length - 1]? = some z) (hn:xs.length≤2000000) (B:Kn) (hv:ZT B l q cp 3 1 ZcH xs):Zv (pj J) 307 [ptr ⟨b,0,none⟩] B [ZN b [.slice q xs.length cp] 279,l] (fun v B' Ls=>B'=B∧v = .iface 3 (.int .i64 z)∧Ls=[ZN b [.slice q (xs.length - 1) cp] 279,l]∧ZT B l q cp 3 1 ZcH (xs.take (xs.length - 1))):=by
 refine cB 25 Tryz.func307 (h:=?_)
 have hl1:=ZbU hz
 have hcp:=hv.cap
 have hv9:=hv.take (k:=xs.length - 1) oz
 have hs0:=hv.slice0 (sz:=1)
 refine Za (xA (h:=Za (xM (h:=xNc (h:=x1 Zfu 0 (h:=xV Tryz.underlying279 (h:=Zl (Zjo (r:=((xs.length - 1:Nat):Int)) rfl rfl rfl rfl (by rw [show ((xs.length:Int) - 1)=((xs.length - 1:Nat):Int) from by omega];exact ZcB oz oz) ?_))))))))
 refine xA (h:=Za (xM (h:=xNc (h:=x1 Zfu 0 (h:=xM (h:=?_))))))
 obtain ⟨w,hw⟩:=ZY (xs:=xs) (i:=(xs.length - 1)) om
 obtain ⟨bb2,_,hp2,rfl,hw2,hc2⟩:=hv.row hw
 refine xIp hp2 Tryz.underlying65 sz3 (h:=?_)
 rw [hz] at hw
 cases hw
 refine Zl (Zo rfl rfl lk3 rfl (hc2 _ 1 rfl 0 _ rfl) (xA (h:=Za (xM (h:=xM (h:=xNc (h:=x1 Zfu 0 (h:=xM (h:=Zl (Zng rfl rfl Tryz.underlying65 sz3 rfl (a:=0) (b:=xs.length - 1) rfl ⟨_,_,rfl,rfl⟩ oz oz ?_))))))))))
 rw [hs0]
 refine xNc (h:=xS [_] 0 [_] ZwV (h:=tL2 (Za (xM (h:=Zl (Zeq rfl rfl Tryz.underlying3 rfl rfl (xA (h:=Zd ?_))))))))
 exact eN [0,1] rfl t1 ⟨rfl,rfl,rfl,hv9⟩

theorem Zgp (q:Option Addr) (cp:Nat) (xs:List Int) (l:Cells) (i j:Nat) (a b:Int) (hi:xs[i]? = some a) (hj:xs[j]? = some b) (hn:xs.length≤2000000) (B:Kn) (hv:ZT B l q cp 3 1 ZcH xs):Zv (pj J) 309 [.slice q xs.length cp,.int .i64 i,.int .i64 j] B [l] (fun v B' Ls=>B'=B∧∃l',Ls=[l']∧ZT B l' q cp 3 1 ZcH ((xs.set i b).set j a)):=by
 refine cB 20 Tryz.func309 (h:=?_)
 have hil:=ZbU hi
 have hjl:=ZbU hj
 refine Z2 (keeps _ [0] _) mo kr ⟨Kn.le.refl _,Za6.refl _ _⟩ (fun _ _=>?_)
 refine aM 0 rfl (h:=aM 1 rfl (h:=aM 2 rfl (h:=aM 3 rfl (h:=aM 4 rfl (h:=aM 5 rfl (h:=?_))))))
 obtain ⟨y,hy⟩:=ZY (xs:=xs) (i:=j) om
 obtain ⟨bb2,_,hp2,rfl,hw2,hc2⟩:=hv.row hy
 refine aT 6 rfl (ZO fun D B L hI=>ZiD hp2 rfl rfl Tryz.underlying65 sz3 rfl rfl om om r4) (h:=?_)
 refine aT 7 rfl (ZO fun D B L hI=>Zo rfl rfl lk3 rfl (hc2 _ 0 (hI.2.1.trans rfl) 0 _ rfl) r4) (h:=aM 8 rfl (h:=aM 9 rfl (h:=?_)))
 obtain ⟨x,hx⟩:=ZY (xs:=xs) (i:=i) om
 obtain ⟨bb4,_,hp4,rfl,hw4,hc4⟩:=hv.row hx
 refine aT 10 rfl (ZO fun D B L hI=>ZiD hp4 rfl rfl Tryz.underlying65 sz3 rfl rfl om om r4) (h:=?_)
 refine aT 11 rfl (ZO fun D B L hI=>Zo rfl rfl lk3 rfl (hc4 _ 0 (hI.2.1.trans rfl) 0 _ rfl) r4) (h:=?_)
 obtain ⟨bb5,_,hp5,rfl,hw5,hc5⟩:=hv.row hx
 refine aT 12 rfl (ZO fun D B L hI=>ZiD hp5 rfl rfl Tryz.underlying65 sz3 rfl rfl om om r4) (h:=?_)
 refine Zbs 13 kr rfl kr kr (Zgb (k:=i) (off:=0) (y) [_] 0 hv hp5 hx rfl rfl sz3 rfl rfl rfl rfl rfl rfl ((fun row h=>by cases h;rfl)) (fun l6 hv6=>?_))
 obtain ⟨w,hw⟩:=ZY (xs:=(xs.set i (y))) (i:=j) om
 obtain ⟨bb8,_,hp8,rfl,hw8,hc8⟩:=hv6.row hw
 refine aT 14 rfl (ZO fun D B L hI=>ZiD hp8 rfl rfl Tryz.underlying65 sz3 rfl rfl om om r4) (h:=?_)
 refine Zag 15 kr rfl kr kr kr (Zgb (k:=j) (off:=0) (x) [_] 0 hv6 hp8 hw rfl rfl sz3 rfl rfl rfl rfl rfl rfl ((fun row h=>by cases h;rfl)) (fun l9 hv9=>?_))
 rw [hi] at hx
 cases hx
 rw [hj] at hy
 cases hy
 exact Zd2 .normal (.inr rfl) [] [0] rfl trivial ⟨rfl,_,rfl,hv9⟩

theorem Ztu (b:Nat) (q:Option Addr) (cp:Nat) (xs:List Int) (l:Cells) (j:Nat) (hj:j<xs.length) (hn:xs.length≤2000000) (hh:Zf7 xs j) (B:Kn) (hv:ZT B l q cp 3 1 ZcH xs):Zv (pj J) 255 [.iface 278 (ptr ⟨b,0,none⟩),.int .i64 j] B [ZN b [.slice q xs.length cp] 279,l] (fun v B' Ls=>B'=B∧∃ys l',Ls=[ZN b [.slice q ys.length cp] 279,l']∧ZT B l' q cp 3 1 ZcH ys∧ys.Perm xs∧ZdO ys):=by
 refine cB 23 Tryz.func255 (h:=?_)
 refine Zg (Zz (α:=Nat × List Int × Cells) [0] (fun g=>[(1,.int .i64 g.1)]) [0,1] (fun g=>[ZN b [.slice q g.2.1.length cp] 279,g.2.2]) (fun g Bx=>Bx=B∧g.1<g.2.1.length∧g.2.1.Perm xs∧Zf7 g.2.1 g.1∧ZT B g.2.2 q cp 3 1 ZcH g.2.1) (fun g=>g.1) (j,xs,l) t1 rfl (⟨rfl,hj,.refl _,hh,hv⟩) (fun g B1 hle1 hI=>?_))
 obtain ⟨rfl,hk,hp,hb,hv⟩:=hI
 have hpl:=hp.length_eq
 refine ZD [(0,_),(1,_)] [_,_] t2 rfl (Zg (Za (xM (h:=Zl (Zjo rfl rfl rfl rfl (ZcB oz oz) ?_)))))
 refine Zl (Zpn (r:=(((g.1 - 1) / 2:Nat):Int)) rfl rfl rfl rfl oz (by rw [show Int.tdiv ((g.1:Int) - 1) 2=(((g.1 - 1) / 2:Nat):Int) from Zyx g.1];exact ZcB oz oz) ?_)
 refine xA (h:=Zc (Za (xM (h:=xM (h:=Zf8 (h:=xM (h:=Zx (d:=11) rfl (fun g1=>?_) (fun g1=>?_))))))))
 try simp only [sQ,ne_eq] at g1
 refine xP (h:=xP (h:=xP (h:=xP (h:=xP (h:=xT (h:=Zb (t:=true) rfl (fun _=>ZE (ZV (Zfm rfl (ZG (Zt ?_))))) (fun h=>Bool.noConfusion h)))))))
 exact Zd2 .normal (.inr rfl) [] [0,1] rfl trivial ⟨rfl,_,_,rfl,hv,hp,ZuT (by rw [show g.1=0 from by omega] at hb;exact hb)⟩
 try simp only [sQ,ne_eq] at g1
 refine xM (h:=xM (h:=xM (h:=Zl (ZfL 1 rfl rfl rfl Zrw rfl rfl (Zbl Zed Tryz.underlying278 Zfu (atL 0 rfl rfl rfl)) (Zac.borrow fun hm2=>Zgq _ _ _ _ _ _ _ (ZaW oz) (ZaW oz) _ (hv.lend ZcH.mono hm2 om)) ?_))))
 refine xN (h:=xF (h:=Zb rfl (fun g2=>?_) (fun g2=>?_)))
 try simp only [sQ,ne_eq] at g2
 refine ZE (ZV (Zfm rfl (ZG (Zt ?_))))
 exact Zd2 .normal (.inr rfl) [] [0,1] rfl trivial ⟨rfl,_,_,rfl,hv,hp,ZuV hb (by simpa using g2)⟩
 try simp only [sQ,ne_eq] at g2
 refine wSk (Za (xM (h:=xM (h:=xM (h:=Zl (Zhd [1] rfl rfl rfl rfl Zrv rfl rfl (Zbl Zec Tryz.underlying278 Zfu (atL 0 rfl rfl rfl)) (Zgp _ _ _ _ _ _ _ _ (ZaW oz) (ZaW oz) oz _ hv) ?_))))))
 rintro _ B3 _ hle3 ⟨rfl,l3,rfl,hv3⟩
 refine tL2 (Zf (xM (h:=xA (h:=ZK ?_))))
 rw [← Zds g.2.1 ((g.1 - 1) / 2) g.1]
 exact ZC ((g.1 - 1) / 2,(swp g.2.1 ((g.1 - 1) / 2) g.1),l3) [0,1] (so) ⟨rfl,by have:=Zds g.2.1 ((g.1 - 1) / 2) g.1;simp only [];omega,(Zgh oz oz).trans hp,ZuU oz oz hb (by simpa using g2),hv3⟩ t2 rfl

theorem ZoO (b:Nat) (q:Option Addr) (cp:Nat) (xs:List Int) (l:Cells) (z:Int) (hn:xs.length<2000000) (hh:ZdO xs) (B:Kn) (hv:ZT B l q cp 3 1 ZcH xs):Zv (pj J) 200 [.iface 278 (ptr ⟨b,0,none⟩),.iface 3 (.int .i64 z)] B [ZN b [.slice q xs.length cp] 279,l] (fun v B' Ls=>B'=B∧∃q' c' ys l',Ls=[ZN b [.slice q' ys.length c'] 279,l']∧ZT B l' q' c' 3 1 ZcH ys∧ys.Perm (xs ++ [z])∧ZdO ys):=by
 refine cB 12 Tryz.func200 (h:=?_)
 refine Za (xM (h:=xM (h:=Zl (Zhd [0,1] rfl rfl rfl rfl Zzc rfl rfl (Zlp Zoy Tryz.underlying278) (Ztq _ _ _ _ _ _ oz _ hv) ?_))))
 rintro _ B1 _ hle1 ⟨rfl,q1,c1,l1,rfl,hv1⟩
 refine tL2 (Zf (xM (h:=xM (h:=Zl (ZfL 1 rfl rfl rfl ZxF rfl rfl (Zbl ZkV Tryz.underlying278 Zfu (atL 0 rfl rfl rfl)) (Zac.borrow fun hm2=>ZqL _ _ _ _) (Zl (Zjo (r:=((xs.length:Nat):Int)) rfl rfl rfl rfl ((congrArg _ (show _=((xs.length:Nat):Int) from by rw [List.length_append,List.length_singleton];omega)).trans (ZcB oz oz)) ?_)))))))
 refine xK [0,1] rfl Zzo rfl (Ztu _ _ _ _ _ _ (by simp) (by simp;omega) (ZsN hh) _ hv1) (h:=?_)
 rintro _ Bu _ hleu ⟨rfl,ysu,lu,rfl,hvu,hpu,hhu⟩
 exact Zd2 .normal (.inr rfl) [] [0,1] rfl trivial ⟨rfl,_,_,_,_,rfl,hvu,hpu,hhu⟩

theorem ZoQ (b:Nat) (q:Option Addr) (cp:Nat) (xs:List Int) (l:Cells) (m:Nat) (hm:m≤xs.length) (hm0:0<xs.length) (hn:xs.length≤2000000) (hh:Zfg xs m 0) (B:Kn) (hv:ZT B l q cp 3 1 ZcH xs):Zv (pj J) 256 [.iface 278 (ptr ⟨b,0,none⟩),.int .i64 0,.int .i64 m] B [ZN b [.slice q xs.length cp] 279,l] (fun v B' Ls=>B'=B∧∃ys l',Ls=[ZN b [.slice q ys.length cp] 279,l']∧ZT B l' q cp 3 1 ZcH ys∧ys.Perm xs∧Zub ys m∧(∀k,m≤k→hat ys k=hat xs k)):=by
 refine cB 48 Tryz.func256 (h:=?_)
 refine Za (xA (h:=Za (xM (h:=xA (h:=Zc (Zg (Zz (α:=Nat × List Int × Cells) [0,1,2,6] (fun g=>[(7,.int .i64 g.1)]) [0,1] (fun g=>[ZN b [.slice q g.2.1.length cp] 279,g.2.2]) (fun g Bx=>Bx=B∧g.1<g.2.1.length∧g.2.1.Perm xs∧Zfg g.2.1 m g.1∧(∀k,m≤k→hat g.2.1 k=hat xs k)∧ZT B g.2.2 q cp 3 1 ZcH g.2.1) (fun g=>xs.length - g.1) (0,xs,l) t1 rfl (⟨rfl,hm0,.refl _,hh,fun _ _=>rfl,hv⟩) (fun g B1 hle1 hI=>?_))))))))
 obtain ⟨rfl,hk,hp,hb,hs,hv⟩:=hI
 have hpl:=hp.length_eq
 refine ZD [(0,_),(1,_),(2,_),(6,_),(7,_)] [_,_] t5 rfl (Zg (Za (xM (h:=Zl (Zys (r:=((2*g.1:Nat):Int)) rfl rfl rfl rfl ((congrArg _ (show _=((2*g.1:Nat):Int) from by omega)).trans (ZcB oz oz)) ?_)))))
 refine Zl (ZgB (r:=((2*g.1+1:Nat):Int)) rfl rfl rfl rfl ((congrArg _ (show _=((2*g.1+1:Nat):Int) from by omega)).trans (ZcB oz oz)) ?_)
 refine xA (h:=Zc (Za (xM (h:=xM (h:=Zep (h:=xM (h:=Zx (d:=18) rfl (fun g1=>?_) (fun g1=>?_))))))))
 try simp only [sQ,ne_eq] at g1
 refine xP (h:=xP (h:=xT (h:=Zb (t:=true) rfl (fun _=>ZE (ZV (Zfm rfl (ZG (Zt (Zp (Za (xM (h:=xM (h:=ZdP (h:=xA (h:=Zd ?_)))))))))))) (fun h=>Bool.noConfusion h))))
 exact eN [0,1] rfl t1 ⟨rfl,_,_,rfl,hv,hp,ZrA hb oz,hs⟩
 try simp only [sQ,ne_eq] at g1
 refine xM (h:=ZF (h:=xF (h:=Zb rfl (fun g2=>by have:=of_decide_eq_true g2;omega) (fun g2=>?_))))
 try simp only [sQ,ne_eq] at g2
 refine wSk (Za (xM (h:=xA (h:=Zc (Za (xM (h:=Zl (ZgB (r:=((2*g.1+1+1:Nat):Int)) rfl rfl rfl rfl ((congrArg _ (show _=((2*g.1+1+1:Nat):Int) from by omega)).trans (ZcB oz oz)) ?_))))))))
 refine xA (h:=Za (xM (h:=xM (h:=ZF (h:=xM (h:=Zx (d:=28) rfl (fun g3=>?_) (fun g3=>?_)))))))
 try simp only [sQ,ne_eq] at g3
 refine xM (h:=xM (h:=xM (h:=Zl (ZfL 1 rfl rfl rfl Zrw rfl rfl (Zbl Zed Tryz.underlying278 Zfu (atL 0 rfl rfl rfl)) (Zac.borrow fun hm2=>Zgq _ _ _ _ _ _ _ (ZaW oz) (ZaW oz) _ (hv.lend ZcH.mono hm2 om)) ?_))))
 refine xT (h:=Zb rfl (fun g4=>?_) (fun g4=>?_))
 try simp only [sQ,ne_eq] at g4
 refine Zf (xM (h:=xA (h:=Zp (Zc (Za (xM (h:=xM (h:=xM (h:=Zl (ZfL 1 rfl rfl rfl Zrw rfl rfl (Zbl Zed Tryz.underlying278 Zfu (atL 0 rfl rfl rfl)) (Zac.borrow fun hm3=>Zgq _ _ _ _ _ _ _ (ZaW oz) (ZaW oz) _ (hv.lend ZcH.mono hm3 om)) ?_))))))))))
 refine xN (h:=Zb rfl (fun g5=>?_) (fun g5=>?_))
 try simp only [sQ,ne_eq] at g5
 refine ZE (ZV (Zfm rfl (ZG (Zt (Zp (Za (xM (h:=xM (h:=ZdP (h:=xA (h:=Zd ?_)))))))))))
 exact eN [0,1] rfl t1 ⟨rfl,_,_,rfl,hv,hp,Zim hb (by intro k h0 hk he;(try simp only [decide_eq_true_eq,decide_eq_false_iff_not,Bool.not_eq_true',Bool.not_eq_false',Int.not_lt] at *);rcases (show k=2*g.1+1∨k=2*g.1+1+1 from by omega) with rfl | rfl <;> omega),hs⟩
 try simp only [sQ,ne_eq] at g5
 refine wSk (Za (xM (h:=xM (h:=xM (h:=Zl (Zhd [1] rfl rfl rfl rfl Zrv rfl rfl (Zbl Zec Tryz.underlying278 Zfu (atL 0 rfl rfl rfl)) (Zgp _ _ _ _ _ _ _ _ (ZaW oz) (ZaW oz) oz _ hv) ?_))))))
 rintro _ B4 _ hle4 ⟨rfl,l4,rfl,hv4⟩
 refine tL2 (Zf (xM (h:=xA (h:=ZK ?_))))
 rw [← Zds g.2.1 g.1 (2*g.1+1+1)]
 have h5:hat g.2.1 (2*g.1+1+1)<hat g.2.1 g.1:=by simpa using g5
 exact ZC (2*g.1+1+1,(swp g.2.1 g.1 (2*g.1+1+1)),l4) [0,1] (so) ⟨rfl,by have:=Zds g.2.1 g.1 (2*g.1+1+1);simp only [];omega,(Zgh oz oz).trans hp,Zil oz oz oz oz hb (by intro k h0 hk he;(try simp only [decide_eq_true_eq,decide_eq_false_iff_not,Bool.not_eq_true',Bool.not_eq_false',Int.not_lt] at *);rcases (show k=2*g.1+1∨k=2*g.1+1+1 from by omega) with rfl | rfl <;> omega) h5,(fun k hk=>by rw [Ze9 oz oz,if_neg oz,if_neg oz];exact hs k hk),hv4⟩ t5 rfl
 try simp only [sQ,ne_eq] at g4
 refine wSk (Zc (Za (xM (h:=xM (h:=xM (h:=Zl (ZfL 1 rfl rfl rfl Zrw rfl rfl (Zbl Zed Tryz.underlying278 Zfu (atL 0 rfl rfl rfl)) (Zac.borrow fun hm5=>Zgq _ _ _ _ _ _ _ (ZaW oz) (ZaW oz) _ (hv.lend ZcH.mono hm5 om)) ?_)))))))
 refine xN (h:=Zb rfl (fun g5=>?_) (fun g5=>?_))
 try simp only [sQ,ne_eq] at g5
 refine ZE (ZV (Zfm rfl (ZG (Zt (Zp (Za (xM (h:=xM (h:=ZdP (h:=xA (h:=Zd ?_)))))))))))
 exact eN [0,1] rfl t1 ⟨rfl,_,_,rfl,hv,hp,Zim hb (by intro k h0 hk he;(try simp only [decide_eq_true_eq,decide_eq_false_iff_not,Bool.not_eq_true',Bool.not_eq_false',Int.not_lt] at *);rcases (show k=2*g.1+1∨k=2*g.1+1+1 from by omega) with rfl | rfl <;> omega),hs⟩
 try simp only [sQ,ne_eq] at g5
 refine wSk (Za (xM (h:=xM (h:=xM (h:=Zl (Zhd [1] rfl rfl rfl rfl Zrv rfl rfl (Zbl Zec Tryz.underlying278 Zfu (atL 0 rfl rfl rfl)) (Zgp _ _ _ _ _ _ _ _ (ZaW oz) (ZaW oz) oz _ hv) ?_))))))
 rintro _ B6 _ hle6 ⟨rfl,l6,rfl,hv6⟩
 refine tL2 (Zf (xM (h:=xA (h:=ZK ?_))))
 rw [← Zds g.2.1 g.1 (2*g.1+1)]
 have h5:hat g.2.1 (2*g.1+1)<hat g.2.1 g.1:=by simpa using g5
 exact ZC (2*g.1+1,(swp g.2.1 g.1 (2*g.1+1)),l6) [0,1] (so) ⟨rfl,by have:=Zds g.2.1 g.1 (2*g.1+1);simp only [];omega,(Zgh oz oz).trans hp,Zil oz oz oz oz hb (by intro k h0 hk he;(try simp only [decide_eq_true_eq,decide_eq_false_iff_not,Bool.not_eq_true',Bool.not_eq_false',Int.not_lt] at *);rcases (show k=2*g.1+1∨k=2*g.1+1+1 from by omega) with rfl | rfl <;> omega) h5,(fun k hk=>by rw [Ze9 oz oz,if_neg oz,if_neg oz];exact hs k hk),hv6⟩ t5 rfl
 try simp only [sQ,ne_eq] at g3
 refine xP (h:=xP (h:=xP (h:=xP (h:=xF (h:=Zb (t:=false) rfl (fun h=>Bool.noConfusion h) (fun _=>wSk (Zc (Za (xM (h:=xM (h:=xM (h:=Zl (ZfL 1 rfl rfl rfl Zrw rfl rfl (Zbl Zed Tryz.underlying278 Zfu (atL 0 rfl rfl rfl)) (Zac.borrow fun hm7=>Zgq _ _ _ _ _ _ _ (ZaW oz) (ZaW oz) _ (hv.lend ZcH.mono hm7 om)) ?_)))))))))))))
 refine xN (h:=Zb rfl (fun g5=>?_) (fun g5=>?_))
 try simp only [sQ,ne_eq] at g5
 refine ZE (ZV (Zfm rfl (ZG (Zt (Zp (Za (xM (h:=xM (h:=ZdP (h:=xA (h:=Zd ?_)))))))))))
 exact eN [0,1] rfl t1 ⟨rfl,_,_,rfl,hv,hp,Zim hb (by intro k h0 hk he;(try simp only [decide_eq_true_eq,decide_eq_false_iff_not,Bool.not_eq_true',Bool.not_eq_false',Int.not_lt] at *);rcases (show k=2*g.1+1∨k=2*g.1+1+1 from by omega) with rfl | rfl <;> omega),hs⟩
 try simp only [sQ,ne_eq] at g5
 refine wSk (Za (xM (h:=xM (h:=xM (h:=Zl (Zhd [1] rfl rfl rfl rfl Zrv rfl rfl (Zbl Zec Tryz.underlying278 Zfu (atL 0 rfl rfl rfl)) (Zgp _ _ _ _ _ _ _ _ (ZaW oz) (ZaW oz) oz _ hv) ?_))))))
 rintro _ B8 _ hle8 ⟨rfl,l8,rfl,hv8⟩
 refine tL2 (Zf (xM (h:=xA (h:=ZK ?_))))
 rw [← Zds g.2.1 g.1 (2*g.1+1)]
 have h5:hat g.2.1 (2*g.1+1)<hat g.2.1 g.1:=by simpa using g5
 exact ZC (2*g.1+1,(swp g.2.1 g.1 (2*g.1+1)),l8) [0,1] (so) ⟨rfl,by have:=Zds g.2.1 g.1 (2*g.1+1);simp only [];omega,(Zgh oz oz).trans hp,Zil oz oz oz oz hb (by intro k h0 hk he;(try simp only [decide_eq_true_eq,decide_eq_false_iff_not,Bool.not_eq_true',Bool.not_eq_false',Int.not_lt] at *);rcases (show k=2*g.1+1∨k=2*g.1+1+1 from by omega) with rfl | rfl <;> omega) h5,(fun k hk=>by rw [Ze9 oz oz,if_neg oz,if_neg oz];exact hs k hk),hv8⟩ t5 rfl

theorem ZqN (b:Nat) (q:Option Addr) (cp:Nat) (xs:List Int) (l:Cells) (hm0:0<xs.length) (hn:xs.length≤2000000) (hh:ZdO xs) (B:Kn) (hv:ZT B l q cp 3 1 ZcH xs):Zv (pj J) 201 [.iface 278 (ptr ⟨b,0,none⟩)] B [ZN b [.slice q xs.length cp] 279,l] (fun v B' Ls=>B'=B∧v = .iface 3 (.int .i64 (hat xs 0))∧∃ys l',Ls=[ZN b [.slice q ys.length cp] 279,l']∧ZT B l' q cp 3 1 ZcH ys∧(hat xs 0 :: ys).Perm xs∧ZdO ys):=by
 refine cB 15 Tryz.func201 (h:=?_)
 refine Za (xA (h:=Za (xM (h:=Zl (ZfL 1 rfl rfl rfl ZxF rfl rfl (Zbl ZkV Tryz.underlying278 Zfu (atL 0 rfl rfl rfl)) (Zac.borrow fun hm1=>ZqL _ _ _ _) (Zl (Zjo (r:=((xs.length - 1:Nat):Int)) rfl rfl rfl rfl ((congrArg _ (show _=((xs.length - 1:Nat):Int) from by omega)).trans (ZcB oz oz)) ?_)))))))
 refine xA (h:=Za (xM (h:=xM (h:=Zl (Zhd [1] rfl rfl rfl rfl Zrv rfl rfl (Zbl Zec Tryz.underlying278 Zfu (atL 0 rfl rfl rfl)) (Zgp _ _ _ _ _ _ _ _ (ZaW oz) (ZaW oz) oz _ hv) ?_)))))
 rintro _ Bs _ hles ⟨rfl,ls,rfl,hvs⟩
 refine tL2 ?_
 obtain ⟨zs,hzs,hzl⟩ :∃zs,zs=swp xs 0 (xs.length - 1)∧zs.length=xs.length:=⟨_,rfl,Zds _ _ _⟩
 have hzz:=hvs
 change ZT _ _ _ _ _ _ _ (swp xs 0 (xs.length - 1)) at hzz
 rw [← hzs] at hzz
 have hdb:Zfg zs (zs.length - 1) 0:=by rw [hzl,hzs];exact Zu9 hh hm0
 have hlz:hat zs (zs.length - 1)=hat xs 0:=by rw [hzl,hzs];exact ZsE hm0
 have hpz:zs.Perm xs:=hzs ▸ Zgh hm0 oz
 rw [← hzl]
 refine Za (xM (h:=xM (h:=xK [0,1] rfl Zzn rfl (ZoQ _ _ _ _ _ _ oz oz oz hdb _ hzz) (h:=?_))))
 rintro _ Bd _ hled ⟨rfl,ysd,ld,rfl,hvd,hpd,hhd,hsd⟩
 refine tL2 ?_
 have hdl:=hpd.length_eq
 refine Za (xM (h:=Zl (Zhd [0,1] rfl rfl rfl rfl Zzd rfl rfl (Zlp Zqp Tryz.underlying278) (Zvz _ _ _ _ _ _ (ZaW oz) oz _ hvd) ?_)))
 rintro _ Bo _ hleo ⟨rfl,rfl,rfl,hvo⟩
 refine xA (h:=tL2 (Zd ?_))
 have hz9:hat ysd (ysd.length - 1)=hat xs 0:=by rw [hsd _ oz,hdl];exact hlz
 exact Zd2 .ret (.inl rfl) [_] [0,1] rfl ⟨rfl,trivial⟩ ⟨rfl,by rw [hz9];rfl,_,_,by rw [show (ysd.take (ysd.length - 1)).length=ysd.length - 1 from by simp],hvo,ZsQ (by omega) (hpd.trans hpz) hz9,ZoP (by rw [hdl];exact hhd) (by omega)⟩

theorem ZmK (q:Option Addr) (cp:Nat) (xs:List DItem) (last:Int) (B:Kn) (ha:SlK B q cp 4 Zy xs):Zac (pj J) 143 [.slice q xs.length cp,.int .i64 last] B (.bool (asc 0 last (xs.map (·.id)))):=by
 refine cB 53 Tryz.func143 (h:=?_)
 have hxn:=ha.len
 refine Za (xA (h:=Za (xBs [] [] Tryz.underlying65 sz3 zo3 (h:=fun b1=>xBx [_] (h:=fun b2=>xA (h:=tL2 (Zc (Za (xM (h:=xV Tryz.underlying25 (h:=xM (h:=Zg (Zz (α:=Gh Int) [0,1,4,5,14,15] (fun g=>[(16,.int .i64 g.k)]) [0,1] (fun g=>[g.l,ZN b2 [.slice g.a g.xs.length g.c] 279]) (fun g Bx=>Bx=B∧g.k≤xs.length∧g.xs.Perm ((xs.take g.k).map (·.id))∧ZdO g.xs∧ZT Bx g.l g.a g.c 3 1 ZcH g.xs) (fun g=>xs.length - g.k) ⟨0,0,_,_,_,[]⟩ t1 rfl (⟨rfl,Nat.zero_le _,.refl _,Zts,.lit0⟩) (fun g B3 hle3 hI=>?_))))))))))))))
 obtain ⟨rfl,hk,hp,hh,hv⟩:=hI
 have hpl:=hp.length_eq
 rw [List.length_map,List.length_take] at hpl
 refine ZD [(0,_),(1,_),(4,_),(5,_),(14,_),(15,_),(16,_)] [_,_] t7 rfl (Za (ZF (h:=Zc (Zb rfl (fun g1=>?_) (fun g1=>?_)))))
 try simp only [sQ,ne_eq] at g1
 refine wSk (Zc (Zg (Za ?_)))
 obtain ⟨x,hx⟩:=ZY (xs:=xs) (i:=g.k) om
 obtain ⟨bb5,oo5,rfl⟩:=ha.base hx
 obtain ⟨_,⟨qi6,ci6,rfl,hi6,hb6,hb6b⟩,hc6⟩:=ha.elem hx
 have hi6n:=hi6.len
 refine xIx Tryz.underlying25 ZbC (h:=yL [_,_,_,_] Ze1 hc6 0 (h:=xAl [_,_,_,_] Zfs (h:=fun b7=>xS [_,_,_,_] 2 [_,_,_,_] ZbC (h:=tL3 (Zf (xM (h:=Zl (Zeq rfl rfl Tryz.underlying278 rfl rfl (xW ZeF (h:=x1 lk3 2 (h:=Zl (Zeq rfl rfl Tryz.underlying3 rfl rfl (xK [1,0] rfl ZzM rfl (ZoO _ _ _ _ _ _ oz hh _ hv) (h:=?_))))))))))))))
 rintro _ Bp _ hlep ⟨rfl,qp,cp,ysp,lp,rfl,hvp,hpp,hhp⟩
 refine ZK (Zp (Zf (xD (h:=xM (h:=?_)))))
 exact ZC ⟨g.k+1,0,lp,_,_,ysp⟩ [0,1] so2 ⟨rfl,so,by simp only [];rw [Zbj hx,List.map_append];exact hpp.trans (hp.append_right _),hhp,hvp⟩ t7 rfl
 try simp only [sQ,ne_eq] at g1
 have hxe:xs.take g.k=xs:=List.take_of_length_le oz
 rw [hxe] at hp
 refine ZE (ZV (ZG (Zt (Zp (Za (xA (h:=Zc (Za (xM (h:=xV Tryz.underlying25 (h:=xM (h:=Zg (Zz (α:=Gh2 Int Int) [0,1,5,14,15,16,17,27,28] (fun h=>[(8,.int .i64 h.e),(29,.int .i64 h.k)]) [0,1] (fun h=>[h.l,ZN b2 [.slice h.a h.xs.length h.c] 279]) (fun h Bx=>Bx=B3∧h.k≤xs.length∧h.xs.Perm ((xs.drop h.k).map (·.id))∧ZdO h.xs∧asc 0 last (xs.map (·.id))=asc h.e last ((xs.drop h.k).map (·.id))∧ZT Bx h.l h.a h.c 3 1 ZcH h.xs) (fun h=>xs.length - h.k) ⟨0,0,g.l,g.a,g.c,g.xs,0⟩ t2 rfl (⟨rfl,Nat.zero_le _,hp,hh,rfl,hv⟩) (fun h B9 hle9 hI=>?_))))))))))))))
 clear hv hp hpl hh
 obtain ⟨rfl,hk,hp,hh,hs,hv⟩:=hI
 have hpl:=hp.length_eq
 rw [List.length_map,List.length_drop] at hpl
 refine ZD [(0,_),(1,_),(5,_),(8,_),(14,_),(15,_),(16,_),(17,_),(27,_),(28,_),(29,_)] [_,_] t11 rfl (Za (ZF (h:=Zc (Zb rfl (fun g2=>?_) (fun g2=>?_)))))
 try simp only [sQ,ne_eq] at g2
 refine wSk (Zc (Zg (Za ?_)))
 obtain ⟨x,hx⟩:=ZY (xs:=xs) (i:=h.k) om
 obtain ⟨bb11,oo11,rfl⟩:=ha.base hx
 obtain ⟨_,⟨qi12,ci12,rfl,hi12,hb12,hb12b⟩,hc12⟩:=ha.elem hx
 have hi12n:=hi12.len
 refine xIx Tryz.underlying25 ZbC (h:=?_)
 rw [Zj4 hx,List.map_cons] at hp hs
 refine yL [_,_,_,_] Ze1 hc12 0 (h:=xAl [_,_,_,_] Zfs (h:=fun b13=>xS [_,_,_,_] 2 [_,_,_,_] ZbC (h:=tL3 (Za (xM (h:=Zl (Zeq rfl rfl Tryz.underlying278 rfl rfl (xK [1,0] rfl ZzL rfl (ZqN _ _ _ _ _ oz oz hh _ hv) (h:=?_)))))))))
 rintro _ Bo _ hleo ⟨rfl,rfl,yso,lo,rfl,hvo,hpo,hho⟩
 refine Zl (Zkp rfl rfl Tryz.underlying3 rfl rfl (xA (h:=tL3 (Zc (Za (xM (h:=xW ZeF (h:=x1 lk3 2 (h:=ZaH (h:=xM (h:=Zx (d:=41) rfl (fun g3=>?_) (fun g3=>?_))))))))))))
 try simp only [sQ,ne_eq] at g3
 refine xP (h:=xP (h:=xP (h:=xT (h:=xM (h:=xP (h:=xP (h:=xP (h:=xT (h:=Zb (t:=true) rfl (fun _=>Za (xA (h:=Zd (Zm (ZB (Zm (ZM (ZB (Zm ?_))))))))) (fun h=>Bool.noConfusion h))))))))))
 exact eR t1 ⟨Ze (by rw [hs];exact Zt1 hp hh (by simpa using g3)),rfl,rfl⟩
 try simp only [sQ,ne_eq] at g3
 refine xM (h:=xM (h:=Zb4 (h:=xF (h:=xM (h:=Zx (d:=46) rfl (fun g4=>?_) (fun g4=>?_))))))
 try simp only [sQ,ne_eq] at g4
 refine xP (h:=xP (h:=xP (h:=xT (h:=Zb (t:=true) rfl (fun _=>Za (xA (h:=Zd (Zm (ZB (Zm (ZM (ZB (Zm ?_))))))))) (fun h=>Bool.noConfusion h)))))
 exact eR t1 ⟨Ze (by rw [hs];exact Zt0 (by rw [← g3];simpa using g4)),rfl,rfl⟩
 try simp only [sQ,ne_eq] at g4
 refine xM (h:=xM (h:=ZdP (h:=xF (h:=Zb rfl (fun g5=>?_) (fun g5=>?_)))))
 try simp only [sQ,ne_eq] at g5
 refine Za (xA (h:=Zd (Zm (ZB (Zm (ZM (ZB (Zm ?_))))))))
 exact eR t1 ⟨Ze (by rw [hs];exact ZtZ (by rw [← g3];simpa using g5)),rfl,rfl⟩
 try simp only [sQ,ne_eq] at g5
 refine wSk (Zf (xM (h:=xA (h:=ZK (Zp (Zf (xD (h:=xM (h:=?_)))))))))
 exact ZC ⟨h.k+1,0,lo,_,_,yso,hat h.xs 0⟩ [0,1] so2 ⟨rfl,so,List.Perm.cons_inv ((show (x.id :: yso).Perm (hat h.xs 0 :: yso) from by rw [g3]).trans (hpo.trans hp)),hho,by simp only [];rw [hs,g3];exact ZxV (by rw [← g3];simpa using g4) (by rw [← g3];simpa using g5),hvo⟩ t11 rfl
 try simp only [sQ,ne_eq] at g2
 rw [Zrz oz,List.map_nil,asc] at hs
 refine ZE (ZV (ZG (Zt (Zp (Za (xA (h:=Zd ?_)))))))
 exact eR t1 ⟨Ze hs.symm,rfl,rfl⟩

theorem ZmJ (aq:Option Addr) (cq:Nat) (q:DQueue) (B:Kn) (hq:SlK B aq cq 4 Zy q.items):Zac (pj J) 83 [.agg #[.int .i64 q.next,.slice aq q.items.length cq]] B (.bool (Za4 q)):=by
 refine cB 42 Tryz.func83 (h:=?_)
 have hqn:=hq.len
 refine Za (xBx [_,_] (h:=fun b1=>xA (h:=tL1 (Zc (Za (xW ZbX (h:=x1 Zi5 0 (h:=xV Tryz.underlying25 (h:=ZdP (h:=xM (h:=Zx (d:=9) rfl (fun g1=>?_) (fun g1=>?_))))))))))))
 try simp only [sQ,ne_eq] at g1
 refine xP (h:=xP (h:=xP (h:=xT (h:=xM (h:=xP (h:=xP (h:=xP (h:=xT (h:=Zb (t:=true) rfl (fun _=>Za (xA (h:=Zd (Zm ?_)))) (fun h=>Bool.noConfusion h))))))))))
 exact eR t1 ⟨Ze (ZgJ oz),rfl,rfl⟩
 try simp only [sQ,ne_eq] at g1
 refine xW Zgs (h:=x1 lk3 0 (h:=ZF (h:=xF (h:=xM (h:=Zx (d:=14) rfl (fun g2=>?_) (fun g2=>?_))))))
 try simp only [sQ,ne_eq] at g2
 refine xP (h:=xP (h:=xP (h:=xT (h:=Zb (t:=true) rfl (fun _=>Za (xA (h:=Zd (Zm ?_)))) (fun h=>Bool.noConfusion h)))))
 exact eR t1 ⟨Ze (ZgJ oz),rfl,rfl⟩
 try simp only [sQ,ne_eq] at g2
 refine xW Zgs (h:=x1 lk3 0 (h:=ZdP (h:=xF (h:=Zb rfl (fun g3=>?_) (fun g3=>?_)))))
 try simp only [sQ,ne_eq] at g3
 refine Za (xA (h:=Zd (Zm ?_)))
 exact eR t1 ⟨Ze (ZgJ oz),rfl,rfl⟩
 try simp only [sQ,ne_eq] at g3
 refine wSk (Zc (Za (xW ZbX (h:=x1 Zi5 0 (h:=xV Tryz.underlying25 (h:=xM (h:=Zg (Zz (α:=Nat) [0,1,18,20,21] (fun k=>[(22,.int .i64 k)]) [] (fun k=>[]) (fun k Bx=>Bx=B∧k≤q.items.length∧(q.items.take k).all Ze6=true) (fun k=>q.items.length - k) 0 t1 rfl (⟨rfl,Nat.zero_le _,by simp⟩) (fun k B2 hle2 hI=>?_)))))))))
 obtain ⟨rfl,hk,ha⟩:=hI
 refine ZD [(0,_),(1,_),(18,_),(20,_),(21,_),(22,_)] [_] t6 rfl (Za (ZF (h:=Zc (Zb rfl (fun g4=>?_) (fun g4=>?_)))))
 try simp only [sQ,ne_eq] at g4
 refine wSk (Zc (Zg (Za ?_)))
 obtain ⟨x,hx⟩:=ZY (xs:=q.items) (i:=k) om
 obtain ⟨bb4,oo4,rfl⟩:=hq.base hx
 obtain ⟨_,⟨qi5,ci5,rfl,hi5,hb5,hb5b⟩,hc5⟩:=hq.elem hx
 have hi5n:=hi5.len
 refine xIx Tryz.underlying25 ZbC (h:=yL [_,_,_,_] Ze1 hc5 0 (h:=xAl [_,_,_,_] Zfs (h:=fun b6=>xS [_,_,_,_] 1 [_,_,_,_] ZbC (h:=tL2 (Za (xW ZeE (h:=x1 lk9 1 (h:=xW ZcQ (h:=x1 ZfV 1 (h:=xW ZfY (h:=x1 lk9 1 (h:=xB [(0,_),(1,_),(2,_)] [_,_,_] [_,_,_] Zw3 Zwq (h:=xR ZAm rfl (Zlf _ _ ⟨x.fr,x.left,x.text⟩ _ hi5 oa oa) (h:=?_))))))))))))))
 refine xN (h:=Zb rfl (fun g5=>?_) (fun g5=>?_))
 try simp only [sQ,ne_eq] at g5
 refine Za (xA (h:=Zd (ZB (Zm (ZM (ZB (Zm ?_)))))))
 exact eR t1 ⟨Ze (Zmh hx g5),rfl,rfl⟩
 try simp only [sQ,ne_eq] at g5
 refine ZS (ZK (Zp (Zf (xD (h:=xM (h:=?_))))))
 exact ZC (k+1) [0] so2 ⟨rfl,oz,ZxX hx g5 ha⟩ t6 rfl
 try simp only [sQ,ne_eq] at g4
 refine ZE (ZV (ZG (Zt (Zp (Za (xW ZbX (h:=x1 Zi5 0 (h:=xW Zgs (h:=x1 lk3 0 (h:=xU (h:=xR ZAl rfl (ZmK _ _ _ _ _ hq) (h:=xA (h:=Zd ?_)))))))))))))
 exact eR t1 ⟨Ze (Zmg oz ha oz oz oz),rfl,rfl⟩

theorem ZqD (n:Int) (B:Kn):Zac (pj J) 239 [.int .i64 n] B (.bool (decide (0≤n) && decide (n≤31))):=by
 refine cB 5 Tryz.func239 (h:=?_)
 refine Za (xA (h:=Za (xM (h:=xR Zfw rfl (Zc9 _ _ _ _) (h:=xA (h:=Zd ?_))))))
 exact eR t1 ⟨rfl,rfl,rfl⟩

theorem Zh6 (n:Int) (B:Kn):Zac (pj J) 184 [.int .i64 n] B (.bool (decide (0≤n) && decide (n≤31))):=by
 refine cB 9 Tryz.func184 (h:=?_)
 refine Za (xA (h:=Za (xM (h:=Zep (h:=xM (h:=Zx (d:=5) rfl (fun g1=>?_) (fun g1=>?_)))))))
 refine xM (h:=Zb4 (h:=xT (h:=xA (h:=Zd ?_))))
 exact eR t1 ⟨Ze (by rw [Bool.eq_iff_iff];simp [g1];try omega),rfl,rfl⟩
 refine xP (h:=xP (h:=xF (h:=xA (h:=Zd ?_))))
 exact eR t1 ⟨Ze (by rw [Bool.eq_iff_iff];simp [g1];try omega),rfl,rfl⟩

theorem ZqG (m:DMail) (hm:m.text.length≤2000000) (B:Kn):Zac (pj J) 181 [.agg #[.int .i64 m.uid,.int .i64 m.flags,str m.text]] B (.bool (Zbk m)):=by
 refine cB 17 Tryz.func181 (h:=?_)
 refine Za (xBx [_,_,_] (h:=fun b1=>xA (h:=tL1 (Za (xW ZeR (h:=x1 lk3 0 (h:=xR Zfw rfl (Zc9 _ _ _ _) (h:=xM (h:=Zx (d:=6) rfl (fun g1=>?_) (fun g1=>?_))))))))))
 refine xW Zgr (h:=x1 lk3 0 (h:=xR Zzu rfl (ZqD _ _) (h:=xT (h:=xM (h:=Zx (d:=11) rfl (fun g2=>?_) (fun g2=>?_))))))
 refine xW Zfa (h:=x1 lk9 0 (h:=xVs Tryz.underlying9 (h:=Zb4 (h:=xT (h:=xA (h:=Zd ?_))))))
 exact eR t1 ⟨Ze (by rw [Bool.eq_iff_iff];simp [Zbk,g1,g2];try omega),rfl,rfl⟩
 refine xP (h:=xP (h:=xP (h:=xP (h:=xF (h:=xA (h:=Zd ?_))))))
 exact eR t1 ⟨Ze (by rw [Bool.eq_iff_iff];simp [Zbk,g1,g2];try omega),rfl,rfl⟩
 refine xP (h:=xP (h:=xP (h:=xF (h:=xM (h:=xP (h:=xP (h:=xP (h:=xP (h:=xF (h:=xA (h:=Zd ?_)))))))))))
 exact eR t1 ⟨Ze (by rw [Bool.eq_iff_iff];simp [Zbk,g1];try omega),rfl,rfl⟩

theorem ZoJ (m:DMail) (hm:m.text.length≤2000000) (B:Kn):Zac (pj J) 182 [.agg #[.int .i64 m.uid,.int .i64 m.flags,str m.text]] B (.bool (Zbk m)):=by
 refine cB 22 Tryz.func182 (h:=?_)
 refine Za (xBx [_,_,_] (h:=fun b1=>xA (h:=tL1 (Za (xW ZeR (h:=x1 lk3 0 (h:=Zep (h:=xM (h:=Zx (d:=6) rfl (fun g1=>?_) (fun g1=>?_))))))))))
 refine xW ZeR (h:=x1 lk3 0 (h:=Zb4 (h:=xT (h:=xM (h:=Zx (d:=11) rfl (fun g2=>?_) (fun g2=>?_))))))
 refine xW Zgr (h:=x1 lk3 0 (h:=xR ZxI rfl (Zh6 _ _) (h:=xT (h:=xM (h:=Zx (d:=16) rfl (fun g3=>?_) (fun g3=>?_))))))
 refine xW Zfa (h:=x1 lk9 0 (h:=xVs Tryz.underlying9 (h:=Zb4 (h:=xT (h:=xA (h:=Zd ?_))))))
 exact eR t1 ⟨Ze (by rw [Bool.eq_iff_iff];simp [Zbk,g1,g2,g3];try omega),rfl,rfl⟩
 refine xP (h:=xP (h:=xP (h:=xP (h:=xF (h:=xA (h:=Zd ?_))))))
 exact eR t1 ⟨Ze (by rw [Bool.eq_iff_iff];simp [Zbk,g1,g2,g3];try omega),rfl,rfl⟩
 refine xP (h:=xP (h:=xP (h:=xF (h:=xM (h:=xP (h:=xP (h:=xP (h:=xP (h:=xF (h:=xA (h:=Zd ?_)))))))))))
 exact eR t1 ⟨Ze (by rw [Bool.eq_iff_iff];simp [Zbk,g1,g2];try omega),rfl,rfl⟩
 refine xP (h:=xP (h:=xP (h:=xF (h:=xM (h:=xP (h:=xP (h:=xP (h:=xF (h:=xM (h:=xP (h:=xP (h:=xP (h:=xP (h:=xF (h:=xA (h:=Zd ?_))))))))))))))))
 exact eR t1 ⟨Ze (by rw [Bool.eq_iff_iff];simp [Zbk,g1];try omega),rfl,rfl⟩

theorem ZpX (q:Option Addr) (cp:Nat) (x:DBox) (B:Kn) (hx:SlK B q cp 3 Z5 x.mail):Zac (pj J) 119 [.agg #[.int .i64 x.next,.slice q x.mail.length cp]] B (.bool (Zc6 x)):=by
 refine cB 46 Tryz.func119 (h:=?_)
 have hxn:=hx.len
 refine Za (xBx [_,_] (h:=fun b1=>xA (h:=tL1 (Za (xA (h:=Zc (Za (xA (h:=Zg (Zz (α:=Nat × Int) [0,1] (fun g=>[(3,.int .i64 g.2),(4,.int .i64 g.1)]) [] (fun g=>[]) (fun g Bx=>Bx=B∧g.1≤x.mail.length∧ZbZ (x.mail.take g.1)=(true,g.2)∧0≤g.2∧g.2≤99) (fun g=>x.mail.length - g.1) (0,0) t2 rfl (⟨rfl,Nat.zero_le _,ZfR,oz,oz⟩) (fun g B2 hle2 hI=>?_)))))))))))
 obtain ⟨rfl,hk,hs,hl0,hl1⟩:=hI
 refine ZD [(0,_),(1,_),(3,_),(4,_)] [_] t4 rfl (Zc (Za (xM (h:=xW Zbc (h:=x1 Zh1 0 (h:=xV Tryz.underlying91 (h:=ZF (h:=Zb rfl (fun g1=>?_) (fun g1=>?_)))))))))
 try simp only [sQ,ne_eq] at g1
 refine wSk (Zc (Zg (Zc (Za (xW Zbc (h:=x1 Zh1 0 (h:=xM (h:=?_))))))))
 obtain ⟨m,hm⟩:=ZY (xs:=x.mail) (i:=g.1) om
 obtain ⟨bb4,oo4,rfl⟩:=hx.base hm
 obtain ⟨_,⟨rfl,hb5⟩,hc5⟩:=hx.elem hm
 refine xIx Tryz.underlying91 Zgg (h:=yL [_,_,_] ZmA hc5 0 (h:=xR ZzS rfl (ZqG m om2 _) (h:=?_)))
 refine xN (h:=xM (h:=Zx (d:=19) rfl (fun g2=>?_) (fun g2=>?_)))
 try simp only [sQ,ne_eq] at g2
 refine xP (h:=xP (h:=xP (h:=xP (h:=xP (h:=xP (h:=xP (h:=xP (h:=xT (h:=Zb (t:=true) rfl (fun _=>Za (xA (h:=Zd (Zm (ZB (Zm (ZM (ZB (Zm ?_))))))))) (fun h=>Bool.noConfusion h))))))))))
 exact eR t1 ⟨Ze (Zgu (ZfS hm (by rw [show (scn Zdy (fun _ m=>m.uid) 0 (x.mail.take g.1)).2=g.2 from congrArg Prod.snd hs];simp [Zdy,g2]))).symm,rfl,rfl⟩
 try simp only [sQ,ne_eq] at g2
 refine xW Zbc (h:=x1 Zh1 0 (h:=xM (h:=xIx Tryz.underlying91 Zgg (h:=xW ZeR (h:=y1 lk3 hc5 0 (h:=xM (h:=Zb4 (h:=xF (h:=Zb rfl (fun g3=>?_) (fun g3=>?_))))))))))
 try simp only [sQ,ne_eq] at g3
 refine Za (xA (h:=Zd (Zm (ZB (Zm (ZM (ZB (Zm ?_))))))))
 exact eR t1 ⟨Ze (Zgu (ZfS hm (by rw [show (scn Zdy (fun _ m=>m.uid) 0 (x.mail.take g.1)).2=g.2 from congrArg Prod.snd hs];simp [Zdy,g2];omega))).symm,rfl,rfl⟩
 try simp only [sQ,ne_eq] at g3
 refine wSk (Zf (xW Zbc (h:=x1 Zh1 0 (h:=xM (h:=xIx Tryz.underlying91 Zgg (h:=xW ZeR (h:=y1 lk3 hc5 0 (h:=xA (h:=ZK (Zp (Zf (xM (h:=xD (h:=xA (h:=?_)))))))))))))))
 exact ZC (g.1+1,m.uid) [0] so2 ⟨rfl,oz,ZcV hm hs (by simp [Zdy,g2];omega),Zi4 g2⟩ t4 rfl
 try simp only [sQ,ne_eq] at g1
 refine ZE (ZV (ZG (Zt (Zp (Za (xW Zda (h:=x1 lk3 0 (h:=xM (h:=xD (h:=xR Zfw rfl (Zc9 _ _ _ _) (h:=xM (h:=Zx (d:=40) rfl (fun g4=>?_) (fun g4=>?_)))))))))))))
 try simp only [sQ,ne_eq] at g4
 refine xW Zbc (h:=x1 Zh1 0 (h:=xV Tryz.underlying91 (h:=Zb4 (h:=xT (h:=xA (h:=Zd ?_))))))
 exact eR t1 ⟨Ze (by rw [Zfc (Zey hs oz),g4,Bool.true_and,Bool.eq_iff_iff];simp;omega),rfl,rfl⟩
 try simp only [sQ,ne_eq] at g4
 refine xP (h:=xP (h:=xP (h:=xP (h:=xF (h:=xA (h:=Zd ?_))))))
 exact eR t1 ⟨Ze (by rw [Zfc (Zey hs oz),g4,Bool.false_and]),rfl,rfl⟩

theorem Zh7 (q:Option Addr) (cp:Nat) (x:DBox) (B:Kn) (hx:SlK B q cp 3 Z5 x.mail):Zac (pj J) 120 [.agg #[.int .i64 x.next,.slice q x.mail.length cp]] B (.bool (Zc6 x)):=by
 refine cB 38 Tryz.func120 (h:=?_)
 have hxn:=hx.len
 refine Za (xBx [_,_] (h:=fun b1=>xA (h:=tL1 (Zc (Za (xW Zbc (h:=x1 Zh1 0 (h:=xV Tryz.underlying91 (h:=ZdP (h:=Zb rfl (fun g0=>?_) (fun g0=>?_)))))))))))
 try simp only [sQ,ne_eq] at g0
 refine Za (xA (h:=Zd (Zm ?_)))
 exact eR t1 ⟨Ze (by simp [Zc6];omega),rfl,rfl⟩
 try simp only [sQ,ne_eq] at g0
 refine wSk (Za (xA (h:=Zc (Za (xW Zbc (h:=x1 Zh1 0 (h:=xV Tryz.underlying91 (h:=xM (h:=Zg (Zz (α:=Nat × Int) [0,1,9,11,12] (fun g=>[(3,.int .i64 g.2),(13,.int .i64 g.1)]) [] (fun g=>[]) (fun g Bx=>Bx=B∧g.1≤x.mail.length∧ZbZ (x.mail.take g.1)=(true,g.2)∧0≤g.2∧g.2≤99) (fun g=>x.mail.length - g.1) (0,0) t2 rfl (⟨rfl,Nat.zero_le _,ZfR,oz,oz⟩) (fun g B2 hle2 hI=>?_)))))))))))
 obtain ⟨rfl,hk,hs,hl0,hl1⟩:=hI
 refine ZD [(0,_),(1,_),(3,_),(9,_),(11,_),(12,_),(13,_)] [_] t7 rfl (Za (ZF (h:=Zc (Zb rfl (fun g1=>?_) (fun g1=>?_)))))
 try simp only [sQ,ne_eq] at g1
 refine wSk (Zc (Zg (Za ?_)))
 obtain ⟨m,hm⟩:=ZY (xs:=x.mail) (i:=g.1) om
 obtain ⟨bb4,oo4,rfl⟩:=hx.base hm
 obtain ⟨_,⟨rfl,hb5⟩,hc5⟩:=hx.elem hm
 refine xIx Tryz.underlying91 Zgg (h:=yL [_,_,_] ZmA hc5 0 (h:=xAl [_,_,_] ZlU (h:=fun b6=>xS [_,_,_] 1 [_,_,_] Zgg (h:=tL2 (Zc (Za (xL [_,_,_] ZmA 1 (h:=xR ZzR rfl (ZoJ m om2 _) (h:=?_)))))))))
 refine xN (h:=xM (h:=Zx (d:=20) rfl (fun g2=>?_) (fun g2=>?_)))
 try simp only [sQ,ne_eq] at g2
 refine xP (h:=xP (h:=xP (h:=xP (h:=xT (h:=Zb (t:=true) rfl (fun _=>Za (xA (h:=Zd (Zm (ZB (Zm (ZM (ZB (Zm ?_))))))))) (fun h=>Bool.noConfusion h))))))
 exact eR t1 ⟨Ze (Zgu (ZfS hm (by rw [show (scn Zdy (fun _ m=>m.uid) 0 (x.mail.take g.1)).2=g.2 from congrArg Prod.snd hs];simp [Zdy,g2]))).symm,rfl,rfl⟩
 try simp only [sQ,ne_eq] at g2
 refine xW ZeR (h:=x1 lk3 1 (h:=xM (h:=Zb4 (h:=xF (h:=Zb rfl (fun g3=>?_) (fun g3=>?_))))))
 try simp only [sQ,ne_eq] at g3
 refine Za (xA (h:=Zd (Zm (ZB (Zm (ZM (ZB (Zm ?_))))))))
 exact eR t1 ⟨Ze (Zgu (ZfS hm (by rw [show (scn Zdy (fun _ m=>m.uid) 0 (x.mail.take g.1)).2=g.2 from congrArg Prod.snd hs];simp [Zdy,g2];omega))).symm,rfl,rfl⟩
 try simp only [sQ,ne_eq] at g3
 refine wSk (Zf (xW ZeR (h:=x1 lk3 1 (h:=xA (h:=ZK (Zp (Zf (xD (h:=xM (h:=?_))))))))))
 exact ZC (g.1+1,m.uid) [0] so2 ⟨rfl,oz,ZcV hm hs (by simp [Zdy,g2];omega),Zi4 g2⟩ t7 rfl
 try simp only [sQ,ne_eq] at g1
 refine ZE (ZV (ZG (Zt (Zp (Za (xW Zda (h:=x1 lk3 0 (h:=xM (h:=ZdP (h:=xM (h:=Zx (d:=33) rfl (fun g4=>?_) (fun g4=>?_))))))))))))
 try simp only [sQ,ne_eq] at g4
 refine xW Zda (h:=x1 lk3 0 (h:=Zb4 (h:=xT (h:=xA (h:=Zd ?_)))))
 exact eR t1 ⟨Ze (by rw [Zfc (Zey hs oz),Bool.eq_iff_iff];simp;omega),rfl,rfl⟩
 try simp only [sQ,ne_eq] at g4
 refine xP (h:=xP (h:=xP (h:=xF (h:=xA (h:=Zd ?_)))))
 exact eR t1 ⟨Ze (by rw [Zfc (Zey hs oz),Bool.eq_iff_iff];simp;omega),rfl,rfl⟩

theorem ZqF (q:Option Addr) (cp:Nat) (x:DBox) (B:Kn) (hx:SlK B q cp 3 Z5 x.mail):Zac (pj J) 163 [.agg #[.int .i64 x.next,.slice q x.mail.length cp]] B (.int .i64 (ZaL x.mail)):=by
 refine cB 22 Tryz.func163 (h:=?_)
 have hxn:=hx.len
 refine Za (xBx [_,_] (h:=fun b1=>xA (h:=tL1 (Za (xA (h:=Zc (Za (xA (h:=Zg (Zz (α:=Nat × Nat) [0,1,2] (fun g=>[(3,.int .i64 g.2),(4,.int .i64 g.1)]) [] (fun g=>[]) (fun g Bx=>Bx=B∧g.1≤x.mail.length∧g.2=ZaL (x.mail.take g.1)∧g.2≤g.1*2000000) (fun g=>x.mail.length - g.1) (0,0) t2 rfl (⟨rfl,Nat.zero_le _,by simp [ZaL],oz⟩) (fun g B2 hle2 hI=>?_)))))))))))
 obtain ⟨rfl,hk,hs,hl⟩:=hI
 refine ZD [(0,_),(1,_),(2,_),(3,_),(4,_)] [_] t5 rfl (Zc (Za (xM (h:=xW Zbc (h:=x1 Zh1 0 (h:=xV Tryz.underlying91 (h:=ZF (h:=Zb rfl (fun g1=>?_) (fun g1=>?_)))))))))
 try simp only [sQ,ne_eq] at g1
 refine wSk (Zc (Zg (Zf (xM (h:=xW Zbc (h:=x1 Zh1 0 (h:=xM (h:=?_))))))))
 obtain ⟨m,hm⟩:=ZY (xs:=x.mail) (i:=g.1) om
 obtain ⟨bb4,oo4,rfl⟩:=hx.base hm
 obtain ⟨_,⟨rfl,hb5⟩,hc5⟩:=hx.elem hm
 refine xIx Tryz.underlying91 Zgg (h:=xW Zfa (h:=y1 lk9 hc5 2 (h:=xVs Tryz.underlying9 (h:=xD (h:=xA (h:=ZK (Zp (Zf (xM (h:=xD (h:=xA (h:=?_))))))))))))
 exact ZC (g.1+1,g.2+m.text.length) [0] so2 ⟨rfl,oz,by rw [ZhQ hm,← hs],oz⟩ t5 rfl
 try simp only [sQ,ne_eq] at g1
 refine ZE (ZV (ZG (Zt (Zp (Za (xM (h:=xA (h:=Zd ?_))))))))
 exact eR t1 ⟨ZH (by rw [← ZiS hs oz]),rfl,rfl⟩

theorem ZrM (q:Option Addr) (cp:Nat) (x:DBox) (B:Kn) (hx:SlK B q cp 3 Z5 x.mail):Zac (pj J) 242 [.agg #[.int .i64 x.next,.slice q x.mail.length cp]] B (.int .i64 (Zd3 x)):=by
 refine cB 23 Tryz.func242 (h:=?_)
 have hxn:=hx.len
 refine Za (xBx [_,_] (h:=fun b1=>xA (h:=tL1 (Zc (Za (xL [_,_] Zfl 0 (h:=xR Zv6 rfl (Zh7 _ _ (⟨x.next,x.mail⟩:DBox) _ hx) (h:=xN (h:=Zb rfl (fun g0=>?_) (fun g0=>?_))))))))))
 try simp only [sQ,ne_eq] at g0
 refine Za (xA (h:=Zd (Zm ?_)))
 exact eR t1 ⟨ZH (by simp [Zd3,g0]),rfl,rfl⟩
 try simp only [sQ,ne_eq] at g0
 refine wSk (Za (xA (h:=Zc (Za (xW Zbc (h:=x1 Zh1 0 (h:=xV Tryz.underlying91 (h:=xM (h:=Zg (Zz (α:=Nat × Nat) [0,1,2,8,10,11] (fun g=>[(3,.int .i64 g.2),(12,.int .i64 g.1)]) [] (fun g=>[]) (fun g Bx=>Bx=B∧g.1≤x.mail.length∧g.2=ZaL (x.mail.take g.1)∧g.2≤g.1*2000000) (fun g=>x.mail.length - g.1) (0,0) t2 rfl (⟨rfl,Nat.zero_le _,by simp [ZaL],oz⟩) (fun g B3 hle3 hI=>?_)))))))))))
 obtain ⟨rfl,hk,hs,hl⟩:=hI
 refine ZD [(0,_),(1,_),(2,_),(3,_),(8,_),(10,_),(11,_),(12,_)] [_] t8 rfl (Za (ZF (h:=Zc (Zb rfl (fun g1=>?_) (fun g1=>?_)))))
 try simp only [sQ,ne_eq] at g1
 refine wSk (Zc (Zg (Za ?_)))
 obtain ⟨m,hm⟩:=ZY (xs:=x.mail) (i:=g.1) om
 obtain ⟨bb5,oo5,rfl⟩:=hx.base hm
 obtain ⟨_,⟨rfl,hb6⟩,hc6⟩:=hx.elem hm
 refine xIx Tryz.underlying91 Zgg (h:=yL [_,_,_] ZmA hc6 0 (h:=xAl [_,_,_] ZlU (h:=fun b7=>xS [_,_,_] 1 [_,_,_] Zgg (h:=tL2 (Zf (xM (h:=xW Zfa (h:=x1 lk9 1 (h:=xVs Tryz.underlying9 (h:=xD (h:=xA (h:=ZK (Zp (Zf (xD (h:=xM (h:=?_)))))))))))))))))
 exact ZC (g.1+1,g.2+m.text.length) [0] so2 ⟨rfl,oz,by rw [ZhQ hm,← hs],oz⟩ t8 rfl
 try simp only [sQ,ne_eq] at g1
 refine ZE (ZV (ZG (Zt (Zp (Za (xM (h:=xA (h:=Zd ?_))))))))
 exact eR t1 ⟨ZH (by rw [Zd3,if_pos g0,← ZiS hs oz]),rfl,rfl⟩

theorem ZsJ (n:Int) (B:Kn):Zac (pj J) 262 [.int .i64 n] B (.bool (decide (0≤n) && decide (n≤63))):=by
 refine cB 9 Tryz.func262 (h:=?_)
 refine Za (xA (h:=Za (xM (h:=Zep (h:=xM (h:=Zx (d:=5) rfl (fun g1=>?_) (fun g1=>?_)))))))
 refine xM (h:=Zb4 (h:=xT (h:=xA (h:=Zd ?_))))
 exact eR t1 ⟨Ze (by rw [Bool.eq_iff_iff];simp [g1];try omega),rfl,rfl⟩
 refine xP (h:=xP (h:=xF (h:=xA (h:=Zd ?_))))
 exact eR t1 ⟨Ze (by rw [Bool.eq_iff_iff];simp [g1];try omega),rfl,rfl⟩

theorem Zl0 (u:DUser) (h1:u.name.length≤2000000) (h2:u.pass.length≤2000000) (B:Kn):Zac (pj J) 141 [.agg #[str u.name,str u.pass,.int .i64 u.quota]] B (.bool (Zc7 u)):=by
 refine cB 26 Tryz.func141 (h:=?_)
 refine Za (xBx [_,_,_] (h:=fun b1=>xA (h:=tL1 (Za (xW Zbi (h:=x1 lk9 0 (h:=xR Zlw rfl (Zck _ om2 _) (h:=?_))))))))
 refine xM (h:=Zx (d:=6) rfl (fun g1=>?_) (fun g1=>?_))
 try simp only [sQ,ne_eq] at g1
 refine xW Zbi (h:=x1 lk9 0 (h:=Zfy (h:=xT (h:=xM (h:=Zx (d:=11) rfl (fun g2=>?_) (fun g2=>?_))))))
 try simp only [sQ,ne_eq] at g2
 refine xW ZfZ (h:=x1 lk9 0 (h:=xR Zlw rfl (Zck _ om2 _) (h:=?_)))
 refine xT (h:=xM (h:=Zx (d:=16) rfl (fun g3=>?_) (fun g3=>?_)))
 try simp only [sQ,ne_eq] at g3
 refine xW ZdD (h:=x1 lk3 0 (h:=Zep (h:=xT (h:=xM (h:=Zx (d:=21) rfl (fun g4=>?_) (fun g4=>?_))))))
 try simp only [sQ,ne_eq] at g4
 refine xW ZdD (h:=x1 lk3 0 (h:=Zb4 (h:=xT (h:=xA (h:=Zd ?_)))))
 exact eR t1 ⟨Ze (by rw [Bool.eq_iff_iff];simp [Zc7,anyone,g1,g2,g3,g4];try omega),rfl,rfl⟩
 try simp only [sQ,ne_eq] at g4
 refine xP (h:=xP (h:=xP (h:=xF (h:=xA (h:=Zd ?_)))))
 exact eR t1 ⟨Ze (by rw [Bool.eq_iff_iff];simp [Zc7,anyone,g1,g2,g3,g4];try omega),rfl,rfl⟩
 try simp only [sQ,ne_eq] at g3
 refine xP (h:=xP (h:=xP (h:=xF (h:=xM (h:=xP (h:=xP (h:=xP (h:=xF (h:=xA (h:=Zd ?_))))))))))
 exact eR t1 ⟨Ze (by rw [Bool.eq_iff_iff];simp [Zc7,anyone,g1,g2,g3];try omega),rfl,rfl⟩
 try simp only [sQ,ne_eq] at g2
 refine xP (h:=xP (h:=xP (h:=xF (h:=xM (h:=xP (h:=xP (h:=xP (h:=xF (h:=xM (h:=xP (h:=xP (h:=xP (h:=xF (h:=xA (h:=Zd ?_)))))))))))))))
 exact eR t1 ⟨Ze (by rw [Bool.eq_iff_iff];simp [Zc7,anyone,g1,g2];try omega),rfl,rfl⟩
 try simp only [sQ,ne_eq] at g1
 refine xP (h:=xP (h:=xP (h:=xF (h:=xM (h:=xP (h:=xP (h:=xP (h:=xF (h:=xM (h:=xP (h:=xP (h:=xP (h:=xF (h:=xM (h:=xP (h:=xP (h:=xP (h:=xF (h:=xA (h:=Zd ?_))))))))))))))))))))
 exact eR t1 ⟨Ze (by rw [Bool.eq_iff_iff];simp [Zc7,anyone,g1];try omega),rfl,rfl⟩

theorem Zh5 (q:Option Addr) (cp:Nat) (us:List DUser) (B:Kn) (hu:SlK B q cp 3 Zn us):Zac (pj J) 82 [.slice q us.length cp] B (.bool (ZaC us)):=by
 refine cB 32 Tryz.func82 (h:=?_)
 have hun:=hu.len
 refine Za (xA (h:=Zc (Za (xM (h:=xV Tryz.underlying23 (h:=ZF (h:=xM (h:=Zx (d:=9) rfl (fun g0=>?_) (fun g0=>?_)))))))))
 try simp only [sQ,ne_eq] at g0
 refine xP (h:=xP (h:=xP (h:=xT (h:=Zb (t:=true) rfl (fun _=>Za (xA (h:=Zd (Zm ?_)))) (fun h=>Bool.noConfusion h)))))
 exact eR t1 ⟨Ze (by rw [Bool.eq_iff_iff];simp [ZaC];omega),rfl,rfl⟩
 try simp only [sQ,ne_eq] at g0
 refine xM (h:=xV Tryz.underlying23 (h:=ZdP (h:=xF (h:=Zb rfl (fun g0b=>?_) (fun g0b=>?_)))))
 try simp only [sQ,ne_eq] at g0b
 refine Za (xA (h:=Zd (Zm ?_)))
 exact eR t1 ⟨Ze (by rw [Bool.eq_iff_iff];simp [ZaC];omega),rfl,rfl⟩
 try simp only [sQ,ne_eq] at g0b
 refine wSk (Za (xA (h:=Zc (Za (xM (h:=xV Tryz.underlying23 (h:=xM (h:=Zg (Zz (α:=Nat × Str) [0,13,14,15] (fun g=>[(3,str g.2),(16,.int .i64 g.1)]) [] (fun g=>[]) (fun g Bx=>Bx=B∧g.1≤us.length∧Zes (us.take g.1)=(true,g.2)∧g.2.length≤2000000) (fun g=>us.length - g.1) (0,[]) t2 rfl (⟨rfl,Nat.zero_le _,ZfR,by simp⟩) (fun g B1 hle1 hI=>?_))))))))))
 obtain ⟨rfl,hk,hs,hl⟩:=hI
 refine ZD [(0,_),(3,_),(13,_),(14,_),(15,_),(16,_)] [] t6 rfl (Za (ZF (h:=Zc (Zb rfl (fun g1=>?_) (fun g1=>?_)))))
 try simp only [sQ,ne_eq] at g1
 refine wSk (Zc (Zg (Za ?_)))
 obtain ⟨m,hm⟩:=ZY (xs:=us) (i:=g.1) om
 obtain ⟨bb3,oo3,rfl⟩:=hu.base hm
 obtain ⟨_,⟨rfl,hb4,hb4b⟩,hc4⟩:=hu.elem hm
 refine xIx Tryz.underlying23 Zbq (h:=yL [_,_,_] Zfv hc4 0 (h:=xAl [_,_,_] Zeo (h:=fun b5=>xS [_,_,_] 0 [_,_,_] Zbq (h:=tL1 (Zc (Za (xL [_,_,_] Zfv 0 (h:=xR ZAn rfl (Zl0 m om2 om2 _) (h:=?_)))))))))
 refine xN (h:=xM (h:=Zx (d:=23) rfl (fun g2=>?_) (fun g2=>?_)))
 try simp only [sQ,ne_eq] at g2
 refine xP (h:=xP (h:=xP (h:=xP (h:=xT (h:=Zb (t:=true) rfl (fun _=>Za (xA (h:=Zd (Zm (ZB (Zm (ZM (ZB (Zm ?_))))))))) (fun h=>Bool.noConfusion h))))))
 exact eR t1 ⟨Ze (ZfN (ZfS hm (by rw [show (scn ZeU (fun _ u=>u.name) [] (us.take g.1)).2=g.2 from congrArg Prod.snd hs];simp [ZeU,g2]))).symm,rfl,rfl⟩
 try simp only [sQ,ne_eq] at g2
 refine xW Zbi (h:=x1 lk9 0 (h:=xM (h:=Zl (Zuj rfl rfl rfl rfl (xF (h:=Zb rfl (fun g3=>?_) (fun g3=>?_)))))))
 try simp only [sQ,ne_eq] at g3
 refine Za (xA (h:=Zd (Zm (ZB (Zm (ZM (ZB (Zm ?_))))))))
 exact eR t1 ⟨Ze (ZfN (ZfS hm (by rw [show (scn ZeU (fun _ u=>u.name) [] (us.take g.1)).2=g.2 from congrArg Prod.snd hs,ZeU,ZbF g.2 m.name,g3];simp))).symm,rfl,rfl⟩
 try simp only [sQ,ne_eq] at g3
 refine wSk (Zf (xW Zbi (h:=x1 lk9 0 (h:=xA (h:=ZK (Zp (Zf (xD (h:=xM (h:=?_))))))))))
 exact ZC (g.1+1,m.name) [] so2 ⟨rfl,oz,ZcV hm hs (by rw [ZeU,ZbF g.2 m.name,g2,g3];rfl),oy⟩ t6 rfl
 try simp only [sQ,ne_eq] at g1
 refine ZE (ZV (ZG (Zt (Zp (Za (xA (h:=Zd ?_)))))))
 exact eR t1 ⟨Ze (by rw [ZhL (Zey hs oz),Bool.eq_iff_iff];simp;omega),rfl,rfl⟩

theorem Zks (x:DUser) (u:Str) (b:Nat) (h1:x.name.length≤2000000) (h2:u.length≤2000000) (B:Kn) (hb:Zal B b 0 [str u]):Zac (pj J) 241 [.agg #[str x.name,str x.pass,.int .i64 x.quota],ptr ⟨b,0,none⟩] B (.bool (decide (x.name=u))):=by
 refine cB 8 Tryz.func241 (h:=?_)
 refine Za (xBx [_,_,_] (h:=fun b1=>xA (h:=tL1 (Za (xW Zbi (h:=x1 lk9 0 (h:=Zl (Zo rfl rfl lk9 rfl (hb _ 0 _ rfl) (Zd4 (h:=xA (h:=Zd ?_)))))))))))
 exact eR t1 ⟨rfl,rfl,rfl⟩

theorem Zrj (q:Option Addr) (cp:Nat) (us:List DUser) (F:FuncId) (cap:Array Value) (t:DUser→Bool) (B:Kn) (hu:SlK B q cp 3 Zn us) (he:enters (pj J) F=true) (hF :∀x:DUser,x.name.length≤2000000→x.pass.length≤2000000→Zac (pj J) F ([.agg #[str x.name,str x.pass,.int .i64 x.quota]] ++ cap.toList) B (.bool (t x))):Zac (pj J) 240 [.slice q us.length cp,.func (.func F) #[] cap] B (.tuple #[.agg #[str (Zf1 t us).1.name,str (Zf1 t us).1.pass,.int .i64 (Zf1 t us).1.quota],.bool (Zf1 t us).2]):=by
 refine cB 21 Tryz.func240 (h:=?_)
 have hun:=hu.len
 refine Za (xAl [_,_,_] Zeo (h:=fun b1=>xA (h:=tL1 (Zc (Za (xM (h:=xV Tryz.underlying23 (h:=xM (h:=Zg (Zz (α:=Nat) [0,1,4,9,10] (fun k=>[(11,.int .i64 k)]) [] (fun k=>[]) (fun k Bx=>Bx=B∧k≤us.length∧∀y,y∈us.take k→t y=false) (fun k=>us.length - k) 0 t1 rfl (⟨rfl,Nat.zero_le _,by simp⟩) (fun k B2 hle2 hI=>?_)))))))))))
 obtain ⟨rfl,hk,ha⟩:=hI
 refine ZD [(0,_),(1,_),(4,_),(9,_),(10,_),(11,_)] [_] t6 rfl (Za (ZF (h:=Zc (Zb rfl (fun g1=>?_) (fun g1=>?_)))))
 try simp only [sQ,ne_eq] at g1
 refine wSk (Zc (Zg (Za ?_)))
 obtain ⟨m,hm⟩:=ZY (xs:=us) (i:=k) om
 obtain ⟨bb4,oo4,rfl⟩:=hu.base hm
 obtain ⟨_,⟨rfl,hb5,hb5b⟩,hc5⟩:=hu.elem hm
 refine xIx Tryz.underlying23 Zbq (h:=yL [_,_,_] Zfv hc5 0 (h:=xAl [_,_,_] Zeo (h:=fun b6=>xS [_,_,_] 1 [_,_,_] Zbq (h:=tL2 (Za (xM (h:=xL [_,_,_] Zfv 1 (h:=Zl (Zue rfl rfl he rfl rfl (hF m om2 om2) ?_)))))))))
 refine Zb rfl (fun g2=>?_) (fun g2=>?_)
 try simp only [sQ,ne_eq] at g2
 refine Za (xL [_,_,_] Zfv 1 (h:=xS [_,_,_] 0 [_,_,_] Zbq (h:=xA (h:=tL2 (Zd (ZB (Zm (ZM (ZB (Zm ?_))))))))))
 exact Zru .ret (.inl rfl) [_,_] ⟨⟨_,rfl,.inr ⟨[_,_,_],Zfv,Zbw 0 rfl rfl rfl,rfl⟩⟩,rfl,trivial⟩ ⟨by rw [Zri hm g2 ha];rfl,rfl,rfl⟩
 try simp only [sQ,ne_eq] at g2
 refine ZS (ZK (Zp (Zf (xD (h:=xM (h:=?_))))))
 exact ZC (k+1) [0] so2 ⟨rfl,oz,Za8 hm ha g2⟩ t6 rfl
 try simp only [sQ,ne_eq] at g1
 refine ZE (ZV (ZG (Zt (Zp (Za (xAl [_,_,_] Zeo (h:=fun b8=>tL2 (Za (xL [_,_,_] Zfv 1 (h:=xS [_,_,_] 0 [_,_,_] Zbq (h:=xA (h:=tL2 (Zd ?_)))))))))))))
 exact Zru .ret (.inl rfl) [_,_] ⟨⟨_,rfl,.inr ⟨[_,_,_],Zfv,Zbw 0 rfl rfl rfl,rfl⟩⟩,rfl,trivial⟩ ⟨by rw [ZoV (Zbe oz ha)];rfl,rfl,rfl⟩

theorem ZhN (q:Option Addr) (cp:Nat) (us:List DUser) (nm:Str) (hn:nm.length≤2000000) (B:Kn) (hu:SlK B q cp 3 Zn us):Zac (pj J) 186 [.slice q us.length cp,str nm] B (.tuple #[.agg #[str (ZaO us nm).1.name,str (ZaO us nm).1.pass,.int .i64 (ZaO us nm).1.quota],.bool (ZaO us nm).2]):=by
 refine cB 15 Tryz.func186 (h:=?_)
 have hun:=hu.len
 refine Za (xBx [_] (h:=fun b1=>xAl [_,_,_] Zeo (h:=fun b2=>xA (h:=tL2 (Zc (Za (xM (h:=xR ZBb rfl (Zh5 _ _ _ _ hu) (h:=xN (h:=Zb rfl (fun g0=>?_) (fun g0=>?_)))))))))))
 try simp only [sQ,ne_eq] at g0
 refine Za (xB [] [_,_,_] [_,_,_] ZyM Zeo (h:=xS [_,_,_] 1 [_,_,_] Zbq (h:=xA (h:=tL2 (Zd (Zm ?_))))))
 exact Zru .ret (.inl rfl) [_,_] ⟨⟨_,rfl,.inr ⟨[_,_,_],Zfv,Zbw 1 rfl rfl rfl,rfl⟩⟩,rfl,trivial⟩ ⟨by rw [ZaO,g0];rfl,rfl,rfl⟩
 try simp only [sQ,ne_eq] at g0
 refine wSk (Za (xM (h:=Zl (Zd5 (xs:=[]) (ys:=[_]) rfl rfl rfl rfl (Zl (ZiN 0 rfl rfl rfl Zzt rfl (Zac.borrow fun hm=>Zrj _ _ us 241 _ (fun y=>decide (y.name=nm)) _ (hu.mono Zn.mono (Kn.le_add _ _)) Zzs (fun y h1 h2=>Zks y nm _ h1 hn _ (Zjy hm))) (xE (h:=xE (h:=xS [_,_,_] 1 [_,_,_] Zbq (h:=xA (h:=tL2 (Zd ?_))))))))))))
 exact Zru .ret (.inl rfl) [_,_] ⟨⟨_,rfl,.inr ⟨[_,_,_],Zfv,Zbw 1 rfl rfl rfl,rfl⟩⟩,rfl,trivial⟩ ⟨by rw [ZaO,if_pos g0];rfl,rfl,rfl⟩

theorem Zhw (b o:Nat) (q1 q2 q3:Option Addr) (c1 c2 c3:Nat) (x:DHost) (nm:Str) (hn:nm.length≤2000000) (B:Kn) (hh:Zal B b o [str x.domain,.slice q1 x.users.length c1,.slice q2 x.folders.length c2,.int .i64 x.queue.next,.slice q3 x.queue.items.length c3]) (hu:SlK B q1 c1 3 Zn x.users):Zac (pj J) 148 [ptr ⟨b,o,none⟩,str nm] B (.bool (ZaO x.users nm).2):=by
 refine cB 17 Tryz.func148 (h:=?_)
 refine Za (xA (h:=Za (xM (h:=xNc (h:=xW ZbL (h:=Zl (Zo rfl rfl ZiE rfl (hh _ 1 _ rfl) (xM (h:=xR ZxH rfl (ZhN _ _ _ nm om2 _ hu) (h:=?_))))))))))
 refine xM (h:=xE (h:=xE (h:=xAl [_,_,_] Zeo (h:=fun b2=>xS [_,_,_] 0 [_,_,_] Zbq (h:=xA (h:=tL1 (Za (xM (h:=xA (h:=Zd ?_))))))))))
 exact eR t1 ⟨rfl,rfl,rfl⟩

theorem Zh2 (q1 q2 q3:Option Addr) (c1 c2 c3:Nat) (x:DHost) (ow nm:Str) (ho:ow.length≤2000000) (hn:nm.length≤2000000) (B:Kn) (hf:SlK B q2 c2 5 Zk x.folders):Zac (pj J) 42 [.agg #[str x.domain,.slice q1 x.users.length c1,.slice q2 x.folders.length c2,.int .i64 x.queue.next,.slice q3 x.queue.items.length c3],str ow,str nm] B (.int .i64 (ZaN (inF ow nm) x.folders)):=by
 refine cB 34 Tryz.func42 (h:=?_)
 have hfn:=hf.len
 refine Za (xBx [_,_,_,_,_] (h:=fun b1=>xA (h:=tL1 (Zc (Za (xA (h:=Zg (Zz (α:=Nat) [0,1,2,3] (fun k=>[(7,.int .i64 k)]) [] (fun k=>[]) (fun k Bx=>Bx=B∧k≤x.folders.length∧∀y,y∈x.folders.take k→inF ow nm y=false) (fun k=>x.folders.length - k) 0 t1 rfl (⟨rfl,Nat.zero_le _,by simp⟩) (fun k B2 hle2 hI=>?_)))))))))
 obtain ⟨rfl,hk,ha⟩:=hI
 refine ZD [(0,_),(1,_),(2,_),(3,_),(7,_)] [_] t5 rfl (Zc (Za (xM (h:=xW Zat (h:=x1 ZeB 0 (h:=xV Tryz.underlying24 (h:=ZF (h:=Zb rfl (fun g1=>?_) (fun g1=>?_)))))))))
 try simp only [sQ,ne_eq] at g1
 refine wSk (Zc (Zg (Za (xW Zat (h:=x1 ZeB 0 (h:=xM (h:=?_)))))))
 obtain ⟨y,hy⟩:=ZY (xs:=x.folders) (i:=k) om
 obtain ⟨bb4,oo4,rfl⟩:=hf.base hy
 obtain ⟨_,⟨qg5,cg5,qm5,cm5,rfl,hg5,hm5,hb5,hb5b⟩,hc5⟩:=hf.elem hy
 have hg5n:=hg5.len
 have hm5n:=hm5.len
 have hm5s:=Zao hm5
 refine xIx Tryz.underlying24 ZbM (h:=xW ZbW (h:=y1 lk9 hc5 0 (h:=xM (h:=Zd4 (h:=xM (h:=Zx (d:=23) rfl (fun g2=>?_) (fun g2=>?_)))))))
 try simp only [sQ,ne_eq] at g2
 refine xW Zat (h:=x1 ZeB 0 (h:=xM (h:=xIx Tryz.underlying24 ZbM (h:=xW Zeh (h:=y1 lk9 hc5 1 (h:=xM (h:=Zd4 (h:=xT (h:=Zb rfl (fun g3=>?_) (fun g3=>?_))))))))))
 try simp only [sQ,ne_eq] at g3
 refine Za (xM (h:=xA (h:=Zd (ZB (Zm (ZM (ZB (Zm ?_))))))))
 exact eR t1 ⟨ZH (Zhx hy (by simp [inF,g2,g3]) ha).symm,rfl,rfl⟩
 try simp only [sQ,ne_eq] at g3
 refine ZS (ZK (Zp (Zf (xM (h:=xD (h:=xA (h:=?_)))))))
 exact ZC (k+1) [0] so2 ⟨rfl,oz,Za8 hy ha (by simp [inF,g2,g3])⟩ t5 rfl
 try simp only [sQ,ne_eq] at g2
 refine xP (h:=xP (h:=xP (h:=xP (h:=xP (h:=xP (h:=xP (h:=xP (h:=xF (h:=Zb (t:=false) rfl (fun h=>Bool.noConfusion h) (fun _=>ZS (ZK (Zp (Zf (xM (h:=xD (h:=xA (h:=?_)))))))))))))))))
 exact ZC (k+1) [0] so2 ⟨rfl,oz,Za8 hy ha (by simp [inF,g2])⟩ t5 rfl
 try simp only [sQ,ne_eq] at g1
 refine ZE (ZV (ZG (Zt (Zp (Za (xA (h:=Zd ?_)))))))
 exact eR t1 ⟨ZH (Ze8 (Zbe oz ha)).symm,rfl,rfl⟩

theorem ZvP (f:DFolder) (qa qb:Option Addr) (ca cb:Nat) (ow nm:Str) (b b':Nat) (h1:f.owner.length≤2000000) (h2:f.name.length≤2000000) (h3:ow.length≤2000000) (h4:nm.length≤2000000) (B:Kn) (hb:Zal B b 0 [str ow]) (hb2:Zal B b' 0 [str nm]):Zac (pj J) 154 [.agg #[str f.owner,str f.name,.slice qa f.grants.length ca,.int .i64 f.next,.slice qb f.mail.length cb],ptr ⟨b,0,none⟩,ptr ⟨b',0,none⟩] B (.bool (inF ow nm f)):=by
 refine cB 15 Tryz.func154 (h:=?_)
 refine Za (xBx [_,_,_,_,_] (h:=fun b1=>xA (h:=tL1 (Za (xW ZbW (h:=x1 lk9 0 (h:=Zl (Zo rfl rfl lk9 rfl (hb _ 0 _ rfl) (Zd4 (h:=xM (h:=Zx (d:=9) rfl (fun g1=>?_) (fun g1=>?_))))))))))))
 refine xW Zeh (h:=x1 lk9 0 (h:=Zl (Zo rfl rfl lk9 rfl (hb2 _ 0 _ rfl) (Zd4 (h:=xT (h:=xA (h:=Zd ?_)))))))
 exact eR t1 ⟨Ze (by rw [Bool.eq_iff_iff];simp [inF,g1]),rfl,rfl⟩
 refine xP (h:=xP (h:=xP (h:=xP (h:=xF (h:=xA (h:=Zd ?_))))))
 exact eR t1 ⟨Ze (by rw [Bool.eq_iff_iff];simp [inF,g1]),rfl,rfl⟩

theorem Ztm (q:Option Addr) (cp:Nat) (fs:List DFolder) (F:FuncId) (cap:Array Value) (t:DFolder→Bool) (B:Kn) (hf:SlK B q cp 5 Zk fs) (he:enters (pj J) F=true) (hF :∀(f:DFolder) (qa qb:Option Addr) (ca cb:Nat),f.owner.length≤2000000→f.name.length≤2000000→Zac (pj J) F ([.agg #[str f.owner,str f.name,.slice qa f.grants.length ca,.int .i64 f.next,.slice qb f.mail.length cb]] ++ cap.toList) B (.bool (t f))):Zac (pj J) 153 [.slice q fs.length cp,.func (.func F) #[] cap] B (.int .i64 (ZaN t fs)):=by
 refine cB 19 Tryz.func153 (h:=?_)
 have hfn:=hf.len
 refine Za (xA (h:=Zc (Za (xM (h:=xV Tryz.underlying24 (h:=xM (h:=Zg (Zz (α:=Nat) [0,1,7] (fun k=>[(8,.int .i64 k)]) [] (fun k=>[]) (fun k Bx=>Bx=B∧k≤fs.length∧∀y,y∈fs.take k→t y=false) (fun k=>fs.length - k) 0 t1 rfl (⟨rfl,Nat.zero_le _,by simp⟩) (fun k B1 hle1 hI=>?_)))))))))
 obtain ⟨rfl,hk,ha⟩:=hI
 refine ZD [(0,_),(1,_),(7,_),(8,_)] [] t4 rfl (Za (ZF (h:=Zc (Zb rfl (fun g1=>?_) (fun g1=>?_)))))
 try simp only [sQ,ne_eq] at g1
 refine wSk (Zc (Zg (Za (xM (h:=xA (h:=Za (xM (h:=xM (h:=xM (h:=?_))))))))))
 obtain ⟨y,hy⟩:=ZY (xs:=fs) (i:=k) om
 obtain ⟨bb3,oo3,rfl⟩:=hf.base hy
 obtain ⟨_,⟨qg4,cg4,qm4,cm4,rfl,hg4,hm4,hb4,hb4b⟩,hc4⟩:=hf.elem hy
 have hg4n:=hg4.len
 have hm4n:=hm4.len
 have hm4s:=Zao hm4
 refine xIx Tryz.underlying24 ZbM (h:=yL [_,_,_,_,_] ZiB hc4 0 (h:=Zl (Zue rfl rfl he rfl rfl (hF y _ _ _ _ om2 om2) ?_)))
 refine Zb rfl (fun g2=>?_) (fun g2=>?_)
 try simp only [sQ,ne_eq] at g2
 refine Za (xM (h:=xA (h:=Zd (ZB (Zm (ZM (ZB (Zm ?_))))))))
 exact eR t1 ⟨ZH (Zhx hy g2 ha).symm,rfl,rfl⟩
 try simp only [sQ,ne_eq] at g2
 refine ZS (ZK (Zp (Zf (xD (h:=xM (h:=?_))))))
 exact ZC (k+1) [] so2 ⟨rfl,oz,Za8 hy ha g2⟩ t4 rfl
 try simp only [sQ,ne_eq] at g1
 refine ZE (ZV (ZG (Zt (Zp (Za (xA (h:=Zd ?_)))))))
 exact eR t1 ⟨ZH (Ze8 (Zbe oz ha)).symm,rfl,rfl⟩

theorem ZuC (b o:Nat) (q1 q2 q3:Option Addr) (c1 c2 c3:Nat) (x:DHost) (ow nm:Str) (ho:ow.length≤2000000) (hn:nm.length≤2000000) (B:Kn) (hh:Zal B b o [str x.domain,.slice q1 x.users.length c1,.slice q2 x.folders.length c2,.int .i64 x.queue.next,.slice q3 x.queue.items.length c3]) (hf:SlK B q2 c2 5 Zk x.folders):Zac (pj J) 88 [ptr ⟨b,o,none⟩,str ow,str nm] B (.int .i64 (ZaN (inF ow nm) x.folders)):=by
 refine cB 13 Tryz.func88 (h:=?_)
 refine Za (xBx [_] (h:=fun b1=>xBx [_] (h:=fun b2=>xA (h:=tL2 (Za (xM (h:=xNc (h:=xW Zat (h:=Zl (Zo rfl rfl ZeB rfl (hh _ 2 _ rfl) (Zl (Zd5 (xs:=[]) (ys:=[_,_]) rfl rfl rfl rfl (Zl (Zwv 0 1 rfl rfl rfl rfl rfl ZAg rfl (Zac.borrow2 fun hm1 hm2=>Ztm _ _ x.folders 154 _ (inF ow nm) _ ((hf.mono Zk.mono (Kn.le_add _ _)).mono Zk.mono (Kn.le_add _ _)) ZAf (fun f qa qb ca cb h1 h2=>ZvP f qa qb ca cb ow nm _ _ h1 h2 ho hn _ (Zjy hm1) (Zjy hm2))) (xA (h:=Zd ?_))))))))))))))))
 exact eR t1 ⟨rfl,rfl,rfl⟩

theorem Zmj (b o:Nat) (q1 q2 q3:Option Addr) (c1 c2 c3:Nat) (x:DHost) (B:Kn) (hh:Zal B b o [str x.domain,.slice q1 x.users.length c1,.slice q2 x.folders.length c2,.int .i64 x.queue.next,.slice q3 x.queue.items.length c3]) (hu:SlK B q1 c1 3 Zn x.users) (hi:SlK B q3 c3 4 Zy x.queue.items):Zac (pj J) 87 [ptr ⟨b,o,none⟩] B (.bool (x.queue.items.all (Zdf x.users))):=by
 refine cB 35 Tryz.func87 (h:=?_)
 have hin:=hi.len
 refine Za (xA (h:=Zc (Za (xM (h:=xNc (h:=xW ZeS (h:=xW ZbX (h:=Zl (Zo rfl rfl Zi5 rfl (hh _ 4 _ rfl) (xV Tryz.underlying25 (h:=xM (h:=Zg (Zz (α:=Nat) [0,11,12] (fun k=>[(13,.int .i64 k)]) [] (fun k=>[]) (fun k Bx=>Bx=B∧k≤x.queue.items.length∧∀y,y∈x.queue.items.take k→Zdf x.users y=true) (fun k=>x.queue.items.length - k) 0 t1 rfl (⟨rfl,Nat.zero_le _,by simp⟩) (fun k B1 hle1 hI=>?_))))))))))))))
 obtain ⟨rfl,hk,ha⟩:=hI
 refine ZD [(0,_),(11,_),(12,_),(13,_)] [] t4 rfl (Za (ZF (h:=Zc (Zb rfl (fun g1=>?_) (fun g1=>?_)))))
 try simp only [sQ,ne_eq] at g1
 refine wSk (Zc (Zg (Za ?_)))
 obtain ⟨y,hy⟩:=ZY (xs:=x.queue.items) (i:=k) om
 obtain ⟨bb3,oo3,rfl⟩:=hi.base hy
 obtain ⟨_,⟨qi4,ci4,rfl,hi4,hb4,hb4b⟩,hc4⟩:=hi.elem hy
 have hi4n:=hi4.len
 refine xIx Tryz.underlying25 ZbC (h:=yL [_,_,_,_] Ze1 hc4 0 (h:=xAl [_,_,_,_] Zfs (h:=fun b5=>xS [_,_,_,_] 0 [_,_,_,_] ZbC (h:=tL1 (Zc (Za (xM (h:=xW ZeE (h:=x1 lk9 0 (h:=xR ZtM rfl (Zhw _ _ _ _ _ _ _ _ x y.fr om2 _ hh hu) (h:=?_)))))))))))
 refine xN (h:=Zb rfl (fun g2=>?_) (fun g2=>?_))
 try simp only [sQ,ne_eq] at g2
 refine Za (xA (h:=Zd (Zm (ZB (Zm (ZM (ZB (Zm ?_))))))))
 exact eR t1 ⟨Ze (Zb2 hy (by simp [Zdf,g2])).symm,rfl,rfl⟩
 try simp only [sQ,ne_eq] at g2
 refine wSk (Za (xW ZcQ (h:=x1 ZfV 0 (h:=xV Tryz.underlying143 (h:=xM (h:=Zg (Zz (α:=Nat) [0,4,11,12,13,14,21,23,24] (fun j=>[(25,.int .i64 j)]) [] (fun j=>[]) (fun j Bx=>Bx=B1∧j≤y.left.length∧∀z,z∈y.left.take j→(ZaO x.users z).2=true) (fun j=>y.left.length - j) 0 t1 rfl (⟨rfl,Nat.zero_le _,by simp⟩) (fun j B7 hle7 hI=>?_))))))))
 obtain ⟨rfl,hj,hb⟩:=hI
 refine ZD [(0,_),(4,_),(11,_),(12,_),(13,_),(14,_),(21,_),(23,_),(24,_),(25,_)] [_] t10 rfl (Za (ZF (h:=Zc (Zb rfl (fun g3=>?_) (fun g3=>?_)))))
 try simp only [sQ,ne_eq] at g3
 refine wSk (Zc (Zg (Za ?_)))
 obtain ⟨z,hz⟩:=ZY (xs:=y.left) (i:=j) om
 obtain ⟨bb9,oo9,rfl⟩:=hi4.base hz
 obtain ⟨_,⟨rfl,hb10⟩,hc10⟩:=hi4.elem hz
 refine xIx Tryz.underlying143 sz9 (h:=y1 lk9 hc10 0 (h:=xA (h:=Za (xM (h:=xM (h:=xR ZtM rfl (Zhw _ _ _ _ _ _ _ _ x z om2 _ hh hu) (h:=?_)))))))
 refine xN (h:=Zb rfl (fun g4=>?_) (fun g4=>?_))
 try simp only [sQ,ne_eq] at g4
 refine Za (xA (h:=Zd (ZB (Zm (ZM (ZB (ZB (Zm (ZM (ZB (Zm ?_)))))))))))
 exact eR t1 ⟨Ze (Zb2 hy (by rw [Zdf,Zb2 hz g4,Bool.and_false])).symm,rfl,rfl⟩
 try simp only [sQ,ne_eq] at g4
 refine ZS (ZK (Zp (Zf (xD (h:=xM (h:=?_))))))
 exact ZC (j+1) [0] so2 ⟨rfl,oz,Za8 hz hb g4⟩ t10 rfl
 try simp only [sQ,ne_eq] at g3
 refine ZE (ZV (ZG (Zt (ZK (Zp (Zf (xD (h:=xM (h:=?_)))))))))
 exact ZC (k+1) [] so2 ⟨rfl,oz,Za8 hy ha (by rw [Zdf,g2,ZdX (Zbe oz hb)];rfl)⟩ t4 rfl
 try simp only [sQ,ne_eq] at g1
 refine ZE (ZV (ZG (Zt (Zp (Za (xA (h:=Zd ?_)))))))
 exact eR t1 ⟨Ze (ZdX (Zbe oz ha)).symm,rfl,rfl⟩

theorem ZqE (f g:DFolder) (qa qb qc qd:Option Addr) (ca cb cc cd:Nat) (B:Kn):Zac (pj J) 162 [.agg #[str f.owner,str f.name,.slice qa f.grants.length ca,.int .i64 f.next,.slice qb f.mail.length cb],.agg #[str g.owner,str g.name,.slice qc g.grants.length cc,.int .i64 g.next,.slice qd g.mail.length cd]] B (.bool (Zdz f g)):=by
 refine cB 24 Tryz.func162 (h:=?_)
 refine Za (xBx [_,_,_,_,_] (h:=fun b1=>xBx [_,_,_,_,_] (h:=fun b2=>xA (h:=tL2 (Za (xW ZbW (h:=x1 lk9 0 (h:=xW ZbW (h:=x1 lk9 1 (h:=Zuc (h:=xM (h:=Zx (d:=10) rfl (fun g1=>?_) (fun g1=>?_)))))))))))))
 refine xP (h:=xP (h:=xP (h:=xP (h:=xP (h:=xP (h:=xP (h:=xP (h:=xP (h:=xP (h:=xP (h:=xP (h:=xT (h:=xA (h:=Zd ?_))))))))))))))
 exact eR t1 ⟨Ze (by rw [Bool.eq_iff_iff];simp [Zdz,Zde,g1]),rfl,rfl⟩
 refine xW ZbW (h:=x1 lk9 0 (h:=xW ZbW (h:=x1 lk9 1 (h:=Zd4 (h:=xM (h:=Zx (d:=16) rfl (fun g2=>?_) (fun g2=>?_)))))))
 refine xW Zeh (h:=x1 lk9 0 (h:=xW Zeh (h:=x1 lk9 1 (h:=Zuc (h:=xT (h:=xF (h:=xA (h:=Zd ?_))))))))
 exact eR t1 ⟨Ze (by rw [Bool.eq_iff_iff];simp [Zdz,Zde,g1,g2]),rfl,rfl⟩
 refine xP (h:=xP (h:=xP (h:=xP (h:=xP (h:=xF (h:=xF (h:=xA (h:=Zd ?_))))))))
 exact eR t1 ⟨Ze (by rw [Bool.eq_iff_iff];simp [Zdz,Zde,g1,g2]),rfl,rfl⟩

theorem Zmb (q:Option Addr) (cp:Nat) (us:List DUser) (B:Kn) (hu:SlK B q cp 3 Zn us):Zac (pj J) 92 [.slice q us.length cp] B (.bool (ZaC us)):=by
 refine cB 54 Tryz.func92 (h:=?_)
 have hun:=hu.len
 refine Za (xA (h:=Zc (Za (xA (h:=Zg (Zz (α:=Nat × Str) [0] (fun g=>[(3,.int .i64 g.1)]) [] (fun g=>[]) (fun g Bx=>Bx=B∧g.1≤us.length∧Zes (us.take g.1)=(true,g.2)∧Prev (fun y=>y.name) ([]:Str) us g.1 g.2) (fun g=>us.length - g.1) (0,[]) t1 rfl (⟨rfl,Nat.zero_le _,ZfR,.zero⟩) (fun g B1 hle1 hI=>?_)))))))
 obtain ⟨rfl,hk,hs,hp⟩:=hI
 refine ZD [(0,_),(3,_)] [] t2 rfl (Zc (Za (xM (h:=xM (h:=xV Tryz.underlying23 (h:=ZF (h:=Zb rfl (fun g1=>?_) (fun g1=>?_))))))))
 try simp only [sQ,ne_eq] at g1
 refine wSk (Zc (Zg (Za (xM (h:=xM (h:=?_))))))
 obtain ⟨m,hm⟩:=ZY (xs:=us) (i:=g.1) om
 obtain ⟨bb3,oo3,rfl⟩:=hu.base hm
 obtain ⟨_,⟨rfl,hb4,hb4b⟩,hc4⟩:=hu.elem hm
 refine xIx Tryz.underlying23 Zbq (h:=yL [_,_,_] Zfv hc4 0 (h:=xAl [_,_,_] Zeo (h:=fun b5=>xS [_,_,_] 0 [_,_,_] Zbq (h:=tL1 (Zc (Z2 (same _ _) mo kr ⟨rfl,rfl⟩ (fun _ _=>?_)))))))
 refine aW 0 rfl Zbi (h:=aT 1 rfl (Zae fun D=>Zo rfl rfl lk9 rfl (atL 0 rfl rfl rfl) r4) (h:=aT 2 rfl (Zae fun D=>Z7 rfl rfl ZmX rfl (ZcM _ om2 _) r4) (h:=?_)))
 refine aN 3 rfl (h:=aM 4 rfl (h:=ZaK (d:=19) rfl (fun g2=>?_) (fun g2=>?_)))
 try simp only [sQ,ne_eq] at g2
 refine aZ 5 rfl (h:=aZ 6 rfl (h:=aZ 7 rfl (h:=aPT 8 rfl (h:=aM 9 rfl (h:=aZ 10 rfl (h:=aZ 11 rfl (h:=aZ 12 rfl (h:=aZ 13 rfl (h:=aPT 14 rfl (h:=aM 15 rfl (h:=aZ 16 rfl (h:=aZ 17 rfl (h:=aZ 18 rfl (h:=aZ 19 rfl (h:=aPT 20 rfl (h:=aM 21 rfl (h:=aZ 22 rfl (h:=aZ 23 rfl (h:=aZ 24 rfl (h:=aZ 25 rfl (h:=aZ 26 rfl (h:=aZ 27 rfl (h:=aZ 28 rfl (h:=aZ 29 rfl (h:=aZ 30 rfl (h:=aZ 31 rfl (h:=aZ 32 rfl (h:=aZ 33 rfl (h:=aZ 34 rfl (h:=aPT 35 rfl (h:=Zu kr kr ?_)))))))))))))))))))))))))))))))
 refine Zp (Zb (t:=true) rfl (fun _=>Za (xA (h:=Zd (ZB (Zm (ZM (ZB (Zm ?_)))))))) (fun h=>Bool.noConfusion h))
 exact eR t1 ⟨Ze (Zdq hm hs (by simp [ZeU,Zc7,anyone,g1,g2])).symm,rfl,rfl⟩
 try simp only [sQ,ne_eq] at g2
 refine aW 5 rfl Zbi (h:=aT 6 rfl (Zae fun D=>Zo rfl rfl lk9 rfl (atL 0 rfl rfl rfl) r4) (h:=ZrX 7 rfl (h:=aPF 8 rfl (h:=aM 9 rfl (h:=ZaK (d:=24) rfl (fun g3=>?_) (fun g3=>?_))))))
 try simp only [sQ,ne_eq] at g3
 refine aZ 10 rfl (h:=aZ 11 rfl (h:=aZ 12 rfl (h:=aZ 13 rfl (h:=aPT 14 rfl (h:=aM 15 rfl (h:=aZ 16 rfl (h:=aZ 17 rfl (h:=aZ 18 rfl (h:=aZ 19 rfl (h:=aPT 20 rfl (h:=aM 21 rfl (h:=aZ 22 rfl (h:=aZ 23 rfl (h:=aZ 24 rfl (h:=aZ 25 rfl (h:=aZ 26 rfl (h:=aZ 27 rfl (h:=aZ 28 rfl (h:=aZ 29 rfl (h:=aZ 30 rfl (h:=aZ 31 rfl (h:=aZ 32 rfl (h:=aZ 33 rfl (h:=aZ 34 rfl (h:=aPT 35 rfl (h:=Zu kr kr ?_))))))))))))))))))))))))))
 refine Zp (Zb (t:=true) rfl (fun _=>Za (xA (h:=Zd (ZB (Zm (ZM (ZB (Zm ?_)))))))) (fun h=>Bool.noConfusion h))
 exact eR t1 ⟨Ze (Zdq hm hs (by simp [ZeU,Zc7,anyone,g1,g2,g3])).symm,rfl,rfl⟩
 try simp only [sQ,ne_eq] at g3
 refine aW 10 rfl ZfZ (h:=aT 11 rfl (Zae fun D=>Zo rfl rfl lk9 rfl (atL 0 rfl rfl rfl) r4) (h:=aT 12 rfl (Zae fun D=>Z7 rfl rfl ZmX rfl (ZcM _ om2 _) r4) (h:=?_)))
 refine aN 13 rfl (h:=aPF 14 rfl (h:=aM 15 rfl (h:=ZaK (d:=30) rfl (fun g4=>?_) (fun g4=>?_))))
 try simp only [sQ,ne_eq] at g4
 refine aZ 16 rfl (h:=aZ 17 rfl (h:=aZ 18 rfl (h:=aZ 19 rfl (h:=aPT 20 rfl (h:=aM 21 rfl (h:=aZ 22 rfl (h:=aZ 23 rfl (h:=aZ 24 rfl (h:=aZ 25 rfl (h:=aZ 26 rfl (h:=aZ 27 rfl (h:=aZ 28 rfl (h:=aZ 29 rfl (h:=aZ 30 rfl (h:=aZ 31 rfl (h:=aZ 32 rfl (h:=aZ 33 rfl (h:=aZ 34 rfl (h:=aPT 35 rfl (h:=Zu kr kr ?_))))))))))))))))))))
 refine Zp (Zb (t:=true) rfl (fun _=>Za (xA (h:=Zd (ZB (Zm (ZM (ZB (Zm ?_)))))))) (fun h=>Bool.noConfusion h))
 exact eR t1 ⟨Ze (Zdq hm hs (by simp [ZeU,Zc7,anyone,g1,g2,g3,g4])).symm,rfl,rfl⟩
 try simp only [sQ,ne_eq] at g4
 refine aW 16 rfl ZdD (h:=aT 17 rfl (Zae fun D=>Zo rfl rfl lk3 rfl (atL 0 rfl rfl rfl) r4) (h:=aT 18 rfl (Zae fun D=>Z7 rfl rfl Zfw rfl (Zc9 _ _ _ _) r4) (h:=aN 19 rfl (h:=aPF 20 rfl (h:=aM 21 rfl (h:=ZaK (d:=36) rfl (fun g5=>?_) (fun g5=>?_)))))))
 try simp only [sQ,ne_eq] at g5
 refine aZ 22 rfl (h:=aZ 23 rfl (h:=aZ 24 rfl (h:=aZ 25 rfl (h:=aZ 26 rfl (h:=aZ 27 rfl (h:=aZ 28 rfl (h:=aZ 29 rfl (h:=aZ 30 rfl (h:=aZ 31 rfl (h:=aZ 32 rfl (h:=aZ 33 rfl (h:=aZ 34 rfl (h:=aPT 35 rfl (h:=Zu kr kr ?_))))))))))))))
 refine Zp (Zb (t:=true) rfl (fun _=>Za (xA (h:=Zd (ZB (Zm (ZM (ZB (Zm ?_)))))))) (fun h=>Bool.noConfusion h))
 exact eR t1 ⟨Ze (Zdq hm hs (by simp [ZeU,Zc7,anyone,g1,g2,g3,g4,g5])).symm,rfl,rfl⟩
 try simp only [sQ,ne_eq] at g5
 refine aM 22 rfl (h:=Zo9 23 rfl (h:=aM 24 rfl (h:=ZaK (d:=39) rfl (fun g6=>?_) (fun g6=>?_))))
 try simp only [sQ,ne_eq] at g6
 refine aM 25 rfl (h:=aM 26 rfl (h:=aU 27 rfl (h:=?_)))
 obtain ⟨y,hy⟩:=ZtF (xs:=us) (i:=(↑g.1 - 1)) om om
 obtain ⟨_,⟨rfl,hb10,hb10b⟩,hc10⟩:=hu.elem hy
 refine aIx 28 rfl Tryz.underlying23 Zbq (h:=?_)
 have hpe:=hp.at hy oz
 refine aW 29 rfl Zbi (h:=aT 30 rfl (Zae fun D=>Zo rfl rfl lk9 rfl (hc10 _ 0 _ rfl) r4) (h:=aW 31 rfl Zbi (h:=aT 32 rfl (Zae fun D=>Zo rfl rfl lk9 rfl (atL 0 rfl rfl rfl) r4) (h:=aT 33 rfl (Zae fun D=>Zuk rfl rfl rfl rfl r4) (h:=aPT 34 rfl (h:=aPF 35 rfl (h:=Zu kr kr ?_)))))))
 refine Zp (Zb rfl (fun g7=>?_) (fun g7=>?_))
 try simp only [sQ,ne_eq] at g7
 refine Za (xA (h:=Zd (ZB (Zm (ZM (ZB (Zm ?_)))))))
 exact eR t1 ⟨Ze (Zdq hm hs (by simp [ZeU,Zc7,anyone,g1,g2,g3,g4,g5,g6,g7,hpe])).symm,rfl,rfl⟩
 try simp only [sQ,ne_eq] at g7
 refine ZS (ZK (Zp (Zf (xM (h:=xD (h:=xA (h:=?_)))))))
 exact ZC (g.1+1,m.name) [] so2 ⟨rfl,oz,ZcV hm hs (by rw [hpe];simp [ZeU,Zc7,anyone,g2,g3,g4,g7];simp at g5;omega),.succ hm⟩ t2 rfl
 try simp only [sQ,ne_eq] at g6
 refine aZ 25 rfl (h:=aZ 26 rfl (h:=aZ 27 rfl (h:=aZ 28 rfl (h:=aZ 29 rfl (h:=aZ 30 rfl (h:=aZ 31 rfl (h:=aZ 32 rfl (h:=aZ 33 rfl (h:=aPF 34 rfl (h:=aPF 35 rfl (h:=Zu kr kr ?_)))))))))))
 refine Zp (Zb (t:=false) rfl (fun h=>Bool.noConfusion h) (fun _=>ZS (ZK (Zp (Zf (xM (h:=xD (h:=xA (h:=?_)))))))))
 exact ZC (g.1+1,m.name) [] so2 ⟨rfl,oz,ZcV hm hs (by rw [hp.at0 oz];simp [ZeU,Zc7,anyone,g2,g3,g4,ZnB (Zi1 g2)];simp at g5;omega),.succ hm⟩ t2 rfl
 try simp only [sQ,ne_eq] at g1
 refine ZE (ZV (ZG (Zt (Zp (Za (xM (h:=xV Tryz.underlying23 (h:=xR Zfw rfl (Zc9 _ _ _ _) (h:=xA (h:=Zd ?_))))))))))
 exact eR t1 ⟨Ze (by rw [ZhL (Zey hs oz),Bool.eq_iff_iff];simp;omega),rfl,rfl⟩

theorem ZpY (q:Option Addr) (cp:Nat) (gs:List DGrant) (B:Kn) (hg:SlK B q cp 2 Z8 gs):Zac (pj J) 161 [.slice q gs.length cp] B (.bool (Zdh gs)):=by
 refine cB 47 Tryz.func161 (h:=?_)
 have hgn:=hg.len
 refine Za (xA (h:=Zc (Za (xA (h:=Zg (Zz (α:=Nat × Str) [0] (fun g=>[(3,.int .i64 g.1)]) [] (fun g=>[]) (fun g Bx=>Bx=B∧g.1≤gs.length∧Zc0 (gs.take g.1)=(true,g.2)∧Prev (fun y=>y.user) ([]:Str) gs g.1 g.2) (fun g=>gs.length - g.1) (0,[]) t1 rfl (⟨rfl,Nat.zero_le _,ZfR,.zero⟩) (fun g B1 hle1 hI=>?_)))))))
 obtain ⟨rfl,hk,hs,hp⟩:=hI
 refine ZD [(0,_),(3,_)] [] t2 rfl (Zc (Za (xM (h:=xM (h:=xV Tryz.underlying94 (h:=ZF (h:=Zb rfl (fun g1=>?_) (fun g1=>?_))))))))
 try simp only [sQ,ne_eq] at g1
 refine wSk (Zc (Zg (Zc (Z2 (same _ _) mo kr ⟨rfl,rfl⟩ (fun _ _=>?_)))))
 refine aM 0 rfl (h:=aM 1 rfl (h:=?_))
 obtain ⟨m,hm⟩:=ZY (xs:=gs) (i:=g.1) om
 obtain ⟨bb3,oo3,rfl⟩:=hg.base hm
 obtain ⟨_,⟨rfl,hb4⟩,hc4⟩:=hg.elem hm
 refine aIx 2 rfl Tryz.underlying94 Zd0 (h:=aW 3 rfl Zcz (h:=aT 4 rfl (Zae fun D=>Zo rfl rfl lk9 rfl (hc4 _ 0 _ rfl) r4) (h:=aT 5 rfl (Zae fun D=>Z7 rfl rfl ZmX rfl (ZcM _ om2 _) r4) (h:=?_))))
 refine aN 6 rfl (h:=aM 7 rfl (h:=ZaK (d:=17) rfl (fun g2=>?_) (fun g2=>?_)))
 try simp only [sQ,ne_eq] at g2
 refine aZ 8 rfl (h:=aZ 9 rfl (h:=aZ 10 rfl (h:=aZ 11 rfl (h:=aZ 12 rfl (h:=aZ 13 rfl (h:=aZ 14 rfl (h:=aPT 15 rfl (h:=aM 16 rfl (h:=aZ 17 rfl (h:=aZ 18 rfl (h:=aZ 19 rfl (h:=aZ 20 rfl (h:=aZ 21 rfl (h:=aZ 22 rfl (h:=aZ 23 rfl (h:=aZ 24 rfl (h:=aZ 25 rfl (h:=aZ 26 rfl (h:=aZ 27 rfl (h:=aZ 28 rfl (h:=aZ 29 rfl (h:=aZ 30 rfl (h:=aZ 31 rfl (h:=aZ 32 rfl (h:=aPT 33 rfl (h:=Zu kr kr ?_))))))))))))))))))))))))))
 refine Zp (Zb (t:=true) rfl (fun _=>Za (xA (h:=Zd (ZB (Zm (ZM (ZB (Zm ?_)))))))) (fun h=>Bool.noConfusion h))
 exact eR t1 ⟨Ze (ZdL hm hs (by simp [Zcm,g1,g2])).symm,rfl,rfl⟩
 try simp only [sQ,ne_eq] at g2
 refine aM 8 rfl (h:=aM 9 rfl (h:=aIx 10 rfl Tryz.underlying94 Zd0 (h:=aW 11 rfl ZdC (h:=aT 12 rfl (Zae fun D=>Zo rfl rfl lk3 rfl (hc4 _ 1 _ rfl) r4) (h:=aT 13 rfl (Zae fun D=>Z7 rfl rfl Zfw rfl (Zc9 _ _ _ _) r4) (h:=aN 14 rfl (h:=aPF 15 rfl (h:=aM 16 rfl (h:=ZaK (d:=26) rfl (fun g4=>?_) (fun g4=>?_))))))))))
 try simp only [sQ,ne_eq] at g4
 refine aZ 17 rfl (h:=aZ 18 rfl (h:=aZ 19 rfl (h:=aZ 20 rfl (h:=aZ 21 rfl (h:=aZ 22 rfl (h:=aZ 23 rfl (h:=aZ 24 rfl (h:=aZ 25 rfl (h:=aZ 26 rfl (h:=aZ 27 rfl (h:=aZ 28 rfl (h:=aZ 29 rfl (h:=aZ 30 rfl (h:=aZ 31 rfl (h:=aZ 32 rfl (h:=aPT 33 rfl (h:=Zu kr kr ?_)))))))))))))))))
 refine Zp (Zb (t:=true) rfl (fun _=>Za (xA (h:=Zd (ZB (Zm (ZM (ZB (Zm ?_)))))))) (fun h=>Bool.noConfusion h))
 exact eR t1 ⟨Ze (ZdL hm hs (by simp [Zcm,g1,g2,g4])).symm,rfl,rfl⟩
 try simp only [sQ,ne_eq] at g4
 refine aM 17 rfl (h:=Zo9 18 rfl (h:=aM 19 rfl (h:=ZaK (d:=29) rfl (fun g6=>?_) (fun g6=>?_))))
 try simp only [sQ,ne_eq] at g6
 refine aM 20 rfl (h:=aM 21 rfl (h:=aU 22 rfl (h:=?_)))
 obtain ⟨y,hy⟩:=ZtF (xs:=gs) (i:=(↑g.1 - 1)) om om
 obtain ⟨_,⟨rfl,hb8⟩,hc8⟩:=hg.elem hy
 refine aIx 23 rfl Tryz.underlying94 Zd0 (h:=?_)
 have hpe:=hp.at hy oz
 refine aW 24 rfl Zcz (h:=aT 25 rfl (Zae fun D=>Zo rfl rfl lk9 rfl (hc8 _ 0 _ rfl) r4) (h:=aM 26 rfl (h:=aM 27 rfl (h:=aIx 28 rfl Tryz.underlying94 Zd0 (h:=aW 29 rfl Zcz (h:=aT 30 rfl (Zae fun D=>Zo rfl rfl lk9 rfl (hc4 _ 0 _ rfl) r4) (h:=aT 31 rfl (Zae fun D=>Zuk rfl rfl rfl rfl r4) (h:=aPT 32 rfl (h:=aPF 33 rfl (h:=Zu kr kr ?_))))))))))
 refine Zp (Zb rfl (fun g7=>?_) (fun g7=>?_))
 try simp only [sQ,ne_eq] at g7
 refine Za (xA (h:=Zd (ZB (Zm (ZM (ZB (Zm ?_)))))))
 exact eR t1 ⟨Ze (ZdL hm hs (by simp [Zcm,g1,g2,g4,g6,g7,hpe])).symm,rfl,rfl⟩
 try simp only [sQ,ne_eq] at g7
 refine ZS (ZK (Zp (Zf (xM (h:=xD (h:=xA (h:=?_)))))))
 exact ZC (g.1+1,m.user) [] so2 ⟨rfl,oz,ZcV hm hs (by rw [hpe];simp [Zcm,g2,g7];simp at g4;omega),.succ hm⟩ t2 rfl
 try simp only [sQ,ne_eq] at g6
 refine aZ 20 rfl (h:=aZ 21 rfl (h:=aZ 22 rfl (h:=aZ 23 rfl (h:=aZ 24 rfl (h:=aZ 25 rfl (h:=aZ 26 rfl (h:=aZ 27 rfl (h:=aZ 28 rfl (h:=aZ 29 rfl (h:=aZ 30 rfl (h:=aZ 31 rfl (h:=aPF 32 rfl (h:=aPF 33 rfl (h:=Zu kr kr ?_))))))))))))))
 refine Zp (Zb (t:=false) rfl (fun h=>Bool.noConfusion h) (fun _=>ZS (ZK (Zp (Zf (xM (h:=xD (h:=xA (h:=?_)))))))))
 exact ZC (g.1+1,m.user) [] so2 ⟨rfl,oz,ZcV hm hs (by rw [hp.at0 oz];simp [Zcm,g2,ZnB (Zi1 g2)];simp at g4;omega),.succ hm⟩ t2 rfl
 try simp only [sQ,ne_eq] at g1
 refine ZE (ZV (ZG (Zt (Zp (Za (xM (h:=xV Tryz.underlying94 (h:=Zb4 (h:=xA (h:=Zd ?_))))))))))
 exact eR t1 ⟨Ze (by rw [ZlP (Zey hs oz),Bool.eq_iff_iff];simp;try omega),rfl,rfl⟩

theorem ZoF (q1 q2 q3:Option Addr) (c1 c2 c3:Nat) (x:DHost) (q:Option Addr) (cp:Nat) (ns:List Str) (B:Kn) (hu:SlK B q1 c1 3 Zn x.users) (hn:SlK B q cp 1 ZdM ns):Zac (pj J) 97 [.agg #[str x.domain,.slice q1 x.users.length c1,.slice q2 x.folders.length c2,.int .i64 x.queue.next,.slice q3 x.queue.items.length c3],.slice q ns.length cp] B (.bool (Zld x.users ns)):=by
 refine cB 20 Tryz.func97 (h:=?_)
 have hnn:=hn.len
 have hun:=hu.len
 refine Za (xBx [_,_,_,_,_] (h:=fun b1=>xA (h:=tL1 (Zc (Za (xA (h:=Zg (Zz (α:=Nat) [0,1,2] (fun k=>[(5,.int .i64 k)]) [] (fun k=>[]) (fun k Bx=>Bx=B∧k≤ns.length∧∀z,z∈ns.take k→decide (0≤Zee x.users z)=true) (fun k=>ns.length - k) 0 t1 rfl (⟨rfl,Nat.zero_le _,by simp⟩) (fun k B2 hle2 hI=>?_)))))))))
 obtain ⟨rfl,hk,ha⟩:=hI
 refine ZD [(0,_),(1,_),(2,_),(5,_)] [_] t4 rfl (Zc (Za (xM (h:=xM (h:=xV Tryz.underlying143 (h:=ZF (h:=Zb rfl (fun g1=>?_) (fun g1=>?_))))))))
 try simp only [sQ,ne_eq] at g1
 refine wSk (Zc (Zg (Zc (Z2 (same _ _) mo kr ⟨rfl,rfl⟩ (fun _ _=>?_)))))
 refine aW 0 rfl ZbL (h:=aT 1 rfl (Zae fun D=>Zo rfl rfl ZiE rfl (atL 0 rfl rfl rfl) r4) (h:=aM 2 rfl (h:=aM 3 rfl (h:=?_))))
 obtain ⟨z,hz⟩:=ZY (xs:=ns) (i:=k) om
 obtain ⟨bb4,oo4,rfl⟩:=hn.base hz
 obtain ⟨_,⟨rfl,hb5⟩,hc5⟩:=hn.elem hz
 refine aIx 4 rfl Tryz.underlying143 sz9 (h:=aT 5 rfl (Zae fun D=>Zo rfl rfl lk9 rfl (hc5 _ 0 _ rfl) r4) (h:=aT 6 rfl (Zae fun D=>Z7 rfl rfl ZxC rfl (Ze4 _ _ _ _ _ hu) r4) (h:=Zt8 7 rfl (h:=Zu kr kr ?_))))
 refine Zp (Zb rfl (fun g2=>?_) (fun g2=>?_))
 try simp only [sQ,ne_eq] at g2
 refine Za (xA (h:=Zd (ZB (Zm (ZM (ZB (Zm ?_)))))))
 exact eR t1 ⟨Ze (Zb2 hz (by simp;omega)).symm,rfl,rfl⟩
 try simp only [sQ,ne_eq] at g2
 refine ZS (ZK (Zp (Zf (xM (h:=xD (h:=xA (h:=?_)))))))
 exact ZC (k+1) [0] so2 ⟨rfl,oz,Za8 hz ha (by simp;omega)⟩ t4 rfl
 try simp only [sQ,ne_eq] at g1
 refine ZE (ZV (ZG (Zt (Zp (Za (xA (h:=Zd ?_)))))))
 exact eR t1 ⟨Ze (ZdX (Zbe oz ha)).symm,rfl,rfl⟩

theorem Zla (q1 q2 q3:Option Addr) (c1 c2 c3:Nat) (x:DHost) (u:Str) (B:Kn) (hf:SlK B q2 c2 5 Zk x.folders):Zac (pj J) 95 [.agg #[str x.domain,.slice q1 x.users.length c1,.slice q2 x.folders.length c2,.int .i64 x.queue.next,.slice q3 x.queue.items.length c3],str u] B (.int .i64 (ZbN x.folders u)):=by
 refine cB 32 Tryz.func95 (h:=?_)
 have hfn:=hf.len
 refine Za (xBx [_,_,_,_,_] (h:=fun b1=>xA (h:=tL1 (Za (xA (h:=Zc (Za (xA (h:=Zg (Zz (α:=Nat × Nat) [0,1,2,4] (fun g=>[(5,.int .i64 g.2),(6,.int .i64 g.1)]) [] (fun g=>[]) (fun g Bx=>Bx=B∧g.1≤x.folders.length∧g.2=ZbN (x.folders.take g.1) u∧g.2≤g.1*4000000000000) (fun g=>x.folders.length - g.1) (0,0) t2 rfl (⟨rfl,Nat.zero_le _,by simp [ZbN],oz⟩) (fun g B2 hle2 hI=>?_)))))))))))
 obtain ⟨rfl,hk,hs,hl⟩:=hI
 refine ZD [(0,_),(1,_),(2,_),(4,_),(5,_),(6,_)] [_] t6 rfl (Zc (Za (xM (h:=xW Zat (h:=x1 ZeB 0 (h:=xV Tryz.underlying24 (h:=ZF (h:=Zb rfl (fun g1=>?_) (fun g1=>?_)))))))))
 try simp only [sQ,ne_eq] at g1
 refine wSk (Zc (Zg (Za (xW Zat (h:=x1 ZeB 0 (h:=xM (h:=?_)))))))
 obtain ⟨m,hm⟩:=ZY (xs:=x.folders) (i:=g.1) om
 obtain ⟨bb4,oo4,rfl⟩:=hf.base hm
 obtain ⟨_,⟨qg5,cg5,qm5,cm5,rfl,hg5,hm5,hb5,hb5b⟩,hc5⟩:=hf.elem hm
 have hg5n:=hg5.len
 have hm5n:=hm5.len
 have hm5s:=Zao hm5
 refine xIx Tryz.underlying24 ZbM (h:=xW ZbW (h:=y1 lk9 hc5 0 (h:=xM (h:=Zd4 (h:=Zb rfl (fun g2=>?_) (fun g2=>?_))))))
 try simp only [sQ,ne_eq] at g2
 refine Zf (xM (h:=xW Zat (h:=x1 ZeB 0 (h:=xM (h:=xIx Tryz.underlying24 ZbM (h:=xW Zbv (h:=yL [_,_] Zfl hc5 3 (h:=xR Zz8 rfl (ZqF _ _ (⟨m.next,m.mail⟩:DBox) _ hm5) (h:=xD (h:=xA (h:=ZK (Zp (Zf (xM (h:=xD (h:=xA (h:=?_)))))))))))))))))
 exact ZC (g.1+1,g.2+ZaL m.mail) [0] so2 ⟨rfl,so,by rw [ZiP hm,← hs,if_pos g2],so⟩ t6 rfl
 try simp only [sQ,ne_eq] at g2
 refine ZS (ZK (Zp (Zf (xM (h:=xD (h:=xA (h:=?_)))))))
 exact ZC (g.1+1,g.2) [0] so2 ⟨rfl,so,by rw [ZiP hm,← hs,if_neg g2];simp only [Nat.add_zero],Nat.le_trans hl (Nat.mul_le_mul_right _ (Nat.le_succ _))⟩ t6 rfl
 try simp only [sQ,ne_eq] at g1
 refine ZE (ZV (ZG (Zt (Zp (Za (xM (h:=xA (h:=Zd ?_))))))))
 exact eR t1 ⟨ZH (by rw [← ZpD hs oz]),rfl,rfl⟩

end Go.Proofs.YtkppijmhadbpdaaGreatDoor
