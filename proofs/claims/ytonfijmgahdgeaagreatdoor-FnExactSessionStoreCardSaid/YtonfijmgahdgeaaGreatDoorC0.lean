/-
  WHAT THE FUNCTIONS THAT THE LAWS REACH COMPUTE: each function's contract, proved off its printed body (the text is written by program). No condition beyond those that each theorem states.
-/
import Derived.Test.YtonfijmgahdgeaaGreatDoorRows
import Derived.Test.YtonfijmgahdgeaaGreatDoorL0
import Derived.KernelRfl
namespace Go.Proofs.YtonfijmgahdgeaaGreatDoor
open Go Go.BL
set_option linter.unusedVariables false
set_option linter.unusedSimpArgs false
noncomputable abbrev pj (J : JoinT) : PJ := ⟨Tryz.prog, J⟩
noncomputable abbrev wgL : Go.Conc.Lib.WgLink := { add := 176, done := 178, wait := 182, relMerge := 214, disable := 215, enable := 216, inBubble := 217, associate := 218, fatal := 219, uOr := 220, uAdd := 221, raceRead := 222, uLoad := 223, uStore := 224, disassociate := 225, semrelease := 226, acquire := 229, isAssociated := 230, uCas := 231, raceWrite := 232, semacquire := 233, orU64 := 254, addU64 := 255, loadU64 := 256, storeU64 := 257, casU64 := 261, tWg := 262, tUP := 290, tAssoc := 291, tAU := 260, tU64 := 258, tUint := 295, tU32 := 157, tNoCopy := 156, tANoCopy := 256, tAlign64 := 257, tWgP := 288, tPU32 := 296, tPAU := 348, tPU64 := 350 }
theorem ZlT : Go.Conc.Lib.WgLib Tryz.prog wgL :=
  ⟨Tryz.func176, Tryz.func178, Tryz.func182, Tryz.func214, Tryz.func215, Tryz.func216, Tryz.func217, Tryz.func218, Tryz.func219, Tryz.func220, Tryz.func221, Tryz.func222, Tryz.func223, Tryz.func224, Tryz.func225, Tryz.func226, Tryz.func229, Tryz.func230, Tryz.func231, Tryz.func232, Tryz.func233, Tryz.func254, Tryz.func255, Tryz.func256, Tryz.func257, Tryz.func261, Tryz.underlying288, Tryz.runUnderlying288, Tryz.sizeOf288, Tryz.isAgg288, Tryz.zeroValue288, Tryz.underlying290, Tryz.runUnderlying290, Tryz.sizeOf290, Tryz.isAgg290, Tryz.zeroValue290, Tryz.underlying291, Tryz.runUnderlying291, Tryz.sizeOf291, Tryz.isAgg291, Tryz.zeroValue291, Tryz.underlying262, Tryz.runUnderlying262, Tryz.sizeOf262, Tryz.isAgg262, Tryz.zeroValue262, Tryz.underlying260, Tryz.runUnderlying260, Tryz.sizeOf260, Tryz.isAgg260, Tryz.zeroValue260, Tryz.underlying258, Tryz.runUnderlying258, Tryz.sizeOf258, Tryz.isAgg258, Tryz.zeroValue258, Tryz.underlying295, Tryz.runUnderlying295, Tryz.sizeOf295, Tryz.isAgg295, Tryz.zeroValue295, Tryz.underlying157, Tryz.runUnderlying157, Tryz.sizeOf157, Tryz.isAgg157, Tryz.zeroValue157, Tryz.underlying296, Tryz.runUnderlying296, Tryz.sizeOf296, Tryz.isAgg296, Tryz.zeroValue296, Tryz.underlying348, Tryz.runUnderlying348, Tryz.sizeOf348, Tryz.isAgg348, Tryz.zeroValue348, Tryz.underlying350, Tryz.runUnderlying350, Tryz.sizeOf350, Tryz.isAgg350, Tryz.zeroValue350, Tryz.underlying0, Tryz.runUnderlying0, Tryz.sizeOf0, Tryz.isAgg0, Tryz.zeroValue0, Tryz.underlying3, Tryz.runUnderlying3, Tryz.sizeOf3, Tryz.isAgg3, Tryz.zeroValue3, Tryz.underlying4, Tryz.runUnderlying4, Tryz.sizeOf4, Tryz.isAgg4, Tryz.zeroValue4, Tryz.underlying9, Tryz.runUnderlying9, Tryz.sizeOf9, Tryz.isAgg9, Tryz.zeroValue9, Tryz.underlying20, Tryz.runUnderlying20, Tryz.sizeOf20, Tryz.isAgg20, Tryz.zeroValue20, Tryz.underlying21, Tryz.runUnderlying21, Tryz.sizeOf21, Tryz.isAgg21, Tryz.zeroValue21, (by kernel_rfl), (by kernel_rfl)⟩
abbrev muL : Go.Conc.Locks.MuLink := { lock := 144, unlock := 145, ilock := 189, iunlock := 190, lockSlow := 242, unlockSlow := 244, disable := 215, enable := 216, acquire := 229, relMerge := 214, cas32 := 241, add32 := 243, tMutex := 161, tIMutex := 159, tPMutex := 269, tPIMutex := 319, tPI32 := 321, tUP := 290, tNoCopy := 156, tU32 := 157 }
theorem Zs1 : Go.Conc.Locks.MuLib Tryz.prog muL :=
  ⟨Tryz.func144, Tryz.func145, Tryz.func189, Tryz.func190, Tryz.func215, Tryz.func216, Tryz.func229, Tryz.func214, Tryz.func241, Tryz.func243, Tryz.underlying159, Tryz.runUnderlying159, Tryz.sizeOf159, Tryz.isAgg159, Tryz.zeroValue159, Tryz.underlying161, Tryz.runUnderlying161, Tryz.sizeOf161, Tryz.isAgg161, Tryz.zeroValue161, Tryz.underlying269, Tryz.runUnderlying269, Tryz.sizeOf269, Tryz.isAgg269, Tryz.zeroValue269, Tryz.underlying319, Tryz.runUnderlying319, Tryz.sizeOf319, Tryz.isAgg319, Tryz.zeroValue319, Tryz.underlying321, Tryz.runUnderlying321, Tryz.sizeOf321, Tryz.isAgg321, Tryz.zeroValue321, Tryz.underlying290, Tryz.runUnderlying290, Tryz.sizeOf290, Tryz.isAgg290, Tryz.zeroValue290, Tryz.underlying156, Tryz.runUnderlying156, Tryz.sizeOf156, Tryz.isAgg156, Tryz.zeroValue156, Tryz.underlying21, Tryz.runUnderlying21, Tryz.sizeOf21, Tryz.isAgg21, Tryz.zeroValue21, (by kernel_rfl)⟩
theorem Zj0 : enters Tryz.prog 33 = true := by kernel_rfl
theorem mo : Tryz.prog.follows .mixedOrders = true := by kernel_rfl
theorem Zb8 : Zt Tryz.prog 250 1 = some 1 := by kernel_rfl
theorem lk3 : lk Tryz.prog 3 = some none := by kernel_rfl
theorem ZgU : Zt Tryz.prog 250 0 = some 0 := by kernel_rfl
theorem lk9 : lk Tryz.prog 9 = some none := by kernel_rfl
theorem ZtF : enters Tryz.prog 171 = true := by kernel_rfl
theorem sz3 : ZQ Tryz.prog 3 = some 1 := by kernel_rfl
theorem Zzl : enters Tryz.prog 249 = true := by kernel_rfl
theorem ZvY : enters Tryz.prog 208 = true := by kernel_rfl
theorem Zzz : enters Tryz.prog 209 = true := by kernel_rfl
theorem ZwV : Zbe Tryz.prog 250 = some [(0, 1), (1, 1)] := by kernel_rfl
theorem Zr1 : Zak Tryz.prog 250 = some (.agg #[.string ⟨#[]⟩, .int .i64 0]) := by kernel_rfl
theorem ZwP : ZQ Tryz.prog 250 = some 2 := by kernel_rfl
theorem sz9 : ZQ Tryz.prog 9 = some 1 := by kernel_rfl
theorem zo9 : Zak Tryz.prog 9 = some (.string ⟨#[]⟩) := by kernel_rfl
theorem Zrp : ZcC Tryz.prog 134 9 1 16 = true := by kernel_rfl
theorem ZsA : (match Program.underlying Tryz.prog 134 with | some (.slice _) => true | _ => false) = true := by kernel_rfl
theorem ZAu : enters Tryz.prog 119 = true := by kernel_rfl
theorem ZmZ : enters Tryz.prog 120 = true := by kernel_rfl
theorem Zbr : ZQ Tryz.prog 132 = some 3 := by kernel_rfl
theorem Zbg : Zt Tryz.prog 132 0 = some 0 := by kernel_rfl
theorem ZzB : enters Tryz.prog 205 = true := by kernel_rfl
theorem ZqU : Zt Tryz.prog 201 0 = some 0 := by kernel_rfl
theorem ZmR : Zt Tryz.prog 201 1 = some 1 := by kernel_rfl
theorem ZfV : lk Tryz.prog 134 = some none := by kernel_rfl
theorem ZzY : enters Tryz.prog 165 = true := by kernel_rfl
theorem ZqT : Zt Tryz.prog 201 2 = some 2 := by kernel_rfl
theorem Zzc : enters Tryz.prog 281 = true := by kernel_rfl
theorem Zlw : enters Tryz.prog 180 = true := by kernel_rfl
theorem Zzk : enters Tryz.prog 250 = true := by kernel_rfl
theorem Zzy : enters Tryz.prog 210 = true := by kernel_rfl
theorem ZbT : Zt Tryz.prog 39 1 = some 1 := by kernel_rfl
theorem ZiZ : lk Tryz.prog 37 = some none := by kernel_rfl
theorem ZbA : ZQ Tryz.prog 136 = some 4 := by kernel_rfl
theorem ZeX : lk Tryz.prog 136 = some (some 4) := by kernel_rfl
theorem Zft : Zak Tryz.prog 136 = some (.agg #[.int .i64 0, .string ⟨#[]⟩, .string ⟨#[]⟩, .slice none 0 0]) := by kernel_rfl
theorem ZeB : Zt Tryz.prog 136 0 = some 0 := by kernel_rfl
theorem ZeA : Zt Tryz.prog 136 1 = some 1 := by kernel_rfl
theorem ZcM : Zt Tryz.prog 136 3 = some 3 := by kernel_rfl
theorem ZfZ : Zt Tryz.prog 136 2 = some 2 := by kernel_rfl
theorem ZwW : Zbe Tryz.prog 201 = some [(0, 1), (1, 1), (2, 1)] := by kernel_rfl
theorem Zwj : Zak Tryz.prog 201 = some (.agg #[.string ⟨#[]⟩, .slice none 0 0, .string ⟨#[]⟩]) := by kernel_rfl
theorem ZAt : enters Tryz.prog 121 = true := by kernel_rfl
theorem Zgt : Zt Tryz.prog 39 0 = some 0 := by kernel_rfl
theorem Zr0 : Zak Tryz.prog 39 = some (.agg #[.int .i64 0, .slice none 0 0]) := by kernel_rfl
theorem ZAR : Zbe Tryz.prog 39 = some [(0, 1), (1, 1)] := by kernel_rfl
theorem ZuU : ZQ Tryz.prog 39 = some 2 := by kernel_rfl
theorem ZuW : ZQ Tryz.prog 134 = some 1 := by kernel_rfl
theorem ZyZ : ZcC Tryz.prog 37 136 4 64 = true := by kernel_rfl
theorem ZAP : (match Program.underlying Tryz.prog 37 with | some (.slice _) => true | _ => false) = true := by kernel_rfl
theorem ZyA : ZQ Tryz.prog 37 = some 1 := by kernel_rfl
theorem ZlR : lk Tryz.prog 39 = some (some 2) := by kernel_rfl
theorem Zyf : Zak Tryz.prog 267 = some (.pointer none) := by kernel_rfl
theorem Zzp : enters Tryz.prog 239 = true := by kernel_rfl
theorem Zzd : enters Tryz.prog 263 = true := by kernel_rfl
theorem Zvi : lk Tryz.prog 267 = some none := by kernel_rfl
theorem Zzo : enters Tryz.prog 240 = true := by kernel_rfl
theorem ZyF : Zbe Tryz.prog 314 = some [(0, 4), (4, 1)] := by kernel_rfl
theorem Zye : Zak Tryz.prog 314 = some (.agg #[.int .i64 0, .string ⟨#[]⟩, .string ⟨#[]⟩, .slice none 0 0, .pointer none]) := by kernel_rfl
theorem ZyB : ZQ Tryz.prog 267 = some 1 := by kernel_rfl
theorem ZvB : Zt Tryz.prog 314 0 = some 0 := by kernel_rfl
theorem ZvA : Zt Tryz.prog 314 1 = some 4 := by kernel_rfl
theorem ZzI : enters Tryz.prog 188 = true := by kernel_rfl
theorem ZzJ : enters Tryz.prog 187 = true := by kernel_rfl
theorem Zfv : lk Tryz.prog 285 = some none := by kernel_rfl
theorem zo3 : Zak Tryz.prog 3 = some (.int .i64 0) := by kernel_rfl
theorem Zy0 : ZcC Tryz.prog 285 3 1 8 = true := by kernel_rfl
theorem ZyE : (match Program.underlying Tryz.prog 285 with | some (.slice _) => true | _ => false) = true := by kernel_rfl
theorem ZwN : ZQ Tryz.prog 285 = some 1 := by kernel_rfl
theorem Zd7 : Zjz Tryz.prog 284 "Less" 323 false = true := by kernel_rfl
theorem Zrs : enters Tryz.prog 323 = true := by kernel_rfl
theorem Zd6 : Zjz Tryz.prog 284 "Swap" 326 false = true := by kernel_rfl
theorem Zrr : enters Tryz.prog 326 = true := by kernel_rfl
theorem Zoz : Zjz Tryz.prog 284 "Push" 325 true = true := by kernel_rfl
theorem Zy9 : enters Tryz.prog 325 = true := by kernel_rfl
theorem ZkW : Zjz Tryz.prog 284 "Len" 322 false = true := by kernel_rfl
theorem Zxy : enters Tryz.prog 322 = true := by kernel_rfl
theorem Zzj : enters Tryz.prog 251 = true := by kernel_rfl
theorem Zzi : enters Tryz.prog 252 = true := by kernel_rfl
theorem Zqh : Zjz Tryz.prog 284 "Pop" 324 true = true := by kernel_rfl
theorem Zza : enters Tryz.prog 324 = true := by kernel_rfl
theorem Zzx : enters Tryz.prog 211 = true := by kernel_rfl
theorem Zzw : enters Tryz.prog 212 = true := by kernel_rfl
theorem ZzR : enters Tryz.prog 173 = true := by kernel_rfl
theorem ZzQ : enters Tryz.prog 174 = true := by kernel_rfl
theorem Zc3 : Zt Tryz.prog 146 0 = some 0 := by kernel_rfl
theorem Zdy : Zt Tryz.prog 146 1 = some 1 := by kernel_rfl
theorem Zzb : enters Tryz.prog 32 = true := by kernel_rfl
theorem Zez : Zt Tryz.prog 146 2 = some 2 := by kernel_rfl
theorem ZvX : enters Tryz.prog 91 = true := by kernel_rfl
theorem Zbj : Zt Tryz.prog 82 1 = some 1 := by kernel_rfl
theorem ZhZ : lk Tryz.prog 80 = some none := by kernel_rfl
theorem ZcT : ZQ Tryz.prog 146 = some 3 := by kernel_rfl
theorem ZgO : lk Tryz.prog 146 = some (some 3) := by kernel_rfl
theorem ZAp : enters Tryz.prog 126 = true := by kernel_rfl
theorem ZfF : Zt Tryz.prog 82 0 = some 0 := by kernel_rfl
theorem Ziz : Zak Tryz.prog 146 = some (.agg #[.int .i64 0, .int .i64 0, .string ⟨#[]⟩]) := by kernel_rfl
theorem Zz8 : enters Tryz.prog 148 = true := by kernel_rfl
theorem ZeQ : lk Tryz.prog 82 = some (some 2) := by kernel_rfl
theorem Zy3 : enters Tryz.prog 96 = true := by kernel_rfl
theorem Zf0 : Zt Tryz.prog 132 1 = some 1 := by kernel_rfl
theorem ZdX : Zt Tryz.prog 132 2 = some 2 := by kernel_rfl
theorem Zfw : lk Tryz.prog 132 = some (some 3) := by kernel_rfl
theorem Zej : Zak Tryz.prog 132 = some (.agg #[.string ⟨#[]⟩, .string ⟨#[]⟩, .int .i64 0]) := by kernel_rfl
theorem ZzS : enters Tryz.prog 172 = true := by kernel_rfl
theorem ZxF : enters Tryz.prog 136 = true := by kernel_rfl
theorem ZyI : Zbe Tryz.prog 132 = some [(0, 1), (1, 1), (2, 1)] := by kernel_rfl
theorem Zzh : enters Tryz.prog 258 = true := by kernel_rfl
theorem Zzg : enters Tryz.prog 259 = true := by kernel_rfl
theorem Zcg : Zt Tryz.prog 41 1 = some 1 := by kernel_rfl
theorem ZjE : lk Tryz.prog 35 = some none := by kernel_rfl
theorem ZxA : enters Tryz.prog 227 = true := by kernel_rfl
theorem ZaA : Zt Tryz.prog 41 2 = some 2 := by kernel_rfl
theorem ZeS : lk Tryz.prog 36 = some none := by kernel_rfl
theorem Zb1 : ZQ Tryz.prog 87 = some 5 := by kernel_rfl
theorem Zcv : Zt Tryz.prog 87 0 = some 0 := by kernel_rfl
theorem Zea : Zt Tryz.prog 87 1 = some 1 := by kernel_rfl
theorem Ziy : lk Tryz.prog 87 = some (some 5) := by kernel_rfl
theorem Zzt : enters Tryz.prog 235 = true := by kernel_rfl
theorem Zzs : enters Tryz.prog 236 = true := by kernel_rfl
theorem ZeN : Zt Tryz.prog 41 3 = some 3 := by kernel_rfl
theorem ZtE : enters Tryz.prog 179 = true := by kernel_rfl
theorem ZdT : ZQ Tryz.prog 223 = some 2 := by kernel_rfl
theorem Zcw : Zt Tryz.prog 223 0 = some 0 := by kernel_rfl
theorem Zdx : Zt Tryz.prog 223 1 = some 1 := by kernel_rfl
theorem Zx8 : enters Tryz.prog 76 = true := by kernel_rfl
theorem Zbi : Zt Tryz.prog 87 3 = some 3 := by kernel_rfl
theorem ZAq : enters Tryz.prog 124 = true := by kernel_rfl
theorem Zgx : Zak Tryz.prog 87 = some (.agg #[.string ⟨#[]⟩, .string ⟨#[]⟩, .slice none 0 0, .int .i64 0, .slice none 0 0]) := by kernel_rfl
theorem Zd9 : Zt Tryz.prog 87 2 = some 2 := by kernel_rfl
theorem ZrY : lk Tryz.prog 85 = some none := by kernel_rfl
theorem ZAs : enters Tryz.prog 122 = true := by kernel_rfl
theorem ZA2 : enters Tryz.prog 81 = true := by kernel_rfl
theorem ZAr : enters Tryz.prog 123 = true := by kernel_rfl
theorem Zie : Zt Tryz.prog 41 0 = some 0 := by kernel_rfl
theorem ZBK : enters Tryz.prog 70 = true := by kernel_rfl
theorem ZBJ : enters Tryz.prog 71 = true := by kernel_rfl
theorem ZBI : enters Tryz.prog 72 = true := by kernel_rfl
theorem ZcK : lk Tryz.prog 41 = some (some 5) := by kernel_rfl
theorem ZBH : enters Tryz.prog 73 = true := by kernel_rfl
theorem ZA4 : enters Tryz.prog 74 = true := by kernel_rfl
theorem ZBG : enters Tryz.prog 75 = true := by kernel_rfl
theorem ZBF : enters Tryz.prog 77 = true := by kernel_rfl
theorem Zqs : lk Tryz.prog 223 = some (some 2) := by kernel_rfl
theorem Zn0 : Zak Tryz.prog 223 = some (.agg #[.string ⟨#[]⟩, .int .i64 0]) := by kernel_rfl
theorem Zzf : enters Tryz.prog 260 = true := by kernel_rfl
theorem Zxz : enters Tryz.prog 228 = true := by kernel_rfl
theorem Zxq : Extern.findNext Tryz.f253 = none := by kernel_rfl
theorem Zxr : Extern.find Tryz.f253 = some Extern.BytealgCompare.compare := by kernel_rfl
theorem Zzv : enters Tryz.prog 213 = true := by kernel_rfl
theorem ZxD : enters Tryz.prog 175 = true := by kernel_rfl
theorem Zze : enters Tryz.prog 262 = true := by kernel_rfl
theorem Zzr : enters Tryz.prog 237 = true := by kernel_rfl
theorem ZxC : enters Tryz.prog 184 = true := by kernel_rfl
theorem ZzL : enters Tryz.prog 185 = true := by kernel_rfl
theorem sz4 : ZQ Tryz.prog 4 = some 1 := by kernel_rfl
theorem lk4 : lk Tryz.prog 4 = some none := by kernel_rfl
theorem Zzu : enters Tryz.prog 234 = true := by kernel_rfl
theorem ZzT : enters Tryz.prog 170 = true := by kernel_rfl
theorem Zxa : lk Tryz.prog 192 = some none := by kernel_rfl
theorem ZyN : lk Tryz.prog 98 = some none := by kernel_rfl
theorem ZzO : enters Tryz.prog 181 = true := by kernel_rfl
theorem Zyg : Zak Tryz.prog 262 = some (.agg #[.int .u64 0, .int .u32 0]) := by kernel_rfl
theorem Zy1 : ZcC Tryz.prog 192 4 1 1 = true := by kernel_rfl
theorem zo4 : Zak Tryz.prog 4 = some (.bool false) := by kernel_rfl
theorem Zyh : Zak Tryz.prog 192 = some (.slice none 0 0) := by kernel_rfl
theorem ZyC : ZQ Tryz.prog 192 = some 1 := by kernel_rfl
theorem ZzP : enters Tryz.prog 176 = true := by kernel_rfl
theorem ZzN : enters Tryz.prog 182 = true := by kernel_rfl
theorem ZzM : enters Tryz.prog 183 = true := by kernel_rfl
theorem ZAh : enters Tryz.prog 135 = true := by kernel_rfl
theorem ZAg : enters Tryz.prog 137 = true := by kernel_rfl
theorem ZAf : enters Tryz.prog 138 = true := by kernel_rfl
theorem ZAe : enters Tryz.prog 139 = true := by kernel_rfl
theorem ZAd : enters Tryz.prog 140 = true := by kernel_rfl
theorem ZAc : enters Tryz.prog 141 = true := by kernel_rfl
theorem Zq8 : Zt Tryz.prog 119 0 = some 0 := by kernel_rfl
theorem Zq7 : Zt Tryz.prog 119 1 = some 1 := by kernel_rfl
theorem ZqS : Zt Tryz.prog 242 0 = some 0 := by kernel_rfl
theorem ZqR : Zt Tryz.prog 279 2 = some 2 := by kernel_rfl
theorem ZwT : ZQ Tryz.prog 119 = some 3 := by kernel_rfl
theorem Zxf : lk Tryz.prog 119 = some (some 3) := by kernel_rfl
theorem ZBN : enters Tryz.prog 67 = true := by kernel_rfl
theorem ZwQ : ZQ Tryz.prog 242 = some 2 := by kernel_rfl
theorem Zw8 : lk Tryz.prog 242 = some (some 2) := by kernel_rfl
theorem Zz1 : enters Tryz.prog 162 = true := by kernel_rfl
theorem ZwO : ZQ Tryz.prog 279 = some 3 := by kernel_rfl
theorem Zw7 : lk Tryz.prog 279 = some (some 3) := by kernel_rfl
theorem ZzC : enters Tryz.prog 204 = true := by kernel_rfl
theorem ZqX : Zt Tryz.prog 197 1 = some 1 := by kernel_rfl
theorem ZqW : Zt Tryz.prog 197 2 = some 2 := by kernel_rfl
theorem ZqV : Zt Tryz.prog 197 3 = some 3 := by kernel_rfl
theorem ZzZ : enters Tryz.prog 164 = true := by kernel_rfl
theorem ZwR : ZQ Tryz.prog 197 = some 4 := by kernel_rfl
theorem Zw9 : lk Tryz.prog 197 = some (some 4) := by kernel_rfl
theorem ZAv : enters Tryz.prog 118 = true := by kernel_rfl
theorem Zq6 : Zt Tryz.prog 124 1 = some 1 := by kernel_rfl
theorem Zxd : lk Tryz.prog 122 = some none := by kernel_rfl
theorem Zz0 : enters Tryz.prog 163 = true := by kernel_rfl
theorem Zux : Zt Tryz.prog 26 1 = some 1 := by kernel_rfl
theorem ZAU : lk Tryz.prog 24 = some none := by kernel_rfl
theorem ZBL : enters Tryz.prog 69 = true := by kernel_rfl
theorem Zq5 : Zt Tryz.prog 126 0 = some 0 := by kernel_rfl
theorem Zq4 : Zt Tryz.prog 126 1 = some 1 := by kernel_rfl
theorem Zq3 : Zt Tryz.prog 126 2 = some 2 := by kernel_rfl
theorem Zxe : lk Tryz.prog 121 = some none := by kernel_rfl
theorem ZAx : enters Tryz.prog 116 = true := by kernel_rfl
theorem Zq2 : Zt Tryz.prog 126 3 = some 3 := by kernel_rfl
theorem Zxc : lk Tryz.prog 124 = some (some 2) := by kernel_rfl
theorem ZAw : enters Tryz.prog 117 = true := by kernel_rfl
theorem ZwS : ZQ Tryz.prog 126 = some 5 := by kernel_rfl
theorem Zxb : lk Tryz.prog 126 = some (some 5) := by kernel_rfl
theorem ZBM : enters Tryz.prog 68 = true := by kernel_rfl
theorem Zuw : Zt Tryz.prog 28 0 = some 0 := by kernel_rfl
theorem Zuv : Zt Tryz.prog 28 1 = some 1 := by kernel_rfl
theorem ZAW : lk Tryz.prog 22 = some none := by kernel_rfl
theorem ZB7 : enters Tryz.prog 27 = true := by kernel_rfl
theorem Zuu : Zt Tryz.prog 28 2 = some 2 := by kernel_rfl
theorem ZAV : lk Tryz.prog 23 = some none := by kernel_rfl
theorem ZB6 : enters Tryz.prog 28 = true := by kernel_rfl
theorem Zut : Zt Tryz.prog 28 3 = some 3 := by kernel_rfl
theorem ZAT : lk Tryz.prog 26 = some (some 2) := by kernel_rfl
theorem ZB5 : enters Tryz.prog 29 = true := by kernel_rfl
theorem ZvH : Zt Tryz.prog 119 2 = some 2 := by kernel_rfl
theorem ZvE : Zt Tryz.prog 242 1 = some 1 := by kernel_rfl
theorem ZvD : Zt Tryz.prog 279 0 = some 0 := by kernel_rfl
theorem ZvC : Zt Tryz.prog 279 1 = some 1 := by kernel_rfl
theorem ZoY : ZcC Tryz.prog 35 132 3 40 = true := by kernel_rfl
theorem ZBA : enters Tryz.prog 86 = true := by kernel_rfl
theorem ZyY : ZcC Tryz.prog 85 223 2 24 = true := by kernel_rfl
theorem ZzW : enters Tryz.prog 167 = true := by kernel_rfl
theorem Zwi : Zak Tryz.prog 93 = some (.agg #[.int .i64 0, .int .i64 0]) := by kernel_rfl
theorem Zxo : Zt Tryz.prog 95 0 = some 0 := by kernel_rfl
theorem Zhl : Zt Tryz.prog 93 0 = some 0 := by kernel_rfl
theorem Zxn : Zt Tryz.prog 95 1 = some 1 := by kernel_rfl
theorem Zhk : Zt Tryz.prog 93 1 = some 1 := by kernel_rfl
theorem Zwg : lk Tryz.prog 93 = some (some 2) := by kernel_rfl
theorem Zl5 : ZQ Tryz.prog 93 = some 2 := by kernel_rfl
theorem ZBs : ZcC Tryz.prog 47 93 2 16 = true := by kernel_rfl
theorem ZBi : ZQ Tryz.prog 95 = some 2 := by kernel_rfl
theorem ZBq : lk Tryz.prog 95 = some (some 2) := by kernel_rfl
theorem ZBY : enters Tryz.prog 41 = true := by kernel_rfl
theorem Zxx : ZcC Tryz.prog 80 146 3 32 = true := by kernel_rfl
theorem ZzA : enters Tryz.prog 207 = true := by kernel_rfl
theorem ZvF : Zt Tryz.prog 197 0 = some 0 := by kernel_rfl
theorem ZzU : enters Tryz.prog 169 = true := by kernel_rfl
theorem ZAl : enters Tryz.prog 131 = true := by kernel_rfl
theorem Zxp : Zt Tryz.prog 26 0 = some 0 := by kernel_rfl
theorem ZBy : enters Tryz.prog 88 = true := by kernel_rfl
theorem Zix : Zak Tryz.prog 82 = some (.agg #[.int .i64 0, .slice none 0 0]) := by kernel_rfl
theorem ZvG : Zt Tryz.prog 124 0 = some 0 := by kernel_rfl
theorem ZzV : enters Tryz.prog 168 = true := by kernel_rfl
theorem ZAL : ZQ Tryz.prog 80 = some 1 := by kernel_rfl
theorem Zgy : ZQ Tryz.prog 82 = some 2 := by kernel_rfl
theorem ZAn : enters Tryz.prog 129 = true := by kernel_rfl
theorem Zyz : ZQ Tryz.prog 85 = some 1 := by kernel_rfl
theorem ZAm : enters Tryz.prog 130 = true := by kernel_rfl
theorem Zx6 : ZcC Tryz.prog 36 87 5 88 = true := by kernel_rfl
theorem ZBz : enters Tryz.prog 87 = true := by kernel_rfl
theorem Zca : Zak Tryz.prog 41 = some (.agg #[.string ⟨#[]⟩, .slice none 0 0, .slice none 0 0, .int .i64 0, .slice none 0 0]) := by kernel_rfl
theorem ZB1 : enters Tryz.prog 38 = true := by kernel_rfl
theorem ZBk : ZQ Tryz.prog 35 = some 1 := by kernel_rfl
theorem ZB0 : enters Tryz.prog 39 = true := by kernel_rfl
theorem ZAM : ZQ Tryz.prog 36 = some 1 := by kernel_rfl
theorem ZBZ : enters Tryz.prog 40 = true := by kernel_rfl
theorem ZcZ : ZQ Tryz.prog 41 = some 5 := by kernel_rfl
theorem ZBU : enters Tryz.prog 51 = true := by kernel_rfl
theorem ZAG : enters Tryz.prog 101 = true := by kernel_rfl
theorem ZzF : enters Tryz.prog 194 = true := by kernel_rfl
theorem Zzm : enters Tryz.prog 246 = true := by kernel_rfl
theorem ZzD : enters Tryz.prog 196 = true := by kernel_rfl
theorem Zz4 : enters Tryz.prog 152 = true := by kernel_rfl
theorem ZAE : enters Tryz.prog 103 = true := by kernel_rfl
theorem ZzE : enters Tryz.prog 195 = true := by kernel_rfl
theorem Zz6 : enters Tryz.prog 150 = true := by kernel_rfl
theorem Zz5 : enters Tryz.prog 151 = true := by kernel_rfl
theorem ZAF : enters Tryz.prog 102 = true := by kernel_rfl
theorem ZBX : enters Tryz.prog 48 = true := by kernel_rfl
theorem ZBW : enters Tryz.prog 49 = true := by kernel_rfl
theorem ZBV : enters Tryz.prog 50 = true := by kernel_rfl
theorem ZyD : (match Program.underlying Tryz.prog 80 with | some (.slice _) => true | _ => false) = true := by kernel_rfl
theorem ZsL : Zbe Tryz.prog 82 = some [(0, 1), (1, 1)] := by kernel_rfl
theorem ZAN : (match Program.underlying Tryz.prog 85 with | some (.slice _) => true | _ => false) = true := by kernel_rfl
theorem Zzq : enters Tryz.prog 238 = true := by kernel_rfl
theorem sz5 : ZQ Tryz.prog 5 = some 1 := by kernel_rfl
theorem zo5 : Zak Tryz.prog 5 = some (.int .u8 0) := by kernel_rfl
theorem ZeR : enters Tryz.prog 104 = true := by kernel_rfl
theorem ZvZ : enters Tryz.prog 206 = true := by kernel_rfl
theorem ZzX : enters Tryz.prog 166 = true := by kernel_rfl
theorem ZxG : enters Tryz.prog 125 = true := by kernel_rfl
theorem ZA1 : enters Tryz.prog 83 = true := by kernel_rfl
theorem Zpa : (match Program.underlying Tryz.prog 35 with | some (.slice _) => true | _ => false) = true := by kernel_rfl
theorem ZjZ : enters Tryz.prog 79 = true := by kernel_rfl
theorem ZgI : Zbe Tryz.prog 41 = some [(0, 1), (1, 1), (2, 1), (3, 2)] := by kernel_rfl
theorem ZBE : enters Tryz.prog 80 = true := by kernel_rfl
theorem ZAQ : (match Program.underlying Tryz.prog 36 with | some (.slice _) => true | _ => false) = true := by kernel_rfl
theorem Zv1 : enters Tryz.prog 127 = true := by kernel_rfl
theorem ZBD : enters Tryz.prog 82 = true := by kernel_rfl
theorem ZBC : enters Tryz.prog 84 = true := by kernel_rfl
theorem ZBa : enters Tryz.prog 31 = true := by kernel_rfl
theorem ZAo : enters Tryz.prog 128 = true := by kernel_rfl
theorem ZAX : ZcC Tryz.prog 58 3 1 8 = true := by kernel_rfl
theorem ZAO : (match Program.underlying Tryz.prog 58 with | some (.slice _) => true | _ => false) = true := by kernel_rfl
theorem ZqQ : Zt Tryz.prog 45 1 = some 1 := by kernel_rfl
theorem ZqP : Zt Tryz.prog 45 2 = some 2 := by kernel_rfl
theorem ZnN : Zt Tryz.prog 45 0 = some 0 := by kernel_rfl
theorem ZA3 : enters Tryz.prog 78 = true := by kernel_rfl
theorem ZBB : enters Tryz.prog 85 = true := by kernel_rfl
theorem ZB4 : enters Tryz.prog 30 = true := by kernel_rfl
theorem Zw5 : lk Tryz.prog 45 = some (some 3) := by kernel_rfl
theorem ZB3 : enters Tryz.prog 34 = true := by kernel_rfl
theorem ZB2 : enters Tryz.prog 35 = true := by kernel_rfl
theorem ZA9 : enters Tryz.prog 37 = true := by kernel_rfl
theorem Zy8 : enters Tryz.prog 36 = true := by kernel_rfl
theorem Zzn : enters Tryz.prog 245 = true := by kernel_rfl
theorem Zus : Zt Tryz.prog 30 0 = some 0 := by kernel_rfl
theorem Zur : Zt Tryz.prog 30 1 = some 1 := by kernel_rfl
theorem Zuq : Zt Tryz.prog 30 2 = some 2 := by kernel_rfl
theorem ZAJ : Zak Tryz.prog 45 = some (.agg #[.string ⟨#[]⟩, .string ⟨#[]⟩, .string ⟨#[]⟩]) := by kernel_rfl
theorem ZBj : ZQ Tryz.prog 45 = some 3 := by kernel_rfl
theorem ZAD : enters Tryz.prog 105 = true := by kernel_rfl
theorem ZAC : enters Tryz.prog 106 = true := by kernel_rfl
theorem Zz3 : enters Tryz.prog 153 = true := by kernel_rfl
theorem ZAB : enters Tryz.prog 107 = true := by kernel_rfl
theorem ZBT : enters Tryz.prog 52 = true := by kernel_rfl
theorem ZBS : enters Tryz.prog 53 = true := by kernel_rfl
theorem ZBR : enters Tryz.prog 54 = true := by kernel_rfl
theorem ZAA : enters Tryz.prog 108 = true := by kernel_rfl
theorem ZAz : enters Tryz.prog 109 = true := by kernel_rfl
theorem Zz2 : enters Tryz.prog 154 = true := by kernel_rfl
theorem ZAy : enters Tryz.prog 110 = true := by kernel_rfl
theorem ZBQ : enters Tryz.prog 55 = true := by kernel_rfl
theorem ZBP : enters Tryz.prog 56 = true := by kernel_rfl
theorem ZBO : enters Tryz.prog 57 = true := by kernel_rfl
theorem ZBd : (Tryz.prog.info? 392).map (·.comparable) = some true := by kernel_rfl
theorem ZwM : ZQ Tryz.prog 414 = some 1 := by kernel_rfl
theorem Zyd : Zak Tryz.prog 328 = some (.nilIface) := by kernel_rfl
theorem Zyc : Zak Tryz.prog 331 = some (.nilIface) := by kernel_rfl
theorem Zyb : Zak Tryz.prog 333 = some (.nilIface) := by kernel_rfl
theorem ZzG : enters Tryz.prog 193 = true := by kernel_rfl
theorem Zmy : lk Tryz.prog 100 = some none := by kernel_rfl
theorem ZtG : enters Tryz.prog 147 = true := by kernel_rfl
theorem ZxB : enters Tryz.prog 191 = true := by kernel_rfl
theorem ZzK : enters Tryz.prog 186 = true := by kernel_rfl
theorem ZAb : enters Tryz.prog 142 = true := by kernel_rfl
theorem ZAa : enters Tryz.prog 143 = true := by kernel_rfl
theorem ZwX : Zbe Tryz.prog 175 = some [(0, 3), (3, 1)] := by kernel_rfl
theorem Zwk : Zak Tryz.prog 175 = some (.agg #[.int .i64 0, .int .i64 0, .string ⟨#[]⟩, .pointer none]) := by kernel_rfl
theorem Zig : Zt Tryz.prog 173 1 = some 1 := by kernel_rfl
theorem Zmx : lk Tryz.prog 171 = some none := by kernel_rfl
theorem ZmU : Zt Tryz.prog 173 0 = some 0 := by kernel_rfl
theorem Zsy : ZQ Tryz.prog 171 = some 1 := by kernel_rfl
theorem Zif : Zt Tryz.prog 173 2 = some 2 := by kernel_rfl
theorem ZmS : Zt Tryz.prog 175 1 = some 3 := by kernel_rfl
theorem ZyG : Zbe Tryz.prog 173 = some [(0, 1), (1, 1), (2, 1)] := by kernel_rfl
theorem Zyj : Zak Tryz.prog 173 = some (.agg #[.pointer none, .pointer none, .int .i64 0]) := by kernel_rfl
theorem Zz7 : enters Tryz.prog 149 = true := by kernel_rfl
theorem ZmT : Zt Tryz.prog 175 0 = some 0 := by kernel_rfl
theorem ZjV : Zt Tryz.prog 159 0 = some 0 := by kernel_rfl
theorem ZjU : Zt Tryz.prog 161 1 = some 0 := by kernel_rfl
theorem ZyO : lk Tryz.prog 21 = some none := by kernel_rfl
theorem ZzH : enters Tryz.prog 189 = true := by kernel_rfl
theorem Zv0 : enters Tryz.prog 190 = true := by kernel_rfl
theorem ZA0 : enters Tryz.prog 89 = true := by kernel_rfl
theorem Zyi : Zak Tryz.prog 177 = some (.agg #[.bool false, .bool false, .bool false, .bool false, .bool false, .bool false, .bool false, .bool false, .bool false, .bool false, .bool false, .bool false, .bool false, .bool false, .bool false, .bool false, .bool false, .bool false, .bool false, .bool false, .bool false, .bool false, .bool false, .bool false, .bool false, .bool false, .bool false, .bool false, .bool false, .bool false, .bool false, .bool false, .bool false, .bool false, .bool false, .bool false, .bool false, .bool false, .bool false, .bool false, .bool false, .bool false, .bool false, .bool false, .bool false, .bool false, .bool false, .bool false, .bool false, .bool false, .bool false, .bool false, .bool false, .bool false, .bool false, .bool false, .bool false, .bool false, .bool false, .bool false, .bool false, .bool false, .bool false, .bool false, .bool false, .bool false, .bool false, .bool false, .bool false, .bool false, .bool false, .bool false, .bool false, .bool false, .bool false, .bool false, .bool false, .bool false, .bool false, .bool false, .bool false, .bool false, .bool false, .bool false, .bool false, .bool false, .bool false, .bool false, .bool false, .bool false, .bool false, .bool false, .bool false, .bool false, .bool false, .bool false, .bool false, .bool false, .bool false, .bool false]) := by kernel_rfl
theorem ZyP : lk Tryz.prog 177 = some (some 100) := by kernel_rfl
theorem ZA8 : enters Tryz.prog 42 = true := by kernel_rfl
theorem ZxH : enters Tryz.prog 100 = true := by kernel_rfl
theorem Ze7 : Zt Tryz.prog 165 2 = some 3 := by kernel_rfl
theorem Zk8 : lk Tryz.prog 154 = some none := by kernel_rfl
theorem ZqZ : Zt Tryz.prog 163 0 = some 0 := by kernel_rfl
theorem Zz9 : enters Tryz.prog 144 = true := by kernel_rfl
theorem ZgV : Zt Tryz.prog 163 1 = some 2 := by kernel_rfl
theorem ZqY : Zt Tryz.prog 165 1 = some 2 := by kernel_rfl
theorem ZjT : Zt Tryz.prog 165 0 = some 0 := by kernel_rfl
theorem Zq1 : Zt Tryz.prog 153 0 = some 0 := by kernel_rfl
theorem Zq0 : Zt Tryz.prog 153 1 = some 1 := by kernel_rfl
theorem ZxE : enters Tryz.prog 146 = true := by kernel_rfl
theorem ZBx : enters Tryz.prog 92 = true := by kernel_rfl
theorem ZyH : Zbe Tryz.prog 153 = some [(0, 1), (1, 1)] := by kernel_rfl
theorem Zyk : Zak Tryz.prog 153 = some (.agg #[.string ⟨#[]⟩, .string ⟨#[]⟩]) := by kernel_rfl
theorem ZAZ : enters Tryz.prog 93 = true := by kernel_rfl
theorem ZwY : Zbe Tryz.prog 163 = some [(0, 2), (2, 5)] := by kernel_rfl
theorem Zwl : Zak Tryz.prog 163 = some (.agg #[.int .i32 0, .int .u32 0, .string ⟨#[]⟩, .slice none 0 0, .slice none 0 0, .int .i64 0, .slice none 0 0]) := by kernel_rfl
theorem Zu3 : Zbe Tryz.prog 165 = some [(0, 2), (2, 1), (3, 1)] := by kernel_rfl
theorem Zn1 : Zak Tryz.prog 165 = some (.agg #[.string ⟨#[]⟩, .string ⟨#[]⟩, .string ⟨#[]⟩, .pointer none]) := by kernel_rfl
theorem ZuV : ZQ Tryz.prog 165 = some 4 := by kernel_rfl
theorem Zy5 : enters Tryz.prog 94 = true := by kernel_rfl
theorem Zy4 : enters Tryz.prog 95 = true := by kernel_rfl
theorem Zx7 : enters Tryz.prog 90 = true := by kernel_rfl
theorem ZAk : enters Tryz.prog 132 = true := by kernel_rfl
theorem ZAj : enters Tryz.prog 133 = true := by kernel_rfl
theorem ZAi : enters Tryz.prog 134 = true := by kernel_rfl
theorem Zy7 : enters Tryz.prog 43 = true := by kernel_rfl
theorem ZBw : enters Tryz.prog 97 = true := by kernel_rfl
theorem ZBv : enters Tryz.prog 98 = true := by kernel_rfl
theorem ZBu : enters Tryz.prog 99 = true := by kernel_rfl
theorem ZAS : lk Tryz.prog 47 = some none := by kernel_rfl
theorem ZA5 : enters Tryz.prog 47 = true := by kernel_rfl
theorem Zy6 : enters Tryz.prog 46 = true := by kernel_rfl
theorem ZA6 : enters Tryz.prog 45 = true := by kernel_rfl
theorem ZA7 : enters Tryz.prog 44 = true := by kernel_rfl
theorem Zw6 : lk Tryz.prog 28 = some (some 5) := by kernel_rfl
theorem en5 : enters Tryz.prog 5 = true := by kernel_rfl
theorem Zx5 : lk Tryz.prog 30 = some (some 3) := by kernel_rfl
theorem en6 : enters Tryz.prog 6 = true := by kernel_rfl
theorem en7 : enters Tryz.prog 7 = true := by kernel_rfl
theorem en9 : enters Tryz.prog 9 = true := by kernel_rfl
theorem Zv3 : enters Tryz.prog 10 = true := by kernel_rfl
theorem ZrZ : enters Tryz.prog 11 = true := by kernel_rfl
theorem en8 : enters Tryz.prog 8 = true := by kernel_rfl
theorem Zv2 : enters Tryz.prog 12 = true := by kernel_rfl
theorem Zx9 : enters Tryz.prog 13 = true := by kernel_rfl
theorem ZB9 : enters Tryz.prog 14 = true := by kernel_rfl
theorem ZBc : enters Tryz.prog 15 = true := by kernel_rfl
theorem ZB8 : enters Tryz.prog 16 = true := by kernel_rfl
theorem ZBb : enters Tryz.prog 17 = true := by kernel_rfl
set_option maxRecDepth 4000
set_option maxHeartbeats 6400000
variable {J : JoinT}
abbrev cur (b : Nat) (l : List UInt8) (i : Nat) : Cells := ZN b [str l, .int .i64 i] 250
theorem Zcr (n lo hi:Int) (B:Kn):Z8 (pj J) 33 [.int .i64 n,.int .i64 lo,.int .i64 hi] B (.bool (decide (lo≤n) && decide (n≤hi))):=by
 refine cB 15 Tryz.func33 (h:=?_)
 refine Za (xA (h:=Z5 [(0,_),(1,_),(2,_),(6,_)] t4 (Za (xM (h:=xM (h:=ZdZ (h:=xM (h:=Zs (d:=10) rfl (fun g1=>?_) (fun g1=>?_)))))))))
 try simp only [sQ,ne_eq] at g1
 refine xM (h:=xM (h:=ZbJ (h:=xT (h:=xA (h:=Z5 [(0,_),(1,_),(2,_),(6,_)] t4 (Zd ?_))))))
 exact eR t1 ⟨by exact Zf (by rw [Bool.eq_iff_iff];simp [];omega),rfl,rfl⟩
 try simp only [sQ,ne_eq] at g1
 refine xP (h:=xP (h:=xP (h:=xF (h:=xA (h:=Z5 [(0,_),(1,_),(2,_),(6,_)] t4 (Zd ?_))))))
 exact eR t1 ⟨by exact Zf (by rw [Bool.eq_iff_iff];simp [];omega),rfl,rfl⟩

theorem Zoy (c:UInt8) (B:Kn):Z8 (pj J) 249 [.int .u8 c.toNat] B (.bool (Zbn c)):=by
 refine cB 17 Tryz.func249 (h:=?_)
 refine Za (xA (h:=Z5 [(0,_),(2,_)] t2 (Za (xM (h:=ZdZ (h:=xM (h:=Zs (d:=5) rfl (fun g1=>?_) (fun g1=>?_))))))))
 try simp only [sQ,ne_eq] at g1
 refine xM (h:=ZbJ (h:=xT (h:=xM (h:=Zs (d:=9) rfl (fun g2=>?_) (fun g2=>?_)))))
 try simp only [sQ,ne_eq] at g2
 refine xP (h:=xP (h:=xP (h:=xP (h:=xP (h:=xP (h:=xT (h:=xA (h:=Z5 [(0,_),(2,_)] t2 (Zd ?_)))))))))
 exact eR t1 ⟨by exact Zf (by rw [Bool.eq_iff_iff];simp [Zbn];omega),rfl,rfl⟩
 try simp only [sQ,ne_eq] at g2
 refine xM (h:=ZdZ (h:=xM (h:=Zs (d:=12) rfl (fun g3=>?_) (fun g3=>?_))))
 try simp only [sQ,ne_eq] at g3
 refine xM (h:=ZbJ (h:=xT (h:=xF (h:=xA (h:=Z5 [(0,_),(2,_)] t2 (Zd ?_))))))
 exact eR t1 ⟨by exact Zf (by rw [Bool.eq_iff_iff];simp [Zbn];omega),rfl,rfl⟩
 try simp only [sQ,ne_eq] at g3
 refine xP (h:=xP (h:=xF (h:=xF (h:=xA (h:=Z5 [(0,_),(2,_)] t2 (Zd ?_))))))
 exact eR t1 ⟨by exact Zf (by rw [Bool.eq_iff_iff];simp [Zbn];omega),rfl,rfl⟩
 try simp only [sQ,ne_eq] at g1
 refine xP (h:=xP (h:=xF (h:=xM (h:=xM (h:=ZdZ (h:=xM (h:=Zs (d:=12) rfl (fun g4=>?_) (fun g4=>?_))))))))
 try simp only [sQ,ne_eq] at g4
 refine xM (h:=ZbJ (h:=xT (h:=xF (h:=xA (h:=Z5 [(0,_),(2,_)] t2 (Zd ?_))))))
 exact eR t1 ⟨by exact Zf (by rw [Bool.eq_iff_iff];simp [Zbn];omega),rfl,rfl⟩
 try simp only [sQ,ne_eq] at g4
 refine xP (h:=xP (h:=xF (h:=xF (h:=xA (h:=Z5 [(0,_),(2,_)] t2 (Zd ?_))))))
 exact eR t1 ⟨by exact Zf (by rw [Bool.eq_iff_iff];simp [Zbn];omega),rfl,rfl⟩

theorem ZcG (l:List UInt8) (hl:l.length≤2000000) (B:Kn):Z8 (pj J) 120 [str l] B (.bool (Zay l)):=by
 refine cB 37 Tryz.func120 (h:=?_)
 refine Za (xA (h:=Z5 [(0,_),(2,_)] t2 (Zc (Za (xA (h:=Z5 [(0,_),(2,_),(3,_)] t3 (Zg (Zkl (α:=Nat) (fun k=>[(0,str l),(3,.int .i64 k)]) (fun k=>[]) (fun k Bx=>Bx=B∧k≤l.length∧(l.take k).all Zbn=true) (fun k=>l.length - k) 0 t2 rfl (⟨rfl,Nat.zero_le _,by simp⟩) (fun k B1 hle1 hI=>?_)))))))))
 obtain ⟨rfl,hk,ha⟩:=hI
 refine Zc (Za (xM (h:=xM (h:=xVs Tryz.underlying9 (h:=ZG (h:=Z5 [(0,_),(3,_),(7,_)] t3 (Zb rfl (fun g1=>?_) (fun g1=>?_))))))))
 try simp only [sQ,ne_eq] at g1
 obtain ⟨c,hc⟩ :∃c,l[k]? = some c:=⟨_,List.getElem?_eq_getElem oz⟩
 refine wSk (Zc (Zg (ZiI 33 (!(Zbn c)) [0,3,7] ?_ ?_)))
 refine xM (h:=xM (h:=Zj (Zen rfl rfl Tryz.underlying9 rfl rfl oz (by simpa using hc) ?_)))
 refine ZdZ (h:=xM (h:=Zs (d:=14) rfl (fun g1=>?_) (fun g1=>?_)))
 try simp only [sQ,ne_eq] at g1
 refine xM (h:=xM (h:=Zj (Zen rfl rfl Tryz.underlying9 rfl rfl oz (by simpa using hc) ?_)))
 refine ZbJ (h:=xT (h:=xN (h:=xM (h:=Zs (d:=21) rfl (fun g2=>?_) (fun g2=>?_)))))
 try simp only [sQ,ne_eq] at g2
 refine xM (h:=xM (h:=Zj (Zen rfl rfl Tryz.underlying9 rfl rfl oz (by simpa using hc) ?_)))
 refine ZdZ (h:=xM (h:=Zs (d:=26) rfl (fun g3=>?_) (fun g3=>?_)))
 try simp only [sQ,ne_eq] at g3
 refine xM (h:=xM (h:=Zj (Zen rfl rfl Tryz.underlying9 rfl rfl oz (by simpa using hc) ?_)))
 refine ZbJ (h:=xT (h:=xN (h:=xT (h:=?_))))
 exact ⟨rfl,rfl,rfl,Zdb rfl (by rw [Bool.eq_iff_iff];simp [Zbn,];omega),t3⟩
 try simp only [sQ,ne_eq] at g3
 refine xP (h:=xP (h:=xP (h:=xP (h:=xF (h:=xN (h:=xT (h:=?_)))))))
 exact ⟨rfl,rfl,rfl,Zdb rfl (by rw [Bool.eq_iff_iff];simp [Zbn,];omega),t3⟩
 try simp only [sQ,ne_eq] at g2
 refine xP (h:=xP (h:=xP (h:=xP (h:=xP (h:=xP (h:=xP (h:=xP (h:=xP (h:=xP (h:=xP (h:=xF (h:=?_))))))))))))
 exact ⟨rfl,rfl,rfl,Zdb rfl (by rw [Bool.eq_iff_iff];simp [Zbn,];omega),t3⟩
 try simp only [sQ,ne_eq] at g1
 refine xP (h:=xP (h:=xP (h:=xP (h:=xF (h:=xN (h:=xM (h:=xM (h:=xM (h:=Zj (Zen rfl rfl Tryz.underlying9 rfl rfl oz (by simpa using hc) ?_))))))))))
 refine ZdZ (h:=xM (h:=Zs (d:=26) rfl (fun g4=>?_) (fun g4=>?_)))
 try simp only [sQ,ne_eq] at g4
 refine xM (h:=xM (h:=Zj (Zen rfl rfl Tryz.underlying9 rfl rfl oz (by simpa using hc) ?_)))
 refine ZbJ (h:=xT (h:=xN (h:=xT (h:=?_))))
 exact ⟨rfl,rfl,rfl,Zdb rfl (by rw [Bool.eq_iff_iff];simp [Zbn,];omega),t3⟩
 try simp only [sQ,ne_eq] at g4
 refine xP (h:=xP (h:=xP (h:=xP (h:=xF (h:=xN (h:=xT (h:=?_)))))))
 exact ⟨rfl,rfl,rfl,Zdb rfl (by rw [Bool.eq_iff_iff];simp [Zbn,];omega),t3⟩
 refine Z5 [(0,_),(3,_),(7,_),(33,_)] t4 (Zb rfl (fun g9=>?_) (fun g9=>?_))
 try simp only [sQ,ne_eq] at g9
 refine Za (xA (h:=Z5 [(0,_),(2,_),(3,_),(7,_),(33,_)] t5 (Zd (ZA (Zl (Zu1 (ZA (Zl ?_))))))))
 exact eR t1 ⟨Zf (by simp [Zay,ZtV hc g9]),rfl,rfl⟩
 try simp only [sQ,ne_eq] at g9
 refine ZS (ZK (Zn (Ze (xM (h:=Zj (Zgz rfl rfl rfl rfl (by first | exact Zcy oz oz | rfl) ?_))))))
 refine xA (h:=?_)
 exact Zok (k+1) oz ⟨rfl,oz,ZnX hc g9 ha⟩ t2 rfl
 try simp only [sQ,ne_eq] at g1
 refine ZE (ZT (Zoj (Zv (Zn (Za (xM (h:=xVs Tryz.underlying9 (h:=xR Zj0 rfl (Zcr _ _ _ _) (h:=xA (h:=Z5 [(0,_),(2,_),(3,_),(7,_)] t4 (Zd ?_)))))))))))
 exact eR t1 ⟨Zf (by (obtain rfl:k=l.length:=oz);rw [List.take_length] at ha;rw [Bool.eq_iff_iff];simp [Zay,ha];omega),rfl,rfl⟩

theorem ZnS (b:Nat) (l:List UInt8) (i:Nat) (hi:i≤l.length) (hl:l.length≤2000000) (B:Kn):ZuC (pj J) 171 [ptr ⟨b,0,none⟩] B (cur b l i) (.bool (decide (i=l.length))) (cur b l i):=by
 refine cB 13 Tryz.func171 (h:=?_)
 refine Za (xA (h:=Z5 [(0,_),(2,_)] t2 (Zc (Z3 (same _ _) mo kr ⟨rfl,rfl⟩ (fun _ _=>?_)))))
 refine aM 0 rfl (h:=aNc 1 rfl (h:=aW 2 rfl Zb8 (h:=aT 3 rfl (Zaf fun D=>Zo rfl rfl lk3 rfl (atL 0 rfl rfl rfl) r4) (h:=aM 4 rfl (h:=aNc 5 rfl (h:=aW 6 rfl ZgU (h:=aT 7 rfl (Zaf fun D=>Zo rfl rfl lk9 rfl (atL 0 rfl rfl rfl) r4) (h:=aT 8 rfl (Zaf fun D=>Zud rfl rfl Tryz.underlying9 rfl r4) (h:=ZrT 9 rfl (h:=aA 10 rfl (h:=Zu kr kr ?_)))))))))))
 refine Zn (Z5 [(0,_),(2,_)] t2 (Zd ?_))
 exact e1 0 rfl t1 ⟨Zf (by rw [Bool.eq_iff_iff];simp;omega),rfl,rfl⟩

theorem ZwJ (b:Nat) (l:List UInt8) (i:Nat) (hi:i≤l.length) (hl:l.length≤2000000) (x:UInt8) (B:Kn):ZuC (pj J) 209 [ptr ⟨b,0,none⟩,.int .u8 x.toNat] B (cur b l i) (.bool (decide (l[i]? = some x))) (cur b l (if l[i]? = some x then i+1 else i)):=by
 refine cB 27 Tryz.func209 (h:=?_)
 refine Za (xA (h:=Z5 [(0,_),(1,_),(4,_)] t3 (Zc (ZhF 19 (decide (l[i]?≠some x)) [0,1,4] (same _ _) mo kr ⟨rfl,rfl⟩ (fun _ _=>?_) ?_))))
 refine aM 0 rfl (h:=aT 1 rfl (Zaf fun D=>ZiJ 0 rfl rfl rfl ZtF rfl (ZnS _ _ _ oz oz _) r4) (h:=?_))
 refine aM 2 rfl (h:=ZaF (d:=7) rfl (fun g1=>?_) (fun g1=>?_))
 try simp only [sQ,ne_eq] at g1
 refine aZ 3 rfl (h:=aZ 4 rfl (h:=aZ 5 rfl (h:=aZ 6 rfl (h:=aZ 7 rfl (h:=aZ 8 rfl (h:=aZ 9 rfl (h:=aZ 10 rfl (h:=aZ 11 rfl (h:=aZ 12 rfl (h:=aZ 13 rfl (h:=aPT 14 rfl (h:=Zu kr kr ?_))))))))))))
 exact ⟨rfl,rfl,rfl,Zdb rfl (by first | (simp [g1];done) | (rw [Bool.eq_iff_iff];simp [hc,← UInt8.toNat_inj];omega)),t3⟩
 try simp only [sQ,ne_eq] at g1
 obtain ⟨c,hc⟩ :∃c,l[i]? = some c:=⟨_,List.getElem?_eq_getElem oz⟩
 refine aM 3 rfl (h:=aNc 4 rfl (h:=aW 5 rfl ZgU (h:=aT 6 rfl (Zaf fun D=>Zo rfl rfl lk9 rfl (atL 0 rfl rfl rfl) r4) (h:=aM 7 rfl (h:=aNc 8 rfl (h:=aW 9 rfl Zb8 (h:=aT 10 rfl (Zaf fun D=>Zo rfl rfl lk3 rfl (atL 0 rfl rfl rfl) r4) (h:=aT 11 rfl (Zaf fun D=>Zen rfl rfl Tryz.underlying9 rfl rfl oz (by simpa using hc) r4) (h:=?_)))))))))
 refine aM 12 rfl (h:=ZxZ 13 rfl (h:=aPF 14 rfl (h:=Zu kr kr ?_)))
 exact ⟨rfl,rfl,rfl,Zdb rfl (by first | (simp [g1];done) | (rw [Bool.eq_iff_iff];simp [hc,← UInt8.toNat_inj];omega)),t3⟩
 refine Z5 [(0,_),(1,_),(4,_),(19,_)] t4 (Zb rfl (fun g2=>?_) (fun g2=>?_))
 try simp only [sQ,ne_eq] at g2
 refine Za (xA (h:=Z5 [(0,_),(1,_),(4,_),(19,_)] t4 (Zd (Zl ?_))))
 exact e1 0 rfl t1 ⟨Zf (by simp [g2]),rfl,by rw [if_neg g2]⟩
 try simp only [sQ,ne_eq] at g2
 refine wSk (Za (xM (h:=xNc (h:=xW Zb8 (h:=x1 lk3 0 (h:=Zj (Zgz rfl rfl rfl rfl (by first | exact Zcy oz oz | rfl) ?_)))))))
 refine xNc (h:=xW Zb8 (h:=xS [_] 0 [_,_] sz3 (h:=ZD [(0,_),(1,_),(4,_),(19,_)] [_] t4 rfl (Za (xA (h:=Z5 [(0,_),(1,_),(4,_),(19,_)] t4 (Zd ?_)))))))
 exact e1 0 rfl t1 ⟨Zf (by simp [g2]),rfl,by rw [if_pos g2];rfl⟩

theorem Zqe (b:Nat) (l:List UInt8) (i:Nat) (hi:i≤l.length) (hl:l.length≤2000000) (B:Kn):ZuC (pj J) 208 [ptr ⟨b,0,none⟩] B (cur b l i) (.tuple #[str (word l i),.bool (ZdJ (word l i))]) (cur b l (i+(word l i).length)):=by
 refine cB 54 Tryz.func208 (h:=?_)
 refine Za (xA (h:=xA (h:=Z5 [(0,_),(2,_),(3,_)] t3 (Za (xM (h:=xNc (h:=xW Zb8 (h:=x1 lk3 0 (h:=xA (h:=Z5 [(0,_),(2,_),(3,_),(4,_)] t4 (Zc (Zg (Zkl (α:=Nat) (fun k=>[(0,ptr ⟨b,0,none⟩),(4,.int .i64 i)]) (fun k=>[cur b l (i+k)]) (fun k Bx=>Bx=B∧i+k≤l.length∧((l.drop i).take k).all Zbn=true) (fun k=>l.length - i - k) 0 t2 rfl (⟨rfl,oz,by simp⟩) (fun k B1 hle1 hI=>?_))))))))))))))
 obtain ⟨rfl,hk,ha⟩:=hI
 refine Zc (ZhF 24 (match l[i+k]? with | some c=>Zbn c | none=>false) [0,4] (same _ _) mo kr ⟨rfl,rfl⟩ (fun _ _=>?_) ?_)
 refine aM 0 rfl (h:=aT 1 rfl (Zaf fun D=>ZiJ 0 rfl rfl rfl ZtF rfl (ZnS _ _ _ oz oz _) r4) (h:=?_))
 refine aN 2 rfl (h:=aM 3 rfl (h:=ZaF (d:=13) rfl (fun g1=>?_) (fun g1=>?_)))
 try simp only [sQ,ne_eq] at g1
 obtain ⟨c,hc⟩ :∃c,l[i+k]? = some c:=⟨_,List.getElem?_eq_getElem oz⟩
 refine aM 4 rfl (h:=aNc 5 rfl (h:=aW 6 rfl ZgU (h:=aT 7 rfl (Zaf fun D=>Zo rfl rfl lk9 rfl (atL 0 rfl rfl rfl) r4) (h:=aM 8 rfl (h:=aNc 9 rfl (h:=aW 10 rfl Zb8 (h:=aT 11 rfl (Zaf fun D=>Zo rfl rfl lk3 rfl (atL 0 rfl rfl rfl) r4) (h:=aT 12 rfl (Zaf fun D=>Zen rfl rfl Tryz.underlying9 rfl rfl oz hc r4) (h:=?_)))))))))
 refine aT 13 rfl (Zaf fun D=>Z9 rfl rfl Zzl rfl (Zoy _ _) r4) (h:=aPT 14 rfl (h:=Zu kr kr ?_))
 exact ⟨rfl,rfl,rfl,Zdb rfl (by first | (rw [hc];done) | (rw [List.getElem?_eq_none oz])),t2⟩
 try simp only [sQ,ne_eq] at g1
 refine aZ 4 rfl (h:=aZ 5 rfl (h:=aZ 6 rfl (h:=aZ 7 rfl (h:=aZ 8 rfl (h:=aZ 9 rfl (h:=aZ 10 rfl (h:=aZ 11 rfl (h:=aZ 12 rfl (h:=aZ 13 rfl (h:=aPF 14 rfl (h:=Zu kr kr ?_)))))))))))
 exact ⟨rfl,rfl,rfl,Zdb rfl (by first | (rw [hc];done) | (rw [List.getElem?_eq_none oz])),t2⟩
 refine Z5 [(0,_),(4,_),(24,_)] t3 (Zb rfl (fun g2=>?_) (fun g2=>?_))
 try simp only [sQ,ne_eq] at g2
 refine wSk (Zg (Ze (xM (h:=xNc (h:=xW Zb8 (h:=x1 lk3 0 (h:=Zj (Zgz rfl rfl rfl rfl (by first | exact Zcy oz oz | rfl) ?_))))))))
 refine xNc (h:=xW Zb8 (h:=xS [_] 0 [_,_] sz3 (h:=ZK ?_)))
 obtain ⟨c,hc,hn⟩:=ZpS g2
 exact Zok (k+1) (by have:=ZbR hc;omega) ⟨rfl,by have:=ZbR hc;omega,ZnX (by simpa using hc) hn ha⟩ t2 rfl
 try simp only [sQ,ne_eq] at g2
 have hw:word l i=(l.drop i).take k:=Zse ha (fun c hc=>by rw [hc] at g2;exact g2)
 have hwl:(word l i).length=k:=by rw [hw,List.length_take,List.length_drop];omega
 refine ZE (ZT (Zoj (Zv (Zn (Za (xM (h:=xNc (h:=xW Zb8 (h:=x1 lk3 0 (h:=xM (h:=Zj (Zjk rfl rfl rfl rfl (by first | exact Zcy oz oz | rfl) ?_))))))))))))
 refine xA (h:=Z5 [(0,_),(4,_),(5,_),(24,_)] t4 (Zc (Z3 (same _ _) mo kr ⟨rfl,rfl⟩ (fun _ _=>?_))))
 refine aM 0 rfl (h:=aNc 1 rfl (h:=aW 2 rfl ZgU (h:=aT 3 rfl (Zaf fun D=>Zo rfl rfl lk9 rfl (atL 0 rfl rfl rfl) r4) (h:=aM 4 rfl (h:=aM 5 rfl (h:=aNc 6 rfl (h:=aW 7 rfl Zb8 (h:=aT 8 rfl (Zaf fun D=>Zo rfl rfl lk3 rfl (atL 0 rfl rfl rfl) r4) (h:=aT 9 rfl (Zaf fun D=>Zgd rfl rfl Tryz.underlying9 rfl (a:=i) (b:=i+k) ⟨_,_,rfl,rfl⟩ ⟨_,_,rfl,oz⟩ oz oz r4) (h:=?_))))))))))
 refine aM 10 rfl (h:=Zx0 11 rfl (h:=aM 12 rfl (h:=ZaF (d:=50) rfl (fun g1=>?_) (fun g1=>?_))))
 try simp only [sQ,ne_eq] at g1
 refine aM 13 rfl (h:=Zwc 14 rfl (h:=aPT 15 rfl (h:=aA 16 rfl (h:=aA 17 rfl (h:=Zu kr kr ?_)))))
 refine Zn (Z5 [(0,_),(2,_),(3,_),(4,_),(5,_),(24,_)] t6 (Zd ?_))
 exact ZvW .ret (.inl rfl) [_,_] 0 rfl t2 ⟨ZiN (by rw [ZfH,hw]) (Zf (by rw [Bool.eq_iff_iff];simp [ZdJ,hwl];omega)),rfl,by rw [hwl]⟩
 try simp only [sQ,ne_eq] at g1
 refine aZ 13 rfl (h:=aZ 14 rfl (h:=aPF 15 rfl (h:=aA 16 rfl (h:=aA 17 rfl (h:=Zu kr kr ?_)))))
 refine Zn (Z5 [(0,_),(2,_),(3,_),(4,_),(5,_),(24,_)] t6 (Zd ?_))
 exact ZvW .ret (.inl rfl) [_,_] 0 rfl t2 ⟨ZiN (by rw [ZfH,hw]) (Zf (by rw [Bool.eq_iff_iff];simp [ZdJ,hwl];omega)),rfl,by rw [hwl]⟩

theorem ZtH (b:Nat) (l:List UInt8) (i:Nat) (hi:i≤l.length) (hl:l.length≤2000000) (B:Kn):ZuC (pj J) 170 [ptr ⟨b,0,none⟩] B (cur b l i) (.tuple #[str (Zim l i),.bool (Zm1 l i)]) (cur b l (dom l i).2):=by
 refine cB 53 Tryz.func170 (h:=?_)
 refine Za (xA (h:=xA (h:=Z5 [(0,_),(2,_),(3,_)] t3 (Za (xM (h:=xNc (h:=xW Zb8 (h:=x1 lk3 0 (h:=xA (h:=Z5 [(0,_),(2,_),(3,_),(4,_)] t4 (Zc (Za (xM (h:=Zj (ZiG 0 rfl rfl rfl ZvY rfl (Zqe _ _ _ oz oz _) ?_)))))))))))))))
 refine xM (h:=xE (h:=xE (h:=xA (h:=xA (h:=ZD [(0,_),(2,_),(3,_),(4,_),(6,_)] [_] t5 rfl (Za (xM (h:=xN (h:=Z5 [(0,_),(2,_),(3,_),(4,_),(6,_),(20,_)] t6 (Zb rfl (fun g1=>?_) (fun g1=>?_)))))))))))
 try simp only [sQ,ne_eq] at g1
 refine Za (xA (h:=xA (h:=Z5 [(0,_),(2,_),(3,_),(4,_),(6,_),(20,_)] t6 (Zd (Zl ?_)))))
 exact ZvW .ret (.inl rfl) [_,_] 0 rfl t2 ⟨ZiN (by simp [Zim,Zm0 g1]) (Zf (by simp [Zm1,Zm0 g1])),rfl,by rw [Zm0 g1]⟩
 try simp only [sQ,ne_eq] at g1
 refine wSk (Zc (Za (xA (h:=Z5 [(0,_),(2,_),(3,_),(4,_),(6,_),(7,_),(20,_)] t7 (Zg (Zkl (α:=Nat × Nat) (fun x=>[(0,ptr ⟨b,0,none⟩),(4,.int .i64 i),(7,.int .i64 x.1)]) (fun x=>[cur b l x.2]) (fun x Bx=>Bx=B∧1≤x.1∧x.1≤3∧i≤x.2∧x.2≤l.length∧dom l i=more (3 - x.1) l x.2) (fun x=>3 - x.1) (1,i+(word l i).length) t3 rfl (⟨rfl,oz,oz,oz,ZhE hi,ZtI g1⟩) (fun x B1 hle1 hI=>?_)))))))
 obtain ⟨rfl,hk1,hk3,hix,hxl,hd⟩:=hI
 refine Zc (Za (xM (h:=ZG (h:=xM (h:=Zs (d:=23) rfl (fun g2=>?_) (fun g2=>?_))))))
 try simp only [sQ,ne_eq] at g2
 refine xM (h:=Zj (ZiG 0 rfl rfl rfl Zzz rfl (ZwJ _ _ _ oz oz 46 _) ?_))
 refine xT (h:=ZD [(0,_),(4,_),(7,_),(26,_)] [_] t4 rfl (Zb rfl (fun g3=>?_) (fun g3=>?_)))
 try simp only [sQ,ne_eq] at g3
 rw [if_pos g3]
 have hx2:=ZbR g3
 refine wSk (Zc (Zg (Za (xM (h:=Zj (ZiG 0 rfl rfl rfl ZvY rfl (Zqe _ _ _ oz oz _) ?_))))))
 refine xM (h:=xE (h:=xE (h:=xA (h:=xA (h:=ZD [(0,_),(4,_),(7,_),(9,_),(26,_)] [_] t5 rfl (Za (xM (h:=xN (h:=Z5 [(0,_),(4,_),(7,_),(9,_),(26,_),(35,_)] t6 (Zb rfl (fun g4=>?_) (fun g4=>?_)))))))))))
 try simp only [sQ,ne_eq] at g4
 refine Za (xA (h:=xA (h:=Z5 [(0,_),(2,_),(3,_),(4,_),(7,_),(9,_),(26,_),(35,_)] t8 (Zd (ZA (Zl (Zu1 (ZA (Zl ?_)))))))))
 have hdd:=hd.trans (Zs3 oz g3 g4)
 exact ZvW .ret (.inl rfl) [_,_] 0 rfl t2 ⟨ZiN (by simp [Zim,hdd]) (Zf (by simp [Zm1,hdd])),rfl,by rw [hdd]⟩
 try simp only [sQ,ne_eq] at g4
 refine ZS (ZK (Zn (Ze (xM (h:=Zj (Zgz rfl rfl rfl rfl (by first | exact Zcy oz oz | rfl) ?_))))))
 refine xA (h:=?_)
 exact Zok (x.1+1,x.2+1+(word l (x.2+1)).length) (so) ⟨rfl,so,so,so,ZhE oz,by rw [hd,Zqj oz g3 g4];rw [show 3 - (x.1+1)=3 - x.1 - 1 from by omega]⟩ t3 rfl
 try simp only [sQ,ne_eq] at g3
 rw [if_neg g3]
 replace hd:=hd.trans (ZhW g3)
 refine ZE (ZT (Zoj (Zv (Zn (Zc (Z3 (same _ _) mo kr ⟨rfl,rfl⟩ (fun _ _=>?_)))))))
 refine aM 0 rfl (h:=aNc 1 rfl (h:=aW 2 rfl ZgU (h:=aT 3 rfl (Zaf fun D=>Zo rfl rfl lk9 rfl (atL 0 rfl rfl rfl) r4) (h:=aM 4 rfl (h:=aM 5 rfl (h:=aNc 6 rfl (h:=aW 7 rfl Zb8 (h:=aT 8 rfl (Zaf fun D=>Zo rfl rfl lk3 rfl (atL 0 rfl rfl rfl) r4) (h:=aT 9 rfl (Zaf fun D=>Zgd rfl rfl Tryz.underlying9 rfl (a:=i) (b:=x.2) ⟨_,_,rfl,rfl⟩ ⟨_,_,rfl,rfl⟩ oz oz r4) (h:=?_))))))))))
 refine aM 10 rfl (h:=aNc 11 rfl (h:=aW 12 rfl Zb8 (h:=aT 13 rfl (Zaf fun D=>Zo rfl rfl lk3 rfl (atL 0 rfl rfl rfl) r4) (h:=aM 14 rfl (h:=aT 15 rfl (Zaf fun D=>Zjk rfl rfl rfl rfl (by first | exact Zcy oz oz | rfl) r4) (h:=?_))))))
 refine Zwc 16 rfl (h:=aA 17 rfl (h:=aA 18 rfl (h:=Zu kr kr ?_)))
 refine Zn (Z5 [(0,_),(2,_),(3,_),(4,_),(7,_),(26,_)] t6 (Zd ?_))
 exact ZvW .ret (.inl rfl) [_,_] 0 rfl t2 ⟨ZiN (by simp [Zim,hd]) (Zf (by rw [Bool.eq_iff_iff];simp [Zm1,hd];omega)),rfl,by rw [hd]⟩
 try simp only [sQ,ne_eq] at g2
 replace hd:dom l i=(true,x.2):=hd.trans (by rw [show 3 - x.1=0 from by omega];rfl)
 refine xP (h:=xP (h:=xF (h:=Z5 [(0,_),(4,_),(7,_),(26,_)] t4 (Zb (t:=false) rfl (fun h=>Bool.noConfusion h) (fun _=>ZE (ZT (Zoj (Zv (Zn (Zc (Z3 (same _ _) mo kr ⟨rfl,rfl⟩ (fun _ _=>?_))))))))))))
 refine aM 0 rfl (h:=aNc 1 rfl (h:=aW 2 rfl ZgU (h:=aT 3 rfl (Zaf fun D=>Zo rfl rfl lk9 rfl (atL 0 rfl rfl rfl) r4) (h:=aM 4 rfl (h:=aM 5 rfl (h:=aNc 6 rfl (h:=aW 7 rfl Zb8 (h:=aT 8 rfl (Zaf fun D=>Zo rfl rfl lk3 rfl (atL 0 rfl rfl rfl) r4) (h:=aT 9 rfl (Zaf fun D=>Zgd rfl rfl Tryz.underlying9 rfl (a:=i) (b:=x.2) ⟨_,_,rfl,rfl⟩ ⟨_,_,rfl,rfl⟩ oz oz r4) (h:=?_))))))))))
 refine aM 10 rfl (h:=aNc 11 rfl (h:=aW 12 rfl Zb8 (h:=aT 13 rfl (Zaf fun D=>Zo rfl rfl lk3 rfl (atL 0 rfl rfl rfl) r4) (h:=aM 14 rfl (h:=aT 15 rfl (Zaf fun D=>Zjk rfl rfl rfl rfl (by first | exact Zcy oz oz | rfl) r4) (h:=?_))))))
 refine Zwc 16 rfl (h:=aA 17 rfl (h:=aA 18 rfl (h:=Zu kr kr ?_)))
 refine Zn (Z5 [(0,_),(2,_),(3,_),(4,_),(7,_),(26,_)] t6 (Zd ?_))
 exact ZvW .ret (.inl rfl) [_,_] 0 rfl t2 ⟨ZiN (by simp [Zim,hd]) (Zf (by rw [Bool.eq_iff_iff];simp [Zm1,hd];omega)),rfl,by rw [hd]⟩

theorem Zcd (l:List UInt8) (hl:l.length≤2000000) (B:Kn):Z8 (pj J) 180 [str l] B (.bool (Zay l)):=by
 refine cB 16 Tryz.func180 (h:=?_)
 refine Za (xA (h:=Z5 [(0,_),(2,_)] t2 (Za (xM (h:=xB [(0,_)] [_,_] [_,_] ZwV Zr1 (h:=xAl [_,_] Zr1 (h:=fun b0=>xS [_,_] 0 [_,_] ZwP (h:=ZD [(0,_),(2,_),(3,_)] [_] t3 rfl (Za (Zj (ZiG 0 rfl rfl rfl ZvY rfl (Zqe _ _ 0 oz hl _) ?_)))))))))))
 refine xM (h:=xE (h:=xE (h:=xA (h:=xA (h:=ZD [(0,_),(2,_),(3,_),(5,_)] [_] t4 rfl (Za (xM (h:=xM (h:=Zs (d:=13) rfl (fun g1=>?_) (fun g1=>?_))))))))))
 refine Zj (ZiJ 0 rfl rfl rfl ZtF rfl (ZnS _ _ (0+(word l 0).length) (ZhE (Nat.zero_le _)) oz _) ?_)
 refine xT (h:=xA (h:=Z5 [(0,_),(2,_),(3,_),(5,_)] t4 (Zd ?_)))
 exact eR t1 ⟨Zf (by rw [Zdt];simp [g1];try omega),rfl,rfl⟩
 refine xP (h:=xF (h:=xA (h:=Z5 [(0,_),(2,_),(3,_),(5,_)] t4 (Zd ?_))))
 exact eR t1 ⟨Zf (by rw [Zdt];simp [g1];try omega),rfl,rfl⟩

abbrev Zya (s : Cells) (q : Option Addr) (m cp : Nat) (ls : List (List UInt8)) : Prop := Ziu s q m cp 9 1 (ls.map str)
theorem Zkp {s:Cells} {q:Option Addr} {m cp:Nat} {ls:List (List UInt8)} {a:List UInt8} (h:Ziu s q m cp 9 1 (ls.map str ++ [str a])):Zya s q m cp (ls ++ [a]):=by
 unfold Zya
 rw [List.map_append]
 exact h
theorem Zvl (l:List UInt8) (hl:l.length≤2000000) (x0:UInt8) (B:Kn):ZBg (pj J) 119 [str l,.int .u8 x0.toNat] B (fun v s=>∃q cp,v = .slice q (cut x0 l).length cp∧Zya s q (cut x0 l).length cp (cut x0 l)):=by
 refine cB 35 Tryz.func119 (h:=?_)
 refine Za (xA (h:=Z5 [(0,_),(1,_),(4,_)] t3 (Za (xBs [] [] Tryz.underlying134 sz9 zo9 (h:=fun b0=>xA (h:=ZD [(0,_),(1,_),(4,_),(5,_)] [_] t4 rfl (Za (xA (h:=Z5 [(0,_),(1,_),(4,_),(5,_),(6,_)] t5 (Zc (Za (xA (h:=Z5 [(0,_),(1,_),(4,_),(5,_),(6,_),(7,_)] t6 (Zg (Zkl (α:=CutSt) (fun x=>[(0,str l),(1,.int .u8 x0.toNat),(5,.slice x.q x.m x.cp),(6,.int .i64 x.f),(7,.int .i64 x.i)]) (fun x=>[x.s]) (fun x Bx=>Bx=B∧x.f≤x.i∧x.i≤l.length∧x.m≤x.i∧x.m=x.ps.length∧Zya x.s x.q x.m x.cp x.ps∧cut x0 l=x.ps ++ glue ((l.take x.i).drop x.f) (cut x0 (l.drop x.i))) (fun x=>l.length - x.i) ⟨0,0,0,[],some ⟨b0,0,none⟩,0,ZN b0 [] 9⟩ t5 rfl (⟨rfl,Nat.le_refl _,Nat.zero_le _,Nat.le_refl _,rfl,Ziu.lit rfl,by simp [ZnL (ZnV x0 l)]⟩) (fun x B1 hle1 hI=>?_))))))))))))))))
 obtain ⟨rfl,hf,hi,hn,hm,hv,hc⟩:=hI
 refine Zc (Za (xM (h:=xM (h:=xVs Tryz.underlying9 (h:=ZG (h:=Z5 [(0,_),(1,_),(5,_),(6,_),(7,_),(12,_)] t6 (Zb rfl (fun g1=>?_) (fun g1=>?_))))))))
 try simp only [sQ,ne_eq] at g1
 obtain ⟨c,hx⟩ :∃c,l[x.i]? = some c:=⟨_,List.getElem?_eq_getElem oz⟩
 refine wSk (Zc (Zg (Za (xM (h:=xM (h:=Zj (Zen rfl rfl Tryz.underlying9 rfl rfl oz hx ?_)))))))
 refine xM (h:=ZaH (h:=Z5 [(0,_),(1,_),(5,_),(6,_),(7,_),(12,_),(19,_)] t7 (Zb rfl (fun g2=>?_) (fun g2=>?_))))
 try simp only [sQ,ne_eq] at g2
 refine Za (xM (h:=xM (h:=xM (h:=xM (h:=Zj (Zgd rfl rfl Tryz.underlying9 rfl (a:=x.f) (b:=x.i) ⟨_,_,rfl,rfl⟩ ⟨_,_,rfl,rfl⟩ oz oz ?_))))))
 refine xBs [(0,_)] [_] Tryz.underlying134 sz9 zo9 (h:=fun b1=>Zj (Zfh 0 rfl (hv) rfl rfl Zrp ZsA rfl rfl (Zc4.box 1 rfl) rfl rfl oz (fun l1 p1 c1 hv1=>?_)))
 refine xA (h:=ZD [(0,_),(1,_),(5,_),(6,_),(7,_),(12,_),(19,_)] [_,_] t7 rfl (Zpk [0] rfl (Ze (xM (h:=Zj (Zgz rfl rfl rfl rfl (by first | exact Zcy oz oz | rfl) ?_))))))
 refine xA (h:=ZK (Zn (Ze (xM (h:=Zj (Zgz rfl rfl rfl rfl (by first | exact Zcy oz oz | rfl) ?_))))))
 refine xA (h:=?_)
 exact Zok ⟨x.i+1,x.i+1,x.m+1,x.ps ++ [(l.take x.i).drop x.f],p1,c1,l1⟩ (so) ⟨rfl,Nat.le_refl _,so,so,by simp [hm],Zkp hv1,by rw [hc,Zv6 hx (Zyt g2),List.append_assoc];simp [Ztt,ZnL (ZnV x0 _)]⟩ t5 rfl
 try simp only [sQ,ne_eq] at g2
 refine ZS (ZK (Zn (Ze (xM (h:=Zj (Zgz rfl rfl rfl rfl (by first | exact Zcy oz oz | rfl) ?_))))))
 refine xA (h:=?_)
 exact Zok ⟨x.i+1,x.f,x.m,x.ps,x.q,x.cp,x.s⟩ (so) ⟨rfl,so,so,so,hm,hv,by rw [hc,ZtK hx (Zys g2),ZqM,ZpE hx hf]⟩ t5 rfl
 try simp only [sQ,ne_eq] at g1
 obtain hie:x.i=l.length:=by omega
 rw [hie,List.take_length,List.drop_length] at hc
 refine ZE (ZT (Zoj (Zv (Zn (Za (xM (h:=xM (h:=xM (h:=Zj (Zgd rfl rfl Tryz.underlying9 rfl (a:=x.f) (b:=l.length) ⟨_,_,rfl,rfl⟩ rfl oz oz ?_))))))))))
 refine xBs [(0,_)] [_] Tryz.underlying134 sz9 zo9 (h:=fun b1=>Zj (Zfh 0 rfl (hv) rfl rfl Zrp ZsA rfl rfl (Zc4.box 1 rfl) rfl rfl oz (fun l2 p2 c2 hv2=>?_)))
 refine xA (h:=ZD [(0,_),(1,_),(4,_),(5,_),(6,_),(7,_),(12,_)] [_,_] t7 rfl (Zd ?_))
 have he:cut x0 l=x.ps ++ [l.drop x.f]:=by rw [hc];simp [cut,glue]
 have hlen:(cut x0 l).length=x.m+1:=by rw [he];simp [hm]
 exact ZdI .ret (.inl rfl) [_] [0] rfl ⟨rfl,trivial⟩ ⟨rfl,_,rfl,p2,c2,by rw [hlen];rfl,by rw [hlen,he];rw [List.take_length] at hv2;exact Zkp hv2⟩

theorem ZkE (l:List UInt8) (hl:l.length≤2000000) (B:Kn):Z8 (pj J) 70 [str l] B (.bool (Zc0 l)):=by
 refine cB 27 Tryz.func70 (h:=?_)
 refine Za (xA (h:=Z5 [(0,_),(2,_)] t2 (Za (xM (h:=Zj (Zwu rfl rfl ZAu rfl (Zvl _ hl 46 _) ?_))))))
 rintro _ s ⟨q,cp,rfl,hv⟩
 refine xA (h:=ZD [(0,_),(2,_),(3,_)] [_] t3 rfl (Zc (Za (xA (h:=Z5 [(0,_),(2,_),(3,_),(4,_)] t4 (Zg (Zkl (α:=Nat) (fun k=>[(0,str l),(3,.slice q (cut 46 l).length cp),(4,.int .i64 k)]) (fun k=>[s]) (fun k Bx=>Bx=B∧k≤(cut 46 l).length∧((cut 46 l).take k).all Zay=true) (fun k=>(cut 46 l).length - k) 0 t3 rfl (⟨rfl,Nat.zero_le _,by simp⟩) (fun k B1 hle1 hI=>?_))))))))
 obtain ⟨rfl,hk,ha⟩:=hI
 have hcc:=ZlA 46 l
 refine Zc (Za (xM (h:=xM (h:=xV Tryz.underlying134 (h:=ZG (h:=Z5 [(0,_),(3,_),(4,_),(10,_)] t4 (Zb rfl (fun g1=>?_) (fun g1=>?_))))))))
 try simp only [sQ,ne_eq] at g1
 obtain ⟨y,hy⟩ :∃y,(cut 46 l)[k]? = some y:=⟨_,List.getElem?_eq_getElem oz⟩
 have hyl:=Zm2 46 l y (List.mem_of_getElem? hy)
 obtain ⟨a,rfl,hsp,hat⟩:=hv.at (B:=B1) (L:=[s]) (i:=k) (v:=str y) 0 rfl (by rw [List.getElem?_map,hy];rfl)
 refine wSk (Zc (Zg (Za (xM (h:=xM (h:=Zj (ZbY rfl rfl Tryz.underlying134 sz9 rfl rfl oz oz ?_)))))))
 refine Zj (Zo rfl rfl lk9 rfl (ZxS hat) (xR ZmZ rfl (ZcG _ oz _) (h:=?_)))
 refine xN (h:=Z5 [(0,_),(3,_),(4,_),(10,_),(18,_)] t5 (Zb rfl (fun g2=>?_) (fun g2=>?_)))
 try simp only [sQ,ne_eq] at g2
 refine Za (xA (h:=Z5 [(0,_),(2,_),(3,_),(4,_),(10,_),(18,_)] t6 (Zd (ZA (Zl (Zu1 (ZA (Zl ?_))))))))
 exact eR t1 ⟨Zf (by simp [Zc0,ZlM hy g2]),rfl,rfl⟩
 try simp only [sQ,ne_eq] at g2
 refine ZS (ZK (Zn (Ze (xM (h:=Zj (Zgz rfl rfl rfl rfl (by first | exact Zcy oz oz | rfl) ?_))))))
 refine xA (h:=?_)
 exact Zok (k+1) oz ⟨rfl,oz,Zit hy g2 ha⟩ t3 rfl
 try simp only [sQ,ne_eq] at g1
 obtain hke:k=(cut 46 l).length:=by omega
 rw [hke,List.take_length] at ha
 refine ZE (ZT (Zoj (Zv (Zn (Za (xM (h:=xV Tryz.underlying134 (h:=ZbJ (h:=xM (h:=Zs (d:=22) rfl (fun g3=>?_) (fun g3=>?_)))))))))))
 try simp only [sQ,ne_eq] at g3
 refine xM (h:=xVs Tryz.underlying9 (h:=ZbJ (h:=xT (h:=xA (h:=Z5 [(0,_),(2,_),(3,_),(4,_),(10,_)] t5 (Zd ?_))))))
 exact eR t1 ⟨Zf (by rw [Bool.eq_iff_iff];simp [Zc0,ha];omega),rfl,rfl⟩
 try simp only [sQ,ne_eq] at g3
 refine xP (h:=xP (h:=xP (h:=xF (h:=xA (h:=Z5 [(0,_),(2,_),(3,_),(4,_),(10,_)] t5 (Zd ?_))))))
 exact eR t1 ⟨Zf (by rw [Bool.eq_iff_iff];simp [Zc0,ha];omega),rfl,rfl⟩

theorem Zgp (q:Option Addr) (cp:Nat) (us:List DUser) (u:Str) (B:Kn) (hu:SlK B q cp 3 Zp us):Z8 (pj J) 76 [.slice q us.length cp,str u] B (.int .i64 (Ze3 us u)):=by
 refine cB 20 Tryz.func76 (h:=?_)
 have hun:=hu.len
 refine Za (xA (h:=Zc (Za (xA (h:=Zg (Zy (α:=Nat) [0,1] (fun k=>[(5,.int .i64 k)]) [] (fun k=>[]) (fun k Bx=>Bx=B∧k≤us.length∧∀x,x∈us.take k→x.name≠u) (fun k=>us.length - k) 0 t1 rfl (⟨rfl,Nat.zero_le _,by simp⟩) (fun k B1 hle1 hI=>?_)))))))
 obtain ⟨rfl,hk,ha⟩:=hI
 refine ZD [(0,_),(1,_),(5,_)] [] t3 rfl (Zc (Za (xM (h:=xM (h:=xV Tryz.underlying35 (h:=ZG (h:=Zb rfl (fun g1=>?_) (fun g1=>?_))))))))
 try simp only [sQ,ne_eq] at g1
 refine wSk (Zc (Zg (Za (xM (h:=xM (h:=?_))))))
 obtain ⟨x,hx⟩:=ZX (xs:=us) (i:=k) om
 obtain ⟨bb3,oo3,rfl⟩:=hu.base hx
 obtain ⟨_,⟨rfl,hb4,hb4b⟩,hc4⟩:=hu.elem hx
 refine xIx Tryz.underlying35 Zbr (h:=xW Zbg (h:=y1 lk9 hc4 0 (h:=xM (h:=Zd0 (h:=Zb rfl (fun g2=>?_) (fun g2=>?_))))))
 try simp only [sQ,ne_eq] at g2
 refine Za (xM (h:=xA (h:=Zd (ZA (Zl (ZM (ZA (Zl ?_))))))))
 exact eR t1 ⟨ZF (Ztg hx g2 ha).symm,rfl,rfl⟩
 try simp only [sQ,ne_eq] at g2
 refine ZS (ZK (Zn (Ze (xM (h:=xD (h:=xA (h:=?_)))))))
 exact ZC (k+1) [] so2 ⟨rfl,oz,Za3 hx ha g2⟩ t3 rfl
 try simp only [sQ,ne_eq] at g1
 refine ZE (ZT (ZH (Zv (Zn (Za (xA (h:=Zd ?_)))))))
 exact eR t1 ⟨ZF (ZqC (Zbb oz ha)).symm,rfl,rfl⟩

theorem ZmW (q q':Option Addr) (cp cp':Nat) (xs ys:List Str) (B:Kn) (ha:SlK B q cp 1 ZdF xs) (hb:SlK B q' cp' 1 ZdF ys):Z8 (pj J) 196 [.slice q xs.length cp,.slice q' ys.length cp'] B (.bool (decide (xs=ys))):=by
 refine cB 26 Tryz.func196 (h:=?_)
 have han:=ha.len
 have hbn:=hb.len
 refine Za (xA (h:=Zc (Za (xM (h:=xV Tryz.underlying134 (h:=xM (h:=xV Tryz.underlying134 (h:=ZaP (h:=Zb rfl (fun g1=>?_) (fun g1=>?_))))))))))
 try simp only [sQ,ne_eq] at g1
 refine Za (xA (h:=Zd (Zl ?_)))
 exact eR t1 ⟨Zf (Zf4 g1),rfl,rfl⟩
 try simp only [sQ,ne_eq] at g1
 refine wSk (Zc (Za (xA (h:=Zg (Zy (α:=Nat) [0,1,10] (fun k=>[(5,.int .i64 k)]) [] (fun k=>[]) (fun k Bx=>Bx=B∧k≤xs.length∧xs.take k=ys.take k) (fun k=>xs.length - k) 0 t1 rfl (⟨rfl,Nat.zero_le _,by simp⟩) (fun k B1 hle1 hI=>?_))))))
 obtain ⟨rfl,hk,he⟩:=hI
 refine ZD [(0,_),(1,_),(5,_),(10,_)] [] t4 rfl (Zc (Za (xM (h:=xM (h:=xV Tryz.underlying134 (h:=ZG (h:=Zb rfl (fun g2=>?_) (fun g2=>?_))))))))
 try simp only [sQ,ne_eq] at g2
 refine wSk (Zc (Zg (Zc (Z3 (same _ _) mo kr ⟨rfl,rfl⟩ (fun _ _=>?_)))))
 refine aM 0 rfl (h:=aM 1 rfl (h:=?_))
 obtain ⟨x,hx⟩:=ZX (xs:=xs) (i:=k) om
 obtain ⟨bb3,oo3,rfl⟩:=ha.base hx
 obtain ⟨_,⟨rfl,hb4⟩,hc4⟩:=ha.elem hx
 refine aIx 2 rfl Tryz.underlying134 sz9 (h:=aT 3 rfl (Zaf fun D=>Zo rfl rfl lk9 rfl (hc4 _ 0 _ rfl) r4) (h:=aM 4 rfl (h:=aM 5 rfl (h:=?_))))
 obtain ⟨y,hy⟩:=ZX (xs:=ys) (i:=k) om
 obtain ⟨bb6,oo6,rfl⟩:=hb.base hy
 obtain ⟨_,⟨rfl,hb7⟩,hc7⟩:=hb.elem hy
 refine aIx 6 rfl Tryz.underlying134 sz9 (h:=aT 7 rfl (Zaf fun D=>Zo rfl rfl lk9 rfl (hc7 _ 0 _ rfl) r4) (h:=ZfK 8 rfl (h:=Zu kr kr ?_)))
 refine Zn (Zb rfl (fun g3=>?_) (fun g3=>?_))
 try simp only [sQ,ne_eq] at g3
 refine Za (xA (h:=Zd (ZA (Zl (ZM (ZA (Zl ?_)))))))
 exact eR t1 ⟨Zf (ZeH hx hy g3),rfl,rfl⟩
 try simp only [sQ,ne_eq] at g3
 refine ZS (ZK (Zn (Ze (xM (h:=xD (h:=xA (h:=?_)))))))
 exact ZC (k+1) [] so2 ⟨rfl,oz,Zbt hx hy g3 he⟩ t4 rfl
 try simp only [sQ,ne_eq] at g2
 refine ZE (ZT (ZH (Zv (Zn (Za (xA (h:=Zd ?_)))))))
 exact eR t1 ⟨Zf (eqT oz oz he),rfl,rfl⟩

theorem Zta (q:Option Addr) (cp:Nat) (xs:List Str) (u:Str) (B:Kn) (ha:SlK B q cp 1 ZdF xs):Z8 (pj J) 205 [.slice q xs.length cp,str u] B (.bool (decide (u∈xs))):=by
 refine cB 18 Tryz.func205 (h:=?_)
 have han:=ha.len
 refine Za (xA (h:=Zc (Za (xA (h:=Zg (Zy (α:=Nat) [0,1] (fun k=>[(5,.int .i64 k)]) [] (fun k=>[]) (fun k Bx=>Bx=B∧k≤xs.length∧∀x,x∈xs.take k→x≠u) (fun k=>xs.length - k) 0 t1 rfl (⟨rfl,Nat.zero_le _,by simp⟩) (fun k B1 hle1 hI=>?_)))))))
 obtain ⟨rfl,hk,hn⟩:=hI
 refine ZD [(0,_),(1,_),(5,_)] [] t3 rfl (Zc (Za (xM (h:=xM (h:=xV Tryz.underlying134 (h:=ZG (h:=Zb rfl (fun g1=>?_) (fun g1=>?_))))))))
 try simp only [sQ,ne_eq] at g1
 refine wSk (Zc (Zg (Za (xM (h:=xM (h:=?_))))))
 obtain ⟨x,hx⟩:=ZX (xs:=xs) (i:=k) om
 obtain ⟨bb3,oo3,rfl⟩:=ha.base hx
 obtain ⟨_,⟨rfl,hb4⟩,hc4⟩:=ha.elem hx
 refine xIx Tryz.underlying134 sz9 (h:=y1 lk9 hc4 0 (h:=xM (h:=Zd0 (h:=Zb rfl (fun g2=>?_) (fun g2=>?_)))))
 try simp only [sQ,ne_eq] at g2
 refine Za (xA (h:=Zd (ZA (Zl (ZM (ZA (Zl ?_)))))))
 exact eR t1 ⟨Zf (ZBo hx g2),rfl,rfl⟩
 try simp only [sQ,ne_eq] at g2
 refine ZS (ZK (Zn (Ze (xM (h:=xD (h:=xA (h:=?_)))))))
 exact ZC (k+1) [] so2 ⟨rfl,oz,Za3 hx hn g2⟩ t3 rfl
 try simp only [sQ,ne_eq] at g1
 refine ZE (ZT (ZH (Zv (Zn (Za (xA (h:=Zd ?_)))))))
 exact eR t1 ⟨Zf (ZBp (Zbb oz hn)),rfl,rfl⟩

theorem ZoH (q:Option Addr) (cp:Nat) (xs:List Str) (B:Kn) (ha:SlK B q cp 1 ZdF xs):Z8 (pj J) 165 [.slice q xs.length cp] B (.bool (Zc1 xs)):=by
 refine cB 29 Tryz.func165 (h:=?_)
 have han:=ha.len
 refine Za (xA (h:=Zc (Za (xA (h:=Zg (Zy (α:=Nat) [0] (fun k=>[(3,.int .i64 k)]) [] (fun k=>[]) (fun k Bx=>Bx=B∧k≤xs.length∧(xs.take k).all Zay=true∧(xs.take k).Nodup) (fun k=>xs.length - k) 0 t1 rfl (⟨rfl,Nat.zero_le _,by simp,by simp⟩) (fun k B1 hle1 hI=>?_)))))))
 obtain ⟨rfl,hk,hv,hn⟩:=hI
 refine ZD [(0,_),(3,_)] [] t2 rfl (Zc (Za (xM (h:=xM (h:=xV Tryz.underlying134 (h:=ZG (h:=Zb rfl (fun g1=>?_) (fun g1=>?_))))))))
 try simp only [sQ,ne_eq] at g1
 refine wSk (Zc (Zg (Zc (Z3 (same _ _) mo kr ⟨rfl,rfl⟩ (fun _ _=>?_)))))
 refine aM 0 rfl (h:=aM 1 rfl (h:=?_))
 obtain ⟨x,hx⟩:=ZX (xs:=xs) (i:=k) om
 obtain ⟨bb3,oo3,rfl⟩:=ha.base hx
 obtain ⟨_,⟨rfl,hb4⟩,hc4⟩:=ha.elem hx
 refine aIx 2 rfl Tryz.underlying134 sz9 (h:=aT 3 rfl (Zaf fun D=>Zo rfl rfl lk9 rfl (hc4 _ 0 _ rfl) r4) (h:=aT 4 rfl (Zaf fun D=>Z9 rfl rfl ZmZ rfl (ZcG _ om2 _) r4) (h:=?_)))
 refine aN 5 rfl (h:=aM 6 rfl (h:=ZaF (d:=16) rfl (fun g2=>?_) (fun g2=>?_)))
 try simp only [sQ,ne_eq] at g2
 refine aZ 7 rfl (h:=aZ 8 rfl (h:=aZ 9 rfl (h:=aZ 10 rfl (h:=aZ 11 rfl (h:=aZ 12 rfl (h:=aZ 13 rfl (h:=aZ 14 rfl (h:=aPT 15 rfl (h:=Zu kr kr ?_)))))))))
 refine Zn (Zb (t:=true) rfl (fun _=>Za (xA (h:=Zd (ZA (Zl (ZM (ZA (Zl ?_)))))))) (fun h=>Bool.noConfusion h))
 exact eR t1 ⟨Zf (Zhf hx g2),rfl,rfl⟩
 try simp only [sQ,ne_eq] at g2
 refine aM 7 rfl (h:=aM 8 rfl (h:=?_))
 obtain ⟨hq6,q6,cp6,hv6,hr6⟩:=ha.cutE 0 k om om
 have hr6n:=hr6.len
 refine aT 9 rfl (Zaf fun D=>Zpr (a:=0) (b:=k) hv6 om hq6 rfl rfl Tryz.underlying134 sz9 rfl rfl ⟨_,_,rfl,by first | omega | (simp;done) | (simp;omega)⟩ r4) (h:=?_)
 refine aM 10 rfl (h:=aM 11 rfl (h:=aIx 12 rfl Tryz.underlying134 sz9 (h:=aT 13 rfl (Zaf fun D=>Zo rfl rfl lk9 rfl (hc4 _ 0 _ rfl) r4) (h:=aT 14 rfl (Zaf fun D=>Z9 rfl rfl ZzB rfl (Zta _ _ _ _ _ hr6) r4) (h:=aPF 15 rfl (h:=Zu kr kr ?_))))))
 refine Zn (Zb rfl (fun g3=>?_) (fun g3=>?_))
 try simp only [sQ,ne_eq] at g3
 refine Za (xA (h:=Zd (ZA (Zl (ZM (ZA (Zl ?_)))))))
 exact eR t1 ⟨Zf (Zhe hx (by simpa using g3)),rfl,rfl⟩
 try simp only [sQ,ne_eq] at g3
 refine ZS (ZK (Zn (Ze (xM (h:=xD (h:=xA (h:=?_)))))))
 exact ZC (k+1) [] so2 ⟨rfl,oz,Zit hx g2 hv,Zqc hx hn (by simpa using g3)⟩ t2 rfl
 try simp only [sQ,ne_eq] at g1
 refine ZE (ZT (ZH (Zv (Zn (Za (xM (h:=xV Tryz.underlying134 (h:=ZbJ (h:=xA (h:=Zd ?_))))))))))
 exact eR t1 ⟨Zf (ZhV oz hv hn),rfl,rfl⟩

theorem ZkD (q:Option Addr) (cp:Nat) (x:DLetter) (B:Kn) (ha:SlK B q cp 1 ZdF x.to_) (h1:x.fr.length≤2000000) (h2:x.text.length≤2000000):Z8 (pj J) 121 [.agg #[str x.fr,.slice q x.to_.length cp,str x.text]] B (.bool (ZcR x)):=by
 refine cB 23 Tryz.func121 (h:=?_)
 refine Za (xBx [_,_,_] (h:=fun b1=>xA (h:=tL1 (Za (xW ZqU (h:=x1 lk9 0 (h:=xR ZmZ rfl (ZcG _ om2 _) (h:=?_))))))))
 refine xM (h:=Zs (d:=6) rfl (fun g1=>?_) (fun g1=>?_))
 try simp only [sQ,ne_eq] at g1
 refine xW ZmR (h:=x1 ZfV 0 (h:=xR ZzY rfl (ZoH _ _ _ _ ha) (h:=xT (h:=xM (h:=Zs (d:=11) rfl (fun g2=>?_) (fun g2=>?_))))))
 try simp only [sQ,ne_eq] at g2
 refine xW ZmR (h:=x1 ZfV 0 (h:=xV Tryz.underlying134 (h:=Zek (h:=xT (h:=xM (h:=Zs (d:=17) rfl (fun g3=>?_) (fun g3=>?_)))))))
 try simp only [sQ,ne_eq] at g3
 refine xW ZqT (h:=x1 lk9 0 (h:=xVs Tryz.underlying9 (h:=ZbJ (h:=xT (h:=xA (h:=Zd ?_))))))
 exact eR t1 ⟨Zf (by rw [Bool.eq_iff_iff];simp [ZcR,g1,g2,g3];try omega),rfl,rfl⟩
 try simp only [sQ,ne_eq] at g3
 refine xP (h:=xP (h:=xP (h:=xP (h:=xF (h:=xA (h:=Zd ?_))))))
 exact eR t1 ⟨Zf (by rw [Bool.eq_iff_iff];simp [ZcR,g1,g2,g3];try omega),rfl,rfl⟩
 try simp only [sQ,ne_eq] at g2
 refine xP (h:=xP (h:=xP (h:=xP (h:=xF (h:=xM (h:=xP (h:=xP (h:=xP (h:=xP (h:=xF (h:=xA (h:=Zd ?_))))))))))))
 exact eR t1 ⟨Zf (by rw [Bool.eq_iff_iff];simp [ZcR,g1,g2];try omega),rfl,rfl⟩
 try simp only [sQ,ne_eq] at g1
 refine xP (h:=xP (h:=xP (h:=xF (h:=xM (h:=xP (h:=xP (h:=xP (h:=xP (h:=xF (h:=xM (h:=xP (h:=xP (h:=xP (h:=xP (h:=xF (h:=xA (h:=Zd ?_)))))))))))))))))
 exact eR t1 ⟨Zf (by rw [Bool.eq_iff_iff];simp [ZcR,g1];try omega),rfl,rfl⟩

theorem Zvs (q:Option Addr) (cp:Nat) (xs:List Str) (v:Str) (B:Kn) (ha:SlK B q cp 1 ZdF xs):Z8 (pj J) 281 [.slice q xs.length cp,str v] B (.int .i64 (ZyV xs v)):=by
 refine cB 19 Tryz.func281 (h:=?_)
 have han:=ha.len
 refine Za (xA (h:=Zc (Za (xM (h:=xV Tryz.underlying134 (h:=xM (h:=Zg (Zy (α:=Nat) [0,1,7] (fun k=>[(8,.int .i64 k)]) [] (fun k=>[]) (fun k Bx=>Bx=B∧k≤xs.length∧∀x,x∈xs.take k→decide (x=v)=false) (fun k=>xs.length - k) 0 t1 rfl (⟨rfl,Nat.zero_le _,by simp⟩) (fun k B1 hle1 hI=>?_)))))))))
 obtain ⟨rfl,hk,hn⟩:=hI
 refine ZD [(0,_),(1,_),(7,_),(8,_)] [] t4 rfl (Za (ZG (h:=Zc (Zb rfl (fun g1=>?_) (fun g1=>?_)))))
 try simp only [sQ,ne_eq] at g1
 refine wSk (Zc (Zg (Za (xM (h:=xA (h:=Za (xM (h:=xM (h:=xM (h:=?_))))))))))
 obtain ⟨x,hx⟩:=ZX (xs:=xs) (i:=k) om
 obtain ⟨bb3,oo3,rfl⟩:=ha.base hx
 obtain ⟨_,⟨rfl,hb4⟩,hc4⟩:=ha.elem hx
 refine xIx Tryz.underlying134 sz9 (h:=y1 lk9 hc4 0 (h:=Zd0 (h:=Zb rfl (fun g2=>?_) (fun g2=>?_))))
 try simp only [sQ,ne_eq] at g2
 refine Za (xM (h:=xA (h:=Zd (ZA (Zl (ZM (ZA (Zl ?_))))))))
 exact eR t1 ⟨ZF (Zhu hx (by simp [g2]) hn).symm,rfl,rfl⟩
 try simp only [sQ,ne_eq] at g2
 refine ZS (ZK (Zn (Ze (xD (h:=xM (h:=?_))))))
 exact ZC (k+1) [] so2 ⟨rfl,oz,Za3 hx hn (by simp [Ne.symm g2])⟩ t4 rfl
 try simp only [sQ,ne_eq] at g1
 refine ZE (ZT (ZH (Zv (Zn (Za (xA (h:=Zd ?_)))))))
 exact eR t1 ⟨ZF (Ze4 (Zbb oz hn)).symm,rfl,rfl⟩

theorem Zo1 (q:Option Addr) (cp:Nat) (xs:List Str) (v:Str) (B:Kn) (ha:SlK B q cp 1 ZdF xs):Z8 (pj J) 250 [.slice q xs.length cp,str v] B (.bool (decide (v∈xs))):=by
 refine cB 9 Tryz.func250 (h:=?_)
 refine Za (xA (h:=Za (xM (h:=xM (h:=xR Zzc rfl (Zvs _ _ _ _ _ ha) (h:=ZdZ (h:=xA (h:=Zd ?_))))))))
 exact eR t1 ⟨Zf (by rw [Bool.eq_iff_iff];simp [Zth]),rfl,rfl⟩

theorem Zmd (q:Option Addr) (cp:Nat) (xs:List Str) (B:Kn) (ha:SlK B q cp 1 ZdF xs):Z8 (pj J) 210 [.slice q xs.length cp] B (.bool (decide (1≤xs.length) && Zc1 xs)):=by
 refine cB 31 Tryz.func210 (h:=?_)
 have han:=ha.len
 refine Za (xA (h:=Zc (Za (xM (h:=xV Tryz.underlying134 (h:=ZG (h:=xM (h:=Zs (d:=8) rfl (fun g1=>?_) (fun g1=>?_)))))))))
 try simp only [sQ,ne_eq] at g1
 refine xP (h:=xP (h:=xP (h:=xT (h:=Zb (t:=true) rfl (fun _=>Za (xA (h:=Zd (Zl ?_)))) (fun h=>Bool.noConfusion h)))))
 exact eR t1 ⟨Zf (by simp;omega),rfl,rfl⟩
 try simp only [sQ,ne_eq] at g1
 refine xM (h:=xV Tryz.underlying134 (h:=Zek (h:=xF (h:=Zb rfl (fun g2=>?_) (fun g2=>?_)))))
 try simp only [sQ,ne_eq] at g2
 refine Za (xA (h:=Zd (Zl ?_)))
 exact eR t1 ⟨Zf (by simp [Zc1];omega),rfl,rfl⟩
 try simp only [sQ,ne_eq] at g2
 refine wSk (Zc (Za (xM (h:=xV Tryz.underlying134 (h:=xM (h:=Zg (Zy (α:=Nat) [0,12,13,14] (fun k=>[(15,.int .i64 k)]) [] (fun k=>[]) (fun k Bx=>Bx=B∧k≤xs.length∧(xs.take k).all Zay=true∧(xs.take k).Nodup) (fun k=>xs.length - k) 0 t1 rfl (⟨rfl,Nat.zero_le _,by simp,by simp⟩) (fun k B1 hle1 hI=>?_))))))))
 obtain ⟨rfl,hk,hv,hn⟩:=hI
 refine ZD [(0,_),(12,_),(13,_),(14,_),(15,_)] [] t5 rfl (Za (ZG (h:=Zc (Zb rfl (fun g3=>?_) (fun g3=>?_)))))
 try simp only [sQ,ne_eq] at g3
 refine wSk (Zc (Zg (Za (xM (h:=?_)))))
 obtain ⟨x,hx⟩:=ZX (xs:=xs) (i:=k) om
 obtain ⟨bb3,oo3,rfl⟩:=ha.base hx
 obtain ⟨_,⟨rfl,hb4⟩,hc4⟩:=ha.elem hx
 refine xIx Tryz.underlying134 sz9 (h:=y1 lk9 hc4 0 (h:=xA (h:=xA (h:=Za (xM (h:=xR Zlw rfl (Zcd _ om2 _) (h:=?_)))))))
 refine xN (h:=xM (h:=Zs (d:=23) rfl (fun g4=>?_) (fun g4=>?_)))
 try simp only [sQ,ne_eq] at g4
 refine xP (h:=xP (h:=xP (h:=xP (h:=xP (h:=xT (h:=Zb (t:=true) rfl (fun _=>Za (xA (h:=Zd (ZA (Zl (ZM (ZA (Zl ?_)))))))) (fun h=>Bool.noConfusion h)))))))
 exact eR t1 ⟨Zf (by rw [← Zhf hx g4,Bool.and_false]),rfl,rfl⟩
 try simp only [sQ,ne_eq] at g4
 refine xM (h:=xM (h:=?_))
 obtain ⟨hq6,q6,cp6,hv6,hr6⟩:=ha.cutE 0 k om om
 have hr6n:=hr6.len
 refine Zj (Zpr (a:=0) (b:=k) hv6 om hq6 rfl rfl Tryz.underlying134 sz9 rfl rfl ⟨_,_,rfl,by first | omega | (simp;done) | (simp;omega)⟩ ?_)
 refine xM (h:=xR Zzk rfl (Zo1 _ _ _ _ _ hr6) (h:=xF (h:=Zb rfl (fun g5=>?_) (fun g5=>?_))))
 try simp only [sQ,ne_eq] at g5
 refine Za (xA (h:=Zd (ZA (Zl (ZM (ZA (Zl ?_)))))))
 exact eR t1 ⟨Zf (by rw [← Zhe hx (by simpa using g5),Bool.and_false]),rfl,rfl⟩
 try simp only [sQ,ne_eq] at g5
 refine ZS (ZK (Zn (Ze (xD (h:=xM (h:=?_))))))
 exact ZC (k+1) [] so2 ⟨rfl,oz,Zit hx g4 hv,Zqc hx hn (by simpa using g5)⟩ t5 rfl
 try simp only [sQ,ne_eq] at g3
 refine ZE (ZT (ZH (Zv (Zn (Za (xA (h:=Zd ?_)))))))
 exact eR t1 ⟨Zf (by rw [← ZhV oz hv hn];simp;omega),rfl,rfl⟩

theorem Zlh (q:Option Addr) (cp:Nat) (x:DLetter) (B:Kn) (ha:SlK B q cp 1 ZdF x.to_) (h1:x.fr.length≤2000000) (h2:x.text.length≤2000000):Z8 (pj J) 173 [.agg #[str x.fr,.slice q x.to_.length cp,str x.text]] B (.bool (ZcR x)):=by
 refine cB 17 Tryz.func173 (h:=?_)
 refine Za (xBx [_,_,_] (h:=fun b1=>xA (h:=tL1 (Za (xW ZqU (h:=x1 lk9 0 (h:=xR Zlw rfl (Zcd _ om2 _) (h:=?_))))))))
 refine xM (h:=Zs (d:=6) rfl (fun g1=>?_) (fun g1=>?_))
 refine xW ZmR (h:=x1 ZfV 0 (h:=xR Zzy rfl (Zmd _ _ _ _ ha) (h:=xT (h:=xM (h:=Zs (d:=11) rfl (fun g2=>?_) (fun g2=>?_))))))
 refine xW ZqT (h:=x1 lk9 0 (h:=xVs Tryz.underlying9 (h:=ZbJ (h:=xT (h:=xA (h:=Zd ?_))))))
 exact eR t1 ⟨Zf (by rw [ZeY];simp [g1,g2]),rfl,rfl⟩
 refine xP (h:=xP (h:=xP (h:=xP (h:=xF (h:=xA (h:=Zd ?_))))))
 exact eR t1 ⟨Zf (by rw [ZeY];simp [g1,g2]),rfl,rfl⟩
 refine xP (h:=xP (h:=xP (h:=xF (h:=xM (h:=xP (h:=xP (h:=xP (h:=xP (h:=xF (h:=xA (h:=Zd ?_)))))))))))
 exact eR t1 ⟨Zf (by rw [ZeY];simp [g1]),rfl,rfl⟩

theorem Zmb (aq:Option Addr) (cq:Nat) (q:DQueue) (B:Kn) (hq:SlK B aq cq 4 Zz q.items):Z8 (pj J) 72 [.agg #[.int .i64 q.next,.slice aq q.items.length cq]] B (.bool (Za6 q)):=by
 refine cB 48 Tryz.func72 (h:=?_)
 have hqn:=hq.len
 refine Za (xBx [_,_] (h:=fun b1=>xA (h:=tL1 (Za (xA (h:=Zc (Za (xA (h:=Zg (Zy (α:=Nat × Int) [0,1] (fun p=>[(3,.int .i64 p.2),(4,.int .i64 p.1)]) [] (fun p=>[]) (fun p Bx=>Bx=B∧p.1≤q.items.length∧Zd1 0 q.items=Zd1 p.2 (q.items.drop p.1)∧0≤p.2∧p.2≤99) (fun p=>q.items.length - p.1) (0,0) t2 rfl (⟨rfl,Nat.zero_le _,rfl,by decide,by decide⟩) (fun p B2 hle2 hI=>?_)))))))))))
 obtain ⟨rfl,hk,hs,hl0,hl1⟩:=hI
 refine ZD [(0,_),(1,_),(3,_),(4,_)] [_] t4 rfl (Zc (Za (xM (h:=xW ZbT (h:=x1 ZiZ 0 (h:=xV Tryz.underlying37 (h:=ZG (h:=Zb rfl (fun g1=>?_) (fun g1=>?_)))))))))
 try simp only [sQ,ne_eq] at g1
 refine wSk (Zc (Zg (Za (xW ZbT (h:=x1 ZiZ 0 (h:=xM (h:=?_)))))))
 obtain ⟨x,hx⟩:=ZX (xs:=q.items) (i:=p.1) om
 obtain ⟨bb4,oo4,rfl⟩:=hq.base hx
 obtain ⟨_,⟨qi5,ci5,rfl,hi5,hb5,hb5b⟩,hc5⟩:=hq.elem hx
 have hi5n:=hi5.len
 refine xIx Tryz.underlying37 ZbA (h:=?_)
 replace hs:=ZpW hs hx
 refine yL [_,_,_,_] ZeX hc5 0 (h:=xAl [_,_,_,_] Zft (h:=fun b6=>xS [_,_,_,_] 1 [_,_,_,_] ZbA (h:=tL2 (Zc (Za (xW ZeB (h:=x1 lk3 1 (h:=xM (h:=xD (h:=xR Zj0 rfl (Zcr _ _ _ _) (h:=xN (h:=xM (h:=Zs (d:=24) rfl (fun g2=>?_) (fun g2=>?_))))))))))))))
 try simp only [sQ,ne_eq] at g2
 refine xP (h:=xP (h:=xP (h:=xP (h:=xP (h:=xP (h:=xP (h:=xP (h:=xP (h:=xT (h:=Zb (t:=true) rfl (fun _=>Za (xA (h:=Zd (Zl (ZA (Zl (ZM (ZA (Zl ?_))))))))) (fun h=>Bool.noConfusion h)))))))))))
 exact eR t1 ⟨Zf (Zny (by rw [hs,if_neg];intro h;simp [h.1] at g2)),rfl,rfl⟩
 try simp only [sQ,ne_eq] at g2
 simp only [Bool.and_eq_true,decide_eq_true_eq] at g2
 refine xW ZeA (h:=x1 lk9 1 (h:=xW ZcM (h:=x1 ZfV 1 (h:=xW ZfZ (h:=x1 lk9 1 (h:=xB [(0,_),(1,_),(2,_)] [_,_,_] [_,_,_] ZwW Zwj (h:=xR ZAt rfl (ZkD _ _ ⟨x.fr,x.left,x.text⟩ _ hi5 oa oa) (h:=?_))))))))
 refine xN (h:=xF (h:=Zb rfl (fun g3=>?_) (fun g3=>?_)))
 try simp only [sQ,ne_eq] at g3
 refine Za (xA (h:=Zd (Zl (ZA (Zl (ZM (ZA (Zl ?_))))))))
 exact eR t1 ⟨Zf (Zny (by rw [hs,if_neg];intro h;rw [Ze1,g3] at h;cases h.2)),rfl,rfl⟩
 try simp only [sQ,ne_eq] at g3
 refine wSk (Ze (xW ZeB (h:=x1 lk3 1 (h:=xA (h:=ZK (Zn (Ze (xM (h:=xD (h:=xA (h:=?_)))))))))))
 exact ZC (p.1+1,x.id) [0] so2 ⟨rfl,so,by rw [hs,if_pos ⟨g2,g3⟩],so,so⟩ t4 rfl
 try simp only [sQ,ne_eq] at g1
 rw [Zrv oz,Zd1] at hs
 refine ZE (ZT (ZH (Zv (Zn (Za (xW Zgt (h:=x1 lk3 0 (h:=xM (h:=xD (h:=xR Zj0 rfl (Zcr _ _ _ _) (h:=xM (h:=Zs (d:=42) rfl (fun g1=>?_) (fun g1=>?_)))))))))))))
 try simp only [sQ,ne_eq] at g1
 refine xW ZbT (h:=x1 ZiZ 0 (h:=xV Tryz.underlying37 (h:=ZbJ (h:=xT (h:=xA (h:=Zd ?_))))))
 exact eR t1 ⟨Zf (by rw [← Znx hs,Bool.eq_iff_iff];simp [g1,g1];try omega),rfl,rfl⟩
 try simp only [sQ,ne_eq] at g1
 refine xP (h:=xP (h:=xP (h:=xP (h:=xF (h:=xA (h:=Zd ?_))))))
 exact eR t1 ⟨Zf (by rw [← Znx hs,Bool.eq_iff_iff];simp [g1,g1];try omega),rfl,rfl⟩

theorem Zax (aq:Option Addr) (cq:Nat) (q:DQueue) (B:Kn) (hq:SlK B aq cq 4 Zz q.items):Zw (pj J) 79 [.agg #[.int .i64 q.next,.slice aq q.items.length cq]] B [] (fun v B' Ls=>∃l a cp,Ls=[l]∧v = .agg #[.int .i64 q.next,.slice a q.items.length cp]∧ZW (B'.less B) l a cp 136 4 Zz q.items):=by
 refine cB 34 Tryz.func79 (h:=?_)
 have hqn:=hq.len
 refine Za (xBx [_,_] (h:=fun b1=>xAl [_,_] Zr0 (h:=fun b2=>tL2 (Za (xW Zgt (h:=x1 lk3 0 (h:=xBs [] [] Tryz.underlying37 ZbA Zft (h:=fun b3=>xB [(0,_),(1,_)] [_,_] [_,_] ZAR Zr0 (h:=xAl [_,_] Zr0 (h:=fun b4=>xS [_,_] 3 [_,_] ZuU (h:=tL4 (Zc (Za (xA (h:=Zg (Zy (α:=Gh DItem) [0,1,2,3] (fun g=>[(4,.int .i64 g.k)]) [2,3] (fun g=>[g.l,ZN b4 [.int .i64 q.next,.slice g.a g.xs.length g.c] 39]) (fun g Bx=>g.k≤q.items.length∧g.xs=q.items.take g.k∧ZW (Bx.less B) g.l g.a g.c 136 4 Zz g.xs) (fun g=>q.items.length - g.k) ⟨0,0,_,_,_,[]⟩ t1 rfl (⟨Nat.zero_le _,rfl,.lit0⟩) (fun g B5 hle5 hI=>?_)))))))))))))))))
 obtain ⟨hk,hxs,hv⟩:=hI
 have hxn:=congrArg List.length hxs
 rw [List.length_take] at hxn
 replace hq:=up1 hle5 hq
 refine ZD [(0,_),(1,_),(2,_),(3,_),(4,_)] [_,_,_,_] t5 rfl (Zc (Za (xM (h:=xW ZbT (h:=x1 ZiZ 0 (h:=xV Tryz.underlying37 (h:=ZG (h:=Zb rfl (fun g1=>?_) (fun g1=>?_)))))))))
 try simp only [sQ,ne_eq] at g1
 refine wSk (Zc (Zg (Za (xW ZbT (h:=x1 ZiZ 0 (h:=xM (h:=?_)))))))
 obtain ⟨x,hx⟩:=ZX (xs:=q.items) (i:=g.k) om
 obtain ⟨bb7,oo7,rfl⟩:=hq.base hx
 obtain ⟨_,⟨qi8,ci8,rfl,hi8,hb8,hb8b⟩,hc8⟩:=hq.elem hx
 have hi8n:=hi8.len
 refine xIx Tryz.underlying37 ZbA (h:=yL [_,_,_,_] ZeX hc8 0 (h:=xAl [_,_,_,_] Zft (h:=fun b9=>xS [_,_,_,_] 4 [_,_,_,_] ZbA (h:=tL5 (Za (xBs [] [] Tryz.underlying134 sz9 zo9 (h:=fun b10=>xW ZcM (h:=x1 ZfV 4 (h:=Zj (Zcz (R:=ZdF) 5 rfl (ZW.lit0 (R:=ZdF)) rfl rfl rfl Zrp ZsA rfl rfl rfl hi8.rows ZdF.one rfl om (fun l11 p11 c11 hv11=>?_)))))))))))
 refine xW ZcM (h:=xS [_] 4 [_,_,_,_] ZuW (h:=tL6 (Zwq 5 rfl hv11 ZdF.any om3 hle5 (fun B12 hle12 hr12f=>?_))))
 have hr12:=hr12f.mono ZdF.mono Kn.less_le
 replace hv:=hv.mono Zz.mono (Kn.less_mono hle12)
 have hr12n:=hr12.len
 refine Ze (xW ZbT (h:=x1 ZiZ 3 (h:=xL [_,_,_,_] ZeX 4 (h:=xBs [(0,_)] [_,_,_,_] Tryz.underlying37 ZbA Zft (h:=fun b13=>Zj (ZiK (z:=⟨x.id,x.fr,x.text,x.left⟩) (R:=Zz) 2 rfl hv rfl rfl rfl ZyZ ZAP rfl rfl (Zc4.box 6 rfl) rfl rfl (⟨_,_,rfl,hr12f,by first | assumption | omega | (simp;done) | (simp;omega),by first | assumption | omega | (simp;done) | (simp;omega)⟩) om (fun l14 p14 c14 hv14=>?_)))))))
 refine xW ZbT (h:=xS [_] 3 [_,_] ZyA (h:=ZK (Zn (Ze (xM (h:=xD (h:=xA (h:=?_))))))))
 exact ZC ⟨g.k+1,0,l14,p14,c14,(g.xs ++ [⟨x.id,x.fr,x.text,x.left⟩])⟩ [0,1,2,3] so2 ⟨so,by simp only [];rw [Zbs hx,hxs],hv14⟩ t5 rfl
 try simp only [sQ,ne_eq] at g1
 have hxe:g.xs=q.items:=by rw [hxs];exact List.take_of_length_le oz
 refine ZE (ZT (ZH (Zv (Zn (Za (xL [_,_] ZlR 3 (h:=xS [_,_] 1 [_,_] ZuU (h:=tL4 (Zd ?_)))))))))
 exact ZdI .ret (.inl rfl) [_] [2] rfl ⟨⟨_,rfl,.inr ⟨[_,_],ZlR,Zbu 1 rfl rfl rfl,rfl⟩⟩,trivial⟩ ⟨_,_,_,rfl,by rw [← hxe];rfl,hxe ▸ hv⟩

theorem ZmG (q:Option Addr) (cp:Nat) (x:DItem) (B:Kn) (hx:SlK B q cp 1 ZdF x.left):Zw (pj J) 240 [.agg #[.int .i64 x.id,str x.fr,str x.text,.slice q x.left.length cp]] B [] (fun v B' Ls=>B'=B∧∃ins a c,Ls=[ins]∧v = .agg #[.int .i64 x.id,str x.fr,str x.text,.slice a x.left.length c]∧ZrU 9 ins a c x.left):=by
 refine cB 9 Tryz.func240 (h:=?_)
 have hxn:=hx.len
 refine Za (xBx [_,_,_,_] (h:=fun b1=>xAl [_,_,_,_] Zft (h:=fun b2=>tL2 (Za (xBs [] [] Tryz.underlying134 sz9 zo9 (h:=fun b3=>xW ZcM (h:=x1 ZfV 0 (h:=Zj (Zcz (R:=ZdF) 2 rfl (ZW.lit0 (R:=ZdF)) rfl rfl rfl Zrp ZsA rfl rfl rfl hx.rows ZdF.one rfl om (fun l4 p4 c4 hv4=>?_))))))))))
 refine xW ZcM (h:=xS [_] 0 [_,_,_,_] ZuW (h:=tL3 (Za (xL [_,_,_,_] ZeX 0 (h:=xS [_,_,_,_] 1 [_,_,_,_] ZbA (h:=tL3 (Zd ?_)))))))
 exact eN [2] rfl ⟨⟨_,rfl,.inr ⟨[_,_,_,_],ZeX,Zbu 1 rfl rfl rfl,rfl⟩⟩,trivial⟩ ⟨rfl,_,_,_,rfl,rfl,(hv4).anyK ZdF.any⟩

theorem Zo4 (q:Option Addr) (m cp:Nat) (B:Kn):Zw (pj J) 239 [.slice q m cp] B [] (fun v B' Ls=>B'=B∧∃b,Ls=[ZN b [.slice q m cp] 37]∧v = .func (.func 263) #[] #[ptr ⟨b,0,none⟩]):=by
 refine cB 4 Tryz.func239 (h:=?_)
 refine Za (xBx [_] (h:=fun b1=>xA (h:=tL1 (Za (Zj (Zbz (xs:=[]) (ys:=[_]) rfl rfl rfl rfl (xA (h:=Zd ?_))))))))
 exact eN [0] rfl t1 ⟨rfl,_,rfl,rfl⟩

theorem Zwa (l bc:Nat) (q:Option Addr) (cp:Nat) (xs:List DItem) (Inv:Nat→Kn→Cells→Prop) (s0:Cells) (B:Kn) (hq:SlK B q cp 4 Zz xs) (hcc:Zan B bc 0 [.slice q xs.length cp]) (h0:Inv xs.length B s0) (hround :∀(j:Nat) (i:Int) (x:DItem) (row:List Value) (B':Kn) (s:Cells),B.le B'→Inv (j+1) B' s→xs[j]? = some x→Zz B' row x→∃lp,(l,Obj.loop lp)∈s∧lp.params.size=2∧ZrW (pj J) l lp.fn (ZlK lp.params lp.tmps [.int .i64 i,.agg row.toArray]) lp.assign lp.body B' s (fun B'' s'=>Inv j B'' s')):Zw (pj J) 263 [.func (.yield l) #[] #[],ptr ⟨bc,0,none⟩] B [s0] (fun v B' Ls=>∃s,Ls=[s]∧Inv 0 B' s):=by
 refine cB 19 Tryz.func263 (h:=?_)
 have hqn:=hq.len
 refine Za (Zj (Zo rfl rfl ZiZ rfl (hcc _ 0 _ rfl) (xV Tryz.underlying37 (h:=xU (h:=xA (h:=Zg (Zy (α:=Int × Cells) [0,1] (fun g=>[(3,.int .i64 g.1)]) [0] (fun g=>[g.2]) (fun g Bx=>-1≤g.1∧g.1<xs.length∧Inv (g.1+1).toNat Bx g.2) (fun g=>(g.1+1).toNat) ((xs.length:Int) - 1,s0) t1 rfl (⟨so,so,by rw [show ((xs.length:Int) - 1+1).toNat=xs.length from by omega];exact h0⟩) (fun g B1 hle1 hI=>?_))))))))
 obtain ⟨hk1,hk,hI⟩:=hI
 replace hq:=up1 hle1 hq
 replace hcc:=hcc.mono hle1
 refine ZD [(0,_),(1,_),(3,_)] [_] t3 rfl (Zc (Za (xM (h:=ZdZ (h:=Zb rfl (fun g1=>?_) (fun g1=>?_))))))
 try simp only [sQ,ne_eq] at g1
 refine wSk (Zc (Zg (Za (xM (h:=xM (h:=Zj (Zo rfl rfl ZiZ rfl (hcc _ 0 _ rfl) (xM (h:=?_)))))))))
 obtain ⟨x,hx⟩:=Ztu (xs:=xs) (i:=g.1) om om
 obtain ⟨bb3,oo3,rfl⟩:=hq.base hx
 obtain ⟨_,⟨qi4,ci4,rfl,hi4,hb4,hb4b⟩,hc4⟩:=hq.elem hx
 have hi4n:=hi4.len
 refine xIx Tryz.underlying37 ZbA (h:=?_)
 obtain ⟨lp,hl,hs,hr⟩:=hround g.1.toNat g.1 x _ _ g.2 (oy) (by rw [show g.1.toNat+1=(g.1+1).toNat from by omega];exact hI) hx ⟨_,_,rfl,oy,oy,oy⟩
 refine yL [_,_,_,_] ZeX hc4 0 (h:=Zj (ZuJ (j:=0) rfl hl rfl rfl rfl rfl hs.symm hr (fun Bc sc hlec hIc=>xN (h:=tL1 (Zb rfl (fun g2=>by cases g2) (fun g2=>?_))))))
 try simp only [sQ,ne_eq] at g2
 refine ZS (ZK (Zn (Ze (xM (h:=xU (h:=xA (h:=?_)))))))
 exact ZC (g.1 - 1,sc) [0] so2 ⟨so,so,by simp only [];rw [show (g.1 - 1+1).toNat=g.1.toNat from by omega];exact hIc⟩ t3 rfl
 try simp only [sQ,ne_eq] at g1
 refine ZE (ZT (ZH (Zv ?_)))
 exact ZdI .normal (.inr rfl) [] [0] rfl trivial ⟨_,rfl,by rw [show (g.1+1).toNat=0 from by omega] at hI;exact hI⟩

theorem Zmg (q:Option Addr) (cp:Nat) (x:DQueue) (B:Kn) (hx:SlK B q cp 4 Zz x.items):Zw (pj J) 188 [.agg #[.int .i64 x.next,.slice q x.items.length cp]] B [] (fun v B' Ls=>∃s,Ls=[s]∧Zg3 9 314 v x.items s):=by
 refine ZlG 17 Tryz.func188 rfl rfl rfl (Nat.le_of_ble_eq_true rfl) ?_
 refine ZeU (xBx [_,_] (h:=fun b1=>xA (h:=ZpF [(0,_),(1,_),(2,_)] [_] t3 rfl (ZeU (xAl [_] Zyf (h:=fun b2=>ZpF [(0,_),(1,_),(2,_),(3,_)] [_,_] t4 rfl (ZwK (ZeU (xW ZbT (h:=x1 ZiZ 0 (h:=xC Zzp rfl (Zo4 _ _ _ _) (h:=?_))))))))))))
 rintro _ B3 _ hle3 ⟨rfl,b3,rfl,rfl⟩
 refine ZpF [(0,_),(1,_),(2,_),(3,_),(8,_)] [_,_,_] t5 rfl (ZuS (Zyy 2 rfl (fun B4 hle4 hm4=>?_)))
 replace hx:=up1 hle4 hx
 have hcc:=Za5 hm4
 refine Zyx [1] rfl (Zss (J:=fun B' L'=>∃v s,L'=[ZN b2 [v] 267,s]∧Zg3 9 314 v x.items s) (cap:=[_]) rfl Zzd (fun lp l hTn hTS hps hasg hbd hst hlp=>?_) (fun r B9 L9 hle9 hJ=>?_))
 refine Zw.mono (Zwa l _ _ _ x.items (fun j B9 s9=>∃v cells,s9.Perm ((l,Obj.loop lp) :: (ZN b2 [v] 267 ++ cells))∧Zg3 9 314 v (x.items.drop j) cells) _ _ hx hcc ⟨.pointer none,[],by simp,by rw [List.drop_length];exact ⟨rfl,rfl⟩⟩ ?_) ?_
 rintro j i y row B9 s9 hle9 ⟨v,cells,hp,hl⟩ hy hrow
 obtain ⟨qy,cy,rfl,hy5,hy6,hy7⟩:=hrow
 have hy5n:=hy5.len
 obtain ⟨p9,rfl⟩:=hl.ptr
 obtain ⟨hA,hN⟩:=ZtW (a:=9) (b:=10) (x:=.int .i64 i) (y:=.agg #[.int .i64 y.id,str y.fr,str y.text,.slice qy y.left.length cy]) hTS hTn rfl rfl
 refine ⟨lp,hp.mem_iff.2 (List.mem_cons_self ..),by rw [hps];rfl,?_⟩
 rw [hps,hasg,hbd]
 refine ZpY (L:=[ZN b2 [.pointer p9] 267,cells]) (lp:=lp) hN [(3,_),(9,_),(10,_)] (hA.sub t3) (by simpa using hp) hst ?_
 refine Ze (xAl [_,_,_,_] Zft (h:=fun b4=>xS [_,_,_,_] 3 [_,_,_,_] ZbA (h:=⟨rfl,rfl,rfl,(tL4 (Zg (Z3 (keeps _ [1,3] _) mo kr ⟨Kn.le.refl _,Za7.refl _ _⟩ (fun _ _=>?_))))⟩)))
 refine aT 0 rfl (ZR fun D B L hI=>Z4 [_,_,_,_] rfl rfl ZeX rfl (Zbu 3 (hI.2.2.1.trans rfl) rfl rfl) r4) (h:=aT 2 rfl (ZR fun D B L hI=>Zo rfl rfl Zvi rfl (atL 1 (hI.2.1.trans rfl) rfl rfl) r4) (h:=ZB 1 kr rfl kr (Zag rfl rfl Zzo rfl (ZmG _ _ y _ hy5) ?_)))
 rintro _ B5 _ hle5 ⟨rfl,ins5,a5,c5,rfl,rfl,hs5⟩
 refine ⟨⟨Kn.le.refl _,t2⟩,(aT 3 rfl (ZR fun D B L hI=>Zas (parts:=[(0,_),(1,_)]) [_,_,_,_,_] [_,_,_,_,_] rfl rfl ZyF Zye rfl rfl rfl r4) (h:=ZB 4 kr rfl kr (Zpt (l:=[_,_,_,_,_]) rfl rfl rfl rfl (fun b6=>?_))))⟩
 refine ⟨⟨Kn.le.refl _,t2⟩,(Zar 5 kr rfl kr kr kr (ZL [_] 1 [_] rfl rfl ZyB rfl rfl rfl rfl rfl rfl rfl rfl ?_))⟩
 refine ZK (⟨rfl,rfl,(l,Obj.loop lp) :: (ZN b2 [ptr ⟨b6,0,none⟩] 267 ++ (ZN b6 ([.int .i64 y.id,str y.fr,str y.text,.slice a5 y.left.length c5] ++ [.pointer p9]) 314 ++ (ins5 ++ cells))),ZN b4 [.int .i64 y.id,str y.fr,str y.text,.slice qy y.left.length cy] 136,?_,_,_,.refl _,?_⟩)
 refine (Zal [0,1,5,4,2] _ _ _ rfl).trans ?_
 rw [hlp]
 simp [ZN]
 rw [Zru hy]
 exact ⟨_,_,_,_,_,rfl,.refl _,⟨_,_,rfl,hs5,oy,oy,oy⟩,hl⟩
 rintro _ B9 _ hle9 ⟨s9,rfl,v,cells,hp,hl⟩
 exact ⟨[ZN b2 [v] 267,cells],_,rfl,by simpa using hp,v,cells,rfl,by simpa using hl⟩
 obtain ⟨v,s9,rfl,hl⟩:=hJ
 refine ZK (Zn (Za (x1 Zvi 0 (h:=xA (h:=tL3 (Zd ?_))))))
 exact ⟨.inl rfl,r,2,rfl,rfl,[_],[_],t1,⟨_,List.perm_append_comm⟩,_,rfl,hl⟩

theorem Zp2 (nx:Int) (v:Value) (xs:List DItem) (cells:Cells) (B:Kn) (hn:xs.length≤2000000) (hv:Zg3 9 314 v xs cells):Zw (pj J) 187 [.int .i64 nx,v] B [cells] (fun v B' Ls=>B'=B∧∃l q c,Ls=[l]∧v = .agg #[.int .i64 nx,.slice q xs.length c]∧ZaV l q c 136 4 (ZaX 9) xs):=by
 refine cB 27 Tryz.func187 (h:=?_)
 obtain ⟨p,rfl⟩:=hv.ptr
 refine Za (xAl [_,_] Zr0 (h:=fun b1=>tL2 (Za (xM (h:=xBs [] [] Tryz.underlying37 ZbA Zft (h:=fun b2=>xB [(0,_),(1,_)] [_,_] [_,_] ZAR Zr0 (h:=xAl [_,_] Zr0 (h:=fun b3=>xS [_,_] 3 [_,_] ZuU (h:=tL4 (Zc (Za (xM (h:=xA (h:=Zg (Zy (α:=QOf) [0,1,4,5] (fun g=>[(6,.pointer g.p)]) [0,2,3] (fun g=>[g.cells,g.l,ZN b3 [.int .i64 nx,.slice g.q g.ys.length g.c] 39]) (fun g Bx=>Bx=B∧g.ys ++ g.xs=xs∧ZaV g.l g.q g.c 136 4 (ZaX 9) g.ys∧Zg3 9 314 (.pointer g.p) g.xs g.cells) (fun g=>g.xs.length) ⟨p,[],xs,_,_,_,_⟩ t1 rfl (⟨rfl,rfl,.lit0,hv⟩) (fun g B4 hle4 hI=>?_))))))))))))))))
 obtain ⟨rfl,hxs,hvd,hl⟩:=hI
 refine ZD [(0,_),(1,_),(4,_),(5,_),(6,_)] [_,_,_,_] t5 rfl (Zc (Za (xM (h:=Zj (Zua rfl rfl rfl rfl rfl (Zhv Tryz.underlying267) (Zb rfl (fun g1=>?_) (fun g1=>?_)))))))
 obtain ⟨y,ys,b8,q8,c8,np,ins8,rest8,hp8,hrest,hperm,hy5,hy6,hy7,hy8,hl8⟩:=hl.more (by simpa using g1)
 rw [hp8]
 have hlen:=congrArg List.length hxs
 rw [List.length_append,hrest,List.length_cons] at hlen
 replace hlen:g.ys.length+1≤2000000:=by omega
 refine Zel 0 rfl hperm (tL6 (wSk (Zc (Zg (Z3 (keeps _ [0,3] _) mo kr ⟨Kn.le.refl _,Za7.refl _ _⟩ (fun _ _=>?_))))))
 refine aW 0 rfl ZbT (h:=aT 1 rfl (ZR fun D B L hI=>Zo rfl rfl ZiZ rfl (atL 3 (hI.2.2.1.trans rfl) rfl rfl) r4) (h:=aM 2 rfl (h:=aNc 3 rfl (h:=aW 4 rfl ZvB (h:=aT 5 rfl (ZR fun D B L hI=>Z4 [_,_,_,_] rfl rfl ZeX rfl (Zbu 0 (hI.2.1.trans rfl) rfl rfl) r4) (h:=ZB 6 kr rfl kr (ZO (parts:=[(0,_)]) [_,_,_,_] rfl rfl Tryz.underlying37 ZbA Zft rfl rfl rfl rfl rfl (fun b5=>?_))))))))
 refine ⟨⟨Kn.le.refl _,t2⟩,(ZB 7 kr rfl kr (ZwF (R:=ZaX 9) (z:=y) 2 4 rfl rfl rfl hvd rfl rfl rfl ZyZ ZAP rfl rfl (Zc4.box 6 rfl) rfl rfl ⟨_,_,rfl,hy5,hy6,hy7,hy8⟩ oz (fun l9 q9 c9 hv9=>?_)))⟩
 refine ⟨⟨Kn.le.refl _,t2⟩,(aW 8 rfl ZbT (h:=Zar 9 kr rfl kr kr kr (ZL [_] 3 [_,_] rfl rfl ZyA rfl rfl rfl rfl rfl rfl rfl rfl ?_)))⟩
 refine ZK (Zn (Ze (xM (h:=xNc (h:=xW ZvA (h:=x1 Zvi 0 (h:=xA (h:=?_))))))))
 exact ZC ⟨np,g.ys ++ [y],ys,l9,q9,c9,rest8⟩ [5,1,2,3] (by rw [hrest];simp) ⟨rfl,by rw [← hxs,hrest];simp,hv9,hl8⟩ t5 rfl
 rw [hl.done (by simpa using g1),List.append_nil] at hxs
 subst hxs
 refine ZE (ZT (ZH (Zv (Zn (Za (xL [_,_] ZlR 3 (h:=xS [_,_] 1 [_,_] ZuU (h:=tL4 (Zd ?_)))))))))
 exact eN [2] rfl ⟨⟨_,rfl,.inr ⟨[_,_],ZlR,Zbu 1 rfl rfl rfl,rfl⟩⟩,trivial⟩ ⟨rfl,_,_,_,rfl,rfl,hvd⟩

theorem ZkM (q:Option Addr) (cp:Nat) (x:DQueue) (B:Kn) (hx:SlK B q cp 4 Zz x.items):Zw (pj J) 143 [.agg #[.int .i64 x.next,.slice q x.items.length cp]] B [] (fun v B' Ls=>∃l q c,Ls=[l]∧v = .agg #[.int .i64 x.next,.slice q x.items.length c]∧ZaV l q c 136 4 (ZaX 9) x.items):=by
 refine cB 8 Tryz.func143 (h:=?_)
 have hxn:=hx.len
 refine Za (xBx [_,_] (h:=fun b1=>xAl [_,_] Zr0 (h:=fun b2=>tL2 (Zc (Z3 (keeps _ [0] _) mo kr ⟨Kn.le.refl _,Za7.refl _ _⟩ (fun _ _=>?_))))))
 refine aW 0 rfl Zgt (h:=aT 1 rfl (ZR fun D B L hI=>Zo rfl rfl lk3 rfl (atL 0 (hI.2.1.trans rfl) rfl rfl) r4) (h:=aT 2 rfl (ZR fun D B L hI=>Z4 [_,_] rfl rfl ZlR rfl (Zbu 0 (hI.2.1.trans rfl) rfl rfl) r4) (h:=ZB 3 kr rfl kr (Zag rfl rfl ZzI rfl (Zmg _ _ x _ hx) ?_))))
 rintro _ B3 _ hle3 ⟨sl3,rfl,hl3⟩
 refine ⟨⟨hle3,t1⟩,(ZB 4 kr rfl kr (ZbH [2] rfl rfl rfl rfl ZzJ rfl (Zp2 _ _ _ _ _ oa hl3) ?_))⟩
 rintro _ B4 _ hle4 ⟨rfl,ld4,ad4,cd4,rfl,rfl,hd4⟩
 refine ⟨⟨hle3,t1⟩,(Zar 5 kr rfl kr kr kr (ZL [_,_] 1 [_,_] rfl rfl ZuU rfl rfl rfl rfl rfl rfl rfl rfl ?_))⟩
 refine Zn (tL3 (Zd ?_))
 exact eN [2] rfl ⟨⟨_,rfl,.inr ⟨[_,_],ZlR,Zbu 1 rfl rfl rfl,rfl⟩⟩,trivial⟩ ⟨_,_,_,rfl,rfl,hd4⟩

theorem ZqD (q:Option Addr) (m cp:Nat) (B:Kn):Z8 (pj J) 322 [.slice q m cp] B (.int .i64 m):=by
 refine cB 5 Tryz.func322 (h:=?_)
 refine Za (xA (h:=Za (xM (h:=xV Tryz.underlying285 (h:=xA (h:=Zd ?_))))))
 exact eR t1 ⟨rfl,rfl,rfl⟩

theorem Zgr (q:Option Addr) (cp:Nat) (xs:List Int) (i j:Nat) (a b:Int) (hi:xs[i]? = some a) (hj:xs[j]? = some b) (B:Kn) (hx:SlK B q cp 1 ZbU xs):Z8 (pj J) 323 [.slice q xs.length cp,.int .i64 i,.int .i64 j] B (.bool (decide (a<b))):=by
 refine cB 16 Tryz.func323 (h:=?_)
 have hil:=ZbR hi
 have hjl:=ZbR hj
 refine Za (xA (h:=Zc (Z3 (same _ _) mo kr ⟨rfl,rfl⟩ (fun _ _=>?_))))
 refine aM 0 rfl (h:=aM 1 rfl (h:=?_))
 obtain ⟨z,hz⟩:=ZX (xs:=xs) (i:=i) om
 obtain ⟨bb2,oo2,rfl⟩:=hx.base hz
 obtain ⟨_,rfl,hc3⟩:=hx.elem hz
 refine aIx 2 rfl Tryz.underlying58 sz3 (h:=aT 3 rfl (Zaf fun D=>Zo rfl rfl lk3 rfl (hc3 _ 0 _ rfl) r4) (h:=aM 4 rfl (h:=aM 5 rfl (h:=?_))))
 obtain ⟨w,hw⟩:=ZX (xs:=xs) (i:=j) om
 obtain ⟨_,rfl,hc5⟩:=hx.elem hw
 refine aIx 6 rfl Tryz.underlying58 sz3 (h:=?_)
 rw [hi] at hz
 cases hz
 rw [hj] at hw
 cases hw
 refine aT 7 rfl (Zaf fun D=>Zo rfl rfl lk3 rfl (hc5 _ 0 _ rfl) r4) (h:=Zt0 8 rfl (h:=aA 9 rfl (h:=Zu kr kr ?_)))
 refine Zn (Zd ?_)
 exact eR t1 ⟨rfl,rfl,rfl⟩

theorem Zti (b:Nat) (q:Option Addr) (cp:Nat) (xs:List Int) (l:Cells) (z:Int) (hn:xs.length≤2000000) (B:Kn) (hv:ZW B l q cp 3 1 ZbU xs):Zw (pj J) 325 [ptr ⟨b,0,none⟩,.iface 3 (.int .i64 z)] B [ZN b [.slice q xs.length cp] 285,l] (fun v B' Ls=>B'=B∧∃q' c' l',Ls=[ZN b [.slice q' (xs ++ [z]).length c'] 285,l']∧ZW B l' q' c' 3 1 ZbU (xs ++ [z])):=by
 refine cB 13 Tryz.func325 (h:=?_)
 refine Z3 (keeps _ [0] _) mo kr ⟨Kn.le.refl _,Za7.refl _ _⟩ (fun _ _=>?_)
 refine aM 0 rfl (h:=aM 1 rfl (h:=aNc 2 rfl (h:=aT 3 rfl (ZR fun D B L hI=>Zo rfl rfl Zfv rfl (atL 0 (hI.2.1.trans rfl) rfl rfl) r4) (h:=aM 4 rfl (h:=aT 5 rfl (ZR fun D B L hI=>Zko rfl rfl Tryz.underlying3 rfl rfl r4) (h:=ZB 6 kr rfl kr (ZO (parts:=[(0,_)]) [_] rfl rfl Tryz.underlying58 sz3 zo3 rfl rfl rfl rfl rfl (fun b1=>?_))))))))
 refine ⟨⟨Kn.le.refl _,t1⟩,(ZB 7 kr rfl kr (ZiK (z:=z) (R:=ZbU) 1 rfl hv rfl rfl rfl Zy0 ZyE rfl rfl (Zc4.box 2 rfl) rfl rfl (rfl) om (fun l2 p2 c2 hv2=>?_)))⟩
 refine ⟨⟨Kn.le.refl _,t1⟩,(aNc 8 rfl (h:=Zar 9 kr rfl kr kr kr (ZL [_] 0 [_] rfl rfl ZwN rfl rfl rfl rfl rfl rfl rfl rfl ?_)))⟩
 exact ZdI .normal (.inr rfl) [] [0,1] rfl trivial ⟨rfl,_,_,_,rfl,hv2⟩

theorem Zvv (b:Nat) (q:Option Addr) (cp:Nat) (xs:List Int) (l:Cells) (z:Int) (hz:xs[xs.length - 1]? = some z) (hn:xs.length≤2000000) (B:Kn) (hv:ZW B l q cp 3 1 ZbU xs):Zw (pj J) 324 [ptr ⟨b,0,none⟩] B [ZN b [.slice q xs.length cp] 285,l] (fun v B' Ls=>B'=B∧v = .iface 3 (.int .i64 z)∧Ls=[ZN b [.slice q (xs.length - 1) cp] 285,l]∧ZW B l q cp 3 1 ZbU (xs.take (xs.length - 1))):=by
 refine cB 25 Tryz.func324 (h:=?_)
 have hl1:=ZbR hz
 have hcp:=hv.cap
 have hv9:=hv.take (k:=xs.length - 1) oz
 have hs0:=hv.slice0 (sz:=1)
 refine Za (xA (h:=Za (xM (h:=xNc (h:=x1 Zfv 0 (h:=xV Tryz.underlying285 (h:=Zj (Zjk (r:=((xs.length - 1:Nat):Int)) rfl rfl rfl rfl (by rw [show ((xs.length:Int) - 1)=((xs.length - 1:Nat):Int) from by omega];exact Zcy oz oz) ?_))))))))
 refine xA (h:=Za (xM (h:=xNc (h:=x1 Zfv 0 (h:=xM (h:=?_))))))
 obtain ⟨w,hw⟩:=ZX (xs:=xs) (i:=(xs.length - 1)) om
 obtain ⟨bb2,_,hp2,rfl,hw2,hc2⟩:=hv.row hw
 refine xIp hp2 Tryz.underlying58 sz3 (h:=?_)
 rw [hz] at hw
 cases hw
 refine Zj (Zo rfl rfl lk3 rfl (hc2 _ 1 rfl 0 _ rfl) (xA (h:=Za (xM (h:=xM (h:=xNc (h:=x1 Zfv 0 (h:=xM (h:=Zj (Zne rfl rfl Tryz.underlying58 sz3 rfl (a:=0) (b:=xs.length - 1) rfl ⟨_,_,rfl,rfl⟩ oz oz ?_))))))))))
 rw [hs0]
 refine xNc (h:=xS [_] 0 [_] ZwN (h:=tL2 (Za (xM (h:=Zj (Zem rfl rfl Tryz.underlying3 rfl rfl (xA (h:=Zd ?_))))))))
 exact eN [0,1] rfl t1 ⟨rfl,rfl,rfl,hv9⟩

theorem Zgq (q:Option Addr) (cp:Nat) (xs:List Int) (l:Cells) (i j:Nat) (a b:Int) (hi:xs[i]? = some a) (hj:xs[j]? = some b) (hn:xs.length≤2000000) (B:Kn) (hv:ZW B l q cp 3 1 ZbU xs):Zw (pj J) 326 [.slice q xs.length cp,.int .i64 i,.int .i64 j] B [l] (fun v B' Ls=>B'=B∧∃l',Ls=[l']∧ZW B l' q cp 3 1 ZbU ((xs.set i b).set j a)):=by
 refine cB 20 Tryz.func326 (h:=?_)
 have hil:=ZbR hi
 have hjl:=ZbR hj
 refine Z3 (keeps _ [0] _) mo kr ⟨Kn.le.refl _,Za7.refl _ _⟩ (fun _ _=>?_)
 refine aM 0 rfl (h:=aM 1 rfl (h:=aM 2 rfl (h:=aM 3 rfl (h:=aM 4 rfl (h:=aM 5 rfl (h:=?_))))))
 obtain ⟨y,hy⟩:=ZX (xs:=xs) (i:=j) om
 obtain ⟨bb2,_,hp2,rfl,hw2,hc2⟩:=hv.row hy
 refine aT 6 rfl (ZR fun D B L hI=>Zkm hp2 rfl rfl Tryz.underlying58 sz3 rfl rfl om om r4) (h:=?_)
 refine aT 7 rfl (ZR fun D B L hI=>Zo rfl rfl lk3 rfl (hc2 _ 0 (hI.2.1.trans rfl) 0 _ rfl) r4) (h:=aM 8 rfl (h:=aM 9 rfl (h:=?_)))
 obtain ⟨x,hx⟩:=ZX (xs:=xs) (i:=i) om
 obtain ⟨bb4,_,hp4,rfl,hw4,hc4⟩:=hv.row hx
 refine aT 10 rfl (ZR fun D B L hI=>Zkm hp4 rfl rfl Tryz.underlying58 sz3 rfl rfl om om r4) (h:=?_)
 refine aT 11 rfl (ZR fun D B L hI=>Zo rfl rfl lk3 rfl (hc4 _ 0 (hI.2.1.trans rfl) 0 _ rfl) r4) (h:=?_)
 obtain ⟨bb5,_,hp5,rfl,hw5,hc5⟩:=hv.row hx
 refine aT 12 rfl (ZR fun D B L hI=>Zkm hp5 rfl rfl Tryz.underlying58 sz3 rfl rfl om om r4) (h:=?_)
 refine ZaU 13 kr rfl kr kr (ZeT (k:=i) (off:=0) (y) [_] 0 hv hp5 hx rfl rfl sz3 rfl rfl rfl rfl rfl rfl ((fun row h=>by cases h;rfl)) (fun l6 hv6=>?_))
 obtain ⟨w,hw⟩:=ZX (xs:=(xs.set i (y))) (i:=j) om
 obtain ⟨bb8,_,hp8,rfl,hw8,hc8⟩:=hv6.row hw
 refine aT 14 rfl (ZR fun D B L hI=>Zkm hp8 rfl rfl Tryz.underlying58 sz3 rfl rfl om om r4) (h:=?_)
 refine Zar 15 kr rfl kr kr kr (ZeT (k:=j) (off:=0) (x) [_] 0 hv6 hp8 hw rfl rfl sz3 rfl rfl rfl rfl rfl rfl ((fun row h=>by cases h;rfl)) (fun l9 hv9=>?_))
 rw [hi] at hx
 cases hx
 rw [hj] at hy
 cases hy
 exact ZdI .normal (.inr rfl) [] [0] rfl trivial ⟨rfl,_,rfl,hv9⟩

theorem Ztl (b:Nat) (q:Option Addr) (cp:Nat) (xs:List Int) (l:Cells) (j:Nat) (hj:j<xs.length) (hn:xs.length≤2000000) (hh:Zga xs j) (B:Kn) (hv:ZW B l q cp 3 1 ZbU xs):Zw (pj J) 251 [.iface 284 (ptr ⟨b,0,none⟩),.int .i64 j] B [ZN b [.slice q xs.length cp] 285,l] (fun v B' Ls=>B'=B∧∃ys l',Ls=[ZN b [.slice q ys.length cp] 285,l']∧ZW B l' q cp 3 1 ZbU ys∧ys.Perm xs∧ZdH ys):=by
 refine cB 23 Tryz.func251 (h:=?_)
 refine Zg (Zy (α:=Nat × List Int × Cells) [0] (fun g=>[(1,.int .i64 g.1)]) [0,1] (fun g=>[ZN b [.slice q g.2.1.length cp] 285,g.2.2]) (fun g Bx=>Bx=B∧g.1<g.2.1.length∧g.2.1.Perm xs∧Zga g.2.1 g.1∧ZW B g.2.2 q cp 3 1 ZbU g.2.1) (fun g=>g.1) (j,xs,l) t1 rfl (⟨rfl,hj,.refl _,hh,hv⟩) (fun g B1 hle1 hI=>?_))
 obtain ⟨rfl,hk,hp,hb,hv⟩:=hI
 have hpl:=hp.length_eq
 refine ZD [(0,_),(1,_)] [_,_] t2 rfl (Zg (Za (xM (h:=Zj (Zjk rfl rfl rfl rfl (Zcy oz oz) ?_)))))
 refine Zj (ZlU (r:=(((g.1 - 1) / 2:Nat):Int)) rfl rfl rfl rfl oz (by rw [show Int.tdiv ((g.1:Int) - 1) 2=(((g.1 - 1) / 2:Nat):Int) from Zyu g.1];exact Zcy oz oz) ?_)
 refine xA (h:=Zc (Za (xM (h:=xM (h:=ZaH (h:=xM (h:=Zs (d:=11) rfl (fun g1=>?_) (fun g1=>?_))))))))
 try simp only [sQ,ne_eq] at g1
 refine xP (h:=xP (h:=xP (h:=xP (h:=xP (h:=xT (h:=Zb (t:=true) rfl (fun _=>ZE (ZT (Zfn rfl (ZH (Zv ?_))))) (fun h=>Bool.noConfusion h)))))))
 exact ZdI .normal (.inr rfl) [] [0,1] rfl trivial ⟨rfl,_,_,rfl,hv,hp,ZuN (by rw [show g.1=0 from by omega] at hb;exact hb)⟩
 try simp only [sQ,ne_eq] at g1
 refine xM (h:=xM (h:=xM (h:=Zj (ZfM 1 rfl rfl rfl Zrs rfl rfl (Zbh Zd7 Tryz.underlying284 Zfv (atL 0 rfl rfl rfl)) (Z8.borrow fun hm2=>Zgr _ _ _ _ _ _ _ (ZaT oz) (ZaT oz) _ (hv.lend ZbU.mono hm2 om)) ?_))))
 refine xN (h:=xF (h:=Zb rfl (fun g2=>?_) (fun g2=>?_)))
 try simp only [sQ,ne_eq] at g2
 refine ZE (ZT (Zfn rfl (ZH (Zv ?_))))
 exact ZdI .normal (.inr rfl) [] [0,1] rfl trivial ⟨rfl,_,_,rfl,hv,hp,ZuP hb (by simpa using g2)⟩
 try simp only [sQ,ne_eq] at g2
 refine wSk (Za (xM (h:=xM (h:=xM (h:=Zj (Zhb [1] rfl rfl rfl rfl Zrr rfl rfl (Zbh Zd6 Tryz.underlying284 Zfv (atL 0 rfl rfl rfl)) (Zgq _ _ _ _ _ _ _ _ (ZaT oz) (ZaT oz) oz _ hv) ?_))))))
 rintro _ B3 _ hle3 ⟨rfl,l3,rfl,hv3⟩
 refine tL2 (Ze (xM (h:=xA (h:=ZK ?_))))
 rw [← Zdp g.2.1 ((g.1 - 1) / 2) g.1]
 exact ZC ((g.1 - 1) / 2,(swp g.2.1 ((g.1 - 1) / 2) g.1),l3) [0,1] (so) ⟨rfl,by have:=Zdp g.2.1 ((g.1 - 1) / 2) g.1;simp only [];omega,(Zgg oz oz).trans hp,ZuO oz oz hb (by simpa using g2),hv3⟩ t2 rfl

theorem ZoO (b:Nat) (q:Option Addr) (cp:Nat) (xs:List Int) (l:Cells) (z:Int) (hn:xs.length<2000000) (hh:ZdH xs) (B:Kn) (hv:ZW B l q cp 3 1 ZbU xs):Zw (pj J) 211 [.iface 284 (ptr ⟨b,0,none⟩),.iface 3 (.int .i64 z)] B [ZN b [.slice q xs.length cp] 285,l] (fun v B' Ls=>B'=B∧∃q' c' ys l',Ls=[ZN b [.slice q' ys.length c'] 285,l']∧ZW B l' q' c' 3 1 ZbU ys∧ys.Perm (xs ++ [z])∧ZdH ys):=by
 refine cB 12 Tryz.func211 (h:=?_)
 refine Za (xM (h:=xM (h:=Zj (Zhb [0,1] rfl rfl rfl rfl Zy9 rfl rfl (Zlp Zoz Tryz.underlying284) (Zti _ _ _ _ _ _ oz _ hv) ?_))))
 rintro _ B1 _ hle1 ⟨rfl,q1,c1,l1,rfl,hv1⟩
 refine tL2 (Ze (xM (h:=xM (h:=Zj (ZfM 1 rfl rfl rfl Zxy rfl rfl (Zbh ZkW Tryz.underlying284 Zfv (atL 0 rfl rfl rfl)) (Z8.borrow fun hm2=>ZqD _ _ _ _) (Zj (Zjk (r:=((xs.length:Nat):Int)) rfl rfl rfl rfl ((congrArg _ (show _=((xs.length:Nat):Int) from by rw [List.length_append,List.length_singleton];omega)).trans (Zcy oz oz)) ?_)))))))
 refine xK [0,1] rfl Zzj rfl (Ztl _ _ _ _ _ _ (by simp) (by simp;omega) (ZsH hh) _ hv1) (h:=?_)
 rintro _ Bu _ hleu ⟨rfl,ysu,lu,rfl,hvu,hpu,hhu⟩
 exact ZdI .normal (.inr rfl) [] [0,1] rfl trivial ⟨rfl,_,_,_,_,rfl,hvu,hpu,hhu⟩

theorem ZoQ (b:Nat) (q:Option Addr) (cp:Nat) (xs:List Int) (l:Cells) (m:Nat) (hm:m≤xs.length) (hm0:0<xs.length) (hn:xs.length≤2000000) (hh:Zfg xs m 0) (B:Kn) (hv:ZW B l q cp 3 1 ZbU xs):Zw (pj J) 252 [.iface 284 (ptr ⟨b,0,none⟩),.int .i64 0,.int .i64 m] B [ZN b [.slice q xs.length cp] 285,l] (fun v B' Ls=>B'=B∧∃ys l',Ls=[ZN b [.slice q ys.length cp] 285,l']∧ZW B l' q cp 3 1 ZbU ys∧ys.Perm xs∧Zt3 ys m∧(∀k,m≤k→hat ys k=hat xs k)):=by
 refine cB 48 Tryz.func252 (h:=?_)
 refine Za (xA (h:=Za (xM (h:=xA (h:=Zc (Zg (Zy (α:=Nat × List Int × Cells) [0,1,2,6] (fun g=>[(7,.int .i64 g.1)]) [0,1] (fun g=>[ZN b [.slice q g.2.1.length cp] 285,g.2.2]) (fun g Bx=>Bx=B∧g.1<g.2.1.length∧g.2.1.Perm xs∧Zfg g.2.1 m g.1∧(∀k,m≤k→hat g.2.1 k=hat xs k)∧ZW B g.2.2 q cp 3 1 ZbU g.2.1) (fun g=>xs.length - g.1) (0,xs,l) t1 rfl (⟨rfl,hm0,.refl _,hh,fun _ _=>rfl,hv⟩) (fun g B1 hle1 hI=>?_))))))))
 obtain ⟨rfl,hk,hp,hb,hs,hv⟩:=hI
 have hpl:=hp.length_eq
 refine ZD [(0,_),(1,_),(2,_),(6,_),(7,_)] [_,_] t5 rfl (Zg (Za (xM (h:=Zj (Zyp (r:=((2*g.1:Nat):Int)) rfl rfl rfl rfl ((congrArg _ (show _=((2*g.1:Nat):Int) from by omega)).trans (Zcy oz oz)) ?_)))))
 refine Zj (Zgz (r:=((2*g.1+1:Nat):Int)) rfl rfl rfl rfl ((congrArg _ (show _=((2*g.1+1:Nat):Int) from by omega)).trans (Zcy oz oz)) ?_)
 refine xA (h:=Zc (Za (xM (h:=xM (h:=ZdZ (h:=xM (h:=Zs (d:=18) rfl (fun g1=>?_) (fun g1=>?_))))))))
 try simp only [sQ,ne_eq] at g1
 refine xP (h:=xP (h:=xT (h:=Zb (t:=true) rfl (fun _=>ZE (ZT (Zfn rfl (ZH (Zv (Zn (Za (xM (h:=xM (h:=Zek (h:=xA (h:=Zd ?_)))))))))))) (fun h=>Bool.noConfusion h))))
 exact eN [0,1] rfl t1 ⟨rfl,_,_,rfl,hv,hp,Zrw hb oz,hs⟩
 try simp only [sQ,ne_eq] at g1
 refine xM (h:=ZG (h:=xF (h:=Zb rfl (fun g2=>by have:=of_decide_eq_true g2;omega) (fun g2=>?_))))
 try simp only [sQ,ne_eq] at g2
 refine wSk (Za (xM (h:=xA (h:=Zc (Za (xM (h:=Zj (Zgz (r:=((2*g.1+1+1:Nat):Int)) rfl rfl rfl rfl ((congrArg _ (show _=((2*g.1+1+1:Nat):Int) from by omega)).trans (Zcy oz oz)) ?_))))))))
 refine xA (h:=Za (xM (h:=xM (h:=ZG (h:=xM (h:=Zs (d:=28) rfl (fun g3=>?_) (fun g3=>?_)))))))
 try simp only [sQ,ne_eq] at g3
 refine xM (h:=xM (h:=xM (h:=Zj (ZfM 1 rfl rfl rfl Zrs rfl rfl (Zbh Zd7 Tryz.underlying284 Zfv (atL 0 rfl rfl rfl)) (Z8.borrow fun hm2=>Zgr _ _ _ _ _ _ _ (ZaT oz) (ZaT oz) _ (hv.lend ZbU.mono hm2 om)) ?_))))
 refine xT (h:=Zb rfl (fun g4=>?_) (fun g4=>?_))
 try simp only [sQ,ne_eq] at g4
 refine Ze (xM (h:=xA (h:=Zn (Zc (Za (xM (h:=xM (h:=xM (h:=Zj (ZfM 1 rfl rfl rfl Zrs rfl rfl (Zbh Zd7 Tryz.underlying284 Zfv (atL 0 rfl rfl rfl)) (Z8.borrow fun hm3=>Zgr _ _ _ _ _ _ _ (ZaT oz) (ZaT oz) _ (hv.lend ZbU.mono hm3 om)) ?_))))))))))
 refine xN (h:=Zb rfl (fun g5=>?_) (fun g5=>?_))
 try simp only [sQ,ne_eq] at g5
 refine ZE (ZT (Zfn rfl (ZH (Zv (Zn (Za (xM (h:=xM (h:=Zek (h:=xA (h:=Zd ?_)))))))))))
 exact eN [0,1] rfl t1 ⟨rfl,_,_,rfl,hv,hp,Zil hb (by intro k h0 hk he;(try simp only [decide_eq_true_eq,decide_eq_false_iff_not,Bool.not_eq_true',Bool.not_eq_false',Int.not_lt] at *);rcases (show k=2*g.1+1∨k=2*g.1+1+1 from by omega) with rfl | rfl <;> omega),hs⟩
 try simp only [sQ,ne_eq] at g5
 refine wSk (Za (xM (h:=xM (h:=xM (h:=Zj (Zhb [1] rfl rfl rfl rfl Zrr rfl rfl (Zbh Zd6 Tryz.underlying284 Zfv (atL 0 rfl rfl rfl)) (Zgq _ _ _ _ _ _ _ _ (ZaT oz) (ZaT oz) oz _ hv) ?_))))))
 rintro _ B4 _ hle4 ⟨rfl,l4,rfl,hv4⟩
 refine tL2 (Ze (xM (h:=xA (h:=ZK ?_))))
 rw [← Zdp g.2.1 g.1 (2*g.1+1+1)]
 have h5:hat g.2.1 (2*g.1+1+1)<hat g.2.1 g.1:=by simpa using g5
 exact ZC (2*g.1+1+1,(swp g.2.1 g.1 (2*g.1+1+1)),l4) [0,1] (so) ⟨rfl,by have:=Zdp g.2.1 g.1 (2*g.1+1+1);simp only [];omega,(Zgg oz oz).trans hp,Zik oz oz oz oz hb (by intro k h0 hk he;(try simp only [decide_eq_true_eq,decide_eq_false_iff_not,Bool.not_eq_true',Bool.not_eq_false',Int.not_lt] at *);rcases (show k=2*g.1+1∨k=2*g.1+1+1 from by omega) with rfl | rfl <;> omega) h5,(fun k hk=>by rw [Ze5 oz oz,if_neg oz,if_neg oz];exact hs k hk),hv4⟩ t5 rfl
 try simp only [sQ,ne_eq] at g4
 refine wSk (Zc (Za (xM (h:=xM (h:=xM (h:=Zj (ZfM 1 rfl rfl rfl Zrs rfl rfl (Zbh Zd7 Tryz.underlying284 Zfv (atL 0 rfl rfl rfl)) (Z8.borrow fun hm5=>Zgr _ _ _ _ _ _ _ (ZaT oz) (ZaT oz) _ (hv.lend ZbU.mono hm5 om)) ?_)))))))
 refine xN (h:=Zb rfl (fun g5=>?_) (fun g5=>?_))
 try simp only [sQ,ne_eq] at g5
 refine ZE (ZT (Zfn rfl (ZH (Zv (Zn (Za (xM (h:=xM (h:=Zek (h:=xA (h:=Zd ?_)))))))))))
 exact eN [0,1] rfl t1 ⟨rfl,_,_,rfl,hv,hp,Zil hb (by intro k h0 hk he;(try simp only [decide_eq_true_eq,decide_eq_false_iff_not,Bool.not_eq_true',Bool.not_eq_false',Int.not_lt] at *);rcases (show k=2*g.1+1∨k=2*g.1+1+1 from by omega) with rfl | rfl <;> omega),hs⟩
 try simp only [sQ,ne_eq] at g5
 refine wSk (Za (xM (h:=xM (h:=xM (h:=Zj (Zhb [1] rfl rfl rfl rfl Zrr rfl rfl (Zbh Zd6 Tryz.underlying284 Zfv (atL 0 rfl rfl rfl)) (Zgq _ _ _ _ _ _ _ _ (ZaT oz) (ZaT oz) oz _ hv) ?_))))))
 rintro _ B6 _ hle6 ⟨rfl,l6,rfl,hv6⟩
 refine tL2 (Ze (xM (h:=xA (h:=ZK ?_))))
 rw [← Zdp g.2.1 g.1 (2*g.1+1)]
 have h5:hat g.2.1 (2*g.1+1)<hat g.2.1 g.1:=by simpa using g5
 exact ZC (2*g.1+1,(swp g.2.1 g.1 (2*g.1+1)),l6) [0,1] (so) ⟨rfl,by have:=Zdp g.2.1 g.1 (2*g.1+1);simp only [];omega,(Zgg oz oz).trans hp,Zik oz oz oz oz hb (by intro k h0 hk he;(try simp only [decide_eq_true_eq,decide_eq_false_iff_not,Bool.not_eq_true',Bool.not_eq_false',Int.not_lt] at *);rcases (show k=2*g.1+1∨k=2*g.1+1+1 from by omega) with rfl | rfl <;> omega) h5,(fun k hk=>by rw [Ze5 oz oz,if_neg oz,if_neg oz];exact hs k hk),hv6⟩ t5 rfl
 try simp only [sQ,ne_eq] at g3
 refine xP (h:=xP (h:=xP (h:=xP (h:=xF (h:=Zb (t:=false) rfl (fun h=>Bool.noConfusion h) (fun _=>wSk (Zc (Za (xM (h:=xM (h:=xM (h:=Zj (ZfM 1 rfl rfl rfl Zrs rfl rfl (Zbh Zd7 Tryz.underlying284 Zfv (atL 0 rfl rfl rfl)) (Z8.borrow fun hm7=>Zgr _ _ _ _ _ _ _ (ZaT oz) (ZaT oz) _ (hv.lend ZbU.mono hm7 om)) ?_)))))))))))))
 refine xN (h:=Zb rfl (fun g5=>?_) (fun g5=>?_))
 try simp only [sQ,ne_eq] at g5
 refine ZE (ZT (Zfn rfl (ZH (Zv (Zn (Za (xM (h:=xM (h:=Zek (h:=xA (h:=Zd ?_)))))))))))
 exact eN [0,1] rfl t1 ⟨rfl,_,_,rfl,hv,hp,Zil hb (by intro k h0 hk he;(try simp only [decide_eq_true_eq,decide_eq_false_iff_not,Bool.not_eq_true',Bool.not_eq_false',Int.not_lt] at *);rcases (show k=2*g.1+1∨k=2*g.1+1+1 from by omega) with rfl | rfl <;> omega),hs⟩
 try simp only [sQ,ne_eq] at g5
 refine wSk (Za (xM (h:=xM (h:=xM (h:=Zj (Zhb [1] rfl rfl rfl rfl Zrr rfl rfl (Zbh Zd6 Tryz.underlying284 Zfv (atL 0 rfl rfl rfl)) (Zgq _ _ _ _ _ _ _ _ (ZaT oz) (ZaT oz) oz _ hv) ?_))))))
 rintro _ B8 _ hle8 ⟨rfl,l8,rfl,hv8⟩
 refine tL2 (Ze (xM (h:=xA (h:=ZK ?_))))
 rw [← Zdp g.2.1 g.1 (2*g.1+1)]
 have h5:hat g.2.1 (2*g.1+1)<hat g.2.1 g.1:=by simpa using g5
 exact ZC (2*g.1+1,(swp g.2.1 g.1 (2*g.1+1)),l8) [0,1] (so) ⟨rfl,by have:=Zdp g.2.1 g.1 (2*g.1+1);simp only [];omega,(Zgg oz oz).trans hp,Zik oz oz oz oz hb (by intro k h0 hk he;(try simp only [decide_eq_true_eq,decide_eq_false_iff_not,Bool.not_eq_true',Bool.not_eq_false',Int.not_lt] at *);rcases (show k=2*g.1+1∨k=2*g.1+1+1 from by omega) with rfl | rfl <;> omega) h5,(fun k hk=>by rw [Ze5 oz oz,if_neg oz,if_neg oz];exact hs k hk),hv8⟩ t5 rfl

theorem ZqF (b:Nat) (q:Option Addr) (cp:Nat) (xs:List Int) (l:Cells) (hm0:0<xs.length) (hn:xs.length≤2000000) (hh:ZdH xs) (B:Kn) (hv:ZW B l q cp 3 1 ZbU xs):Zw (pj J) 212 [.iface 284 (ptr ⟨b,0,none⟩)] B [ZN b [.slice q xs.length cp] 285,l] (fun v B' Ls=>B'=B∧v = .iface 3 (.int .i64 (hat xs 0))∧∃ys l',Ls=[ZN b [.slice q ys.length cp] 285,l']∧ZW B l' q cp 3 1 ZbU ys∧(hat xs 0 :: ys).Perm xs∧ZdH ys):=by
 refine cB 15 Tryz.func212 (h:=?_)
 refine Za (xA (h:=Za (xM (h:=Zj (ZfM 1 rfl rfl rfl Zxy rfl rfl (Zbh ZkW Tryz.underlying284 Zfv (atL 0 rfl rfl rfl)) (Z8.borrow fun hm1=>ZqD _ _ _ _) (Zj (Zjk (r:=((xs.length - 1:Nat):Int)) rfl rfl rfl rfl ((congrArg _ (show _=((xs.length - 1:Nat):Int) from by omega)).trans (Zcy oz oz)) ?_)))))))
 refine xA (h:=Za (xM (h:=xM (h:=Zj (Zhb [1] rfl rfl rfl rfl Zrr rfl rfl (Zbh Zd6 Tryz.underlying284 Zfv (atL 0 rfl rfl rfl)) (Zgq _ _ _ _ _ _ _ _ (ZaT oz) (ZaT oz) oz _ hv) ?_)))))
 rintro _ Bs _ hles ⟨rfl,ls,rfl,hvs⟩
 refine tL2 ?_
 obtain ⟨zs,hzs,hzl⟩ :∃zs,zs=swp xs 0 (xs.length - 1)∧zs.length=xs.length:=⟨_,rfl,Zdp _ _ _⟩
 have hzz:=hvs
 change ZW _ _ _ _ _ _ _ (swp xs 0 (xs.length - 1)) at hzz
 rw [← hzs] at hzz
 have hdb:Zfg zs (zs.length - 1) 0:=by rw [hzl,hzs];exact Zu2 hh hm0
 have hlz:hat zs (zs.length - 1)=hat xs 0:=by rw [hzl,hzs];exact Zsz hm0
 have hpz:zs.Perm xs:=hzs ▸ Zgg hm0 oz
 rw [← hzl]
 refine Za (xM (h:=xM (h:=xK [0,1] rfl Zzi rfl (ZoQ _ _ _ _ _ _ oz oz oz hdb _ hzz) (h:=?_))))
 rintro _ Bd _ hled ⟨rfl,ysd,ld,rfl,hvd,hpd,hhd,hsd⟩
 refine tL2 ?_
 have hdl:=hpd.length_eq
 refine Za (xM (h:=Zj (Zhb [0,1] rfl rfl rfl rfl Zza rfl rfl (Zlp Zqh Tryz.underlying284) (Zvv _ _ _ _ _ _ (ZaT oz) oz _ hvd) ?_)))
 rintro _ Bo _ hleo ⟨rfl,rfl,rfl,hvo⟩
 refine xA (h:=tL2 (Zd ?_))
 have hz9:hat ysd (ysd.length - 1)=hat xs 0:=by rw [hsd _ oz,hdl];exact hlz
 exact ZdI .ret (.inl rfl) [_] [0,1] rfl ⟨rfl,trivial⟩ ⟨rfl,by rw [hz9];rfl,_,_,by rw [show (ysd.take (ysd.length - 1)).length=ysd.length - 1 from by simp],hvo,ZsK (by omega) (hpd.trans hpz) hz9,ZoP (by rw [hdl];exact hhd) (by omega)⟩

theorem ZmI (q:Option Addr) (cp:Nat) (xs:List DItem) (last:Int) (B:Kn) (ha:SlK B q cp 4 Zz xs):Z8 (pj J) 174 [.slice q xs.length cp,.int .i64 last] B (.bool (asc 0 last (xs.map (·.id)))):=by
 refine cB 53 Tryz.func174 (h:=?_)
 have hxn:=ha.len
 refine Za (xA (h:=Za (xBs [] [] Tryz.underlying58 sz3 zo3 (h:=fun b1=>xBx [_] (h:=fun b2=>xA (h:=tL2 (Zc (Za (xM (h:=xV Tryz.underlying37 (h:=xM (h:=Zg (Zy (α:=Gh Int) [0,1,4,5,14,15] (fun g=>[(16,.int .i64 g.k)]) [0,1] (fun g=>[g.l,ZN b2 [.slice g.a g.xs.length g.c] 285]) (fun g Bx=>Bx=B∧g.k≤xs.length∧g.xs.Perm ((xs.take g.k).map (·.id))∧ZdH g.xs∧ZW Bx g.l g.a g.c 3 1 ZbU g.xs) (fun g=>xs.length - g.k) ⟨0,0,_,_,_,[]⟩ t1 rfl (⟨rfl,Nat.zero_le _,.refl _,Ztj,.lit0⟩) (fun g B3 hle3 hI=>?_))))))))))))))
 obtain ⟨rfl,hk,hp,hh,hv⟩:=hI
 have hpl:=hp.length_eq
 rw [List.length_map,List.length_take] at hpl
 refine ZD [(0,_),(1,_),(4,_),(5,_),(14,_),(15,_),(16,_)] [_,_] t7 rfl (Za (ZG (h:=Zc (Zb rfl (fun g1=>?_) (fun g1=>?_)))))
 try simp only [sQ,ne_eq] at g1
 refine wSk (Zc (Zg (Za ?_)))
 obtain ⟨x,hx⟩:=ZX (xs:=xs) (i:=g.k) om
 obtain ⟨bb5,oo5,rfl⟩:=ha.base hx
 obtain ⟨_,⟨qi6,ci6,rfl,hi6,hb6,hb6b⟩,hc6⟩:=ha.elem hx
 have hi6n:=hi6.len
 refine xIx Tryz.underlying37 ZbA (h:=yL [_,_,_,_] ZeX hc6 0 (h:=xAl [_,_,_,_] Zft (h:=fun b7=>xS [_,_,_,_] 2 [_,_,_,_] ZbA (h:=tL3 (Ze (xM (h:=Zj (Zem rfl rfl Tryz.underlying284 rfl rfl (xW ZeB (h:=x1 lk3 2 (h:=Zj (Zem rfl rfl Tryz.underlying3 rfl rfl (xK [1,0] rfl Zzx rfl (ZoO _ _ _ _ _ _ oz hh _ hv) (h:=?_))))))))))))))
 rintro _ Bp _ hlep ⟨rfl,qp,cp,ysp,lp,rfl,hvp,hpp,hhp⟩
 refine ZK (Zn (Ze (xD (h:=xM (h:=?_)))))
 exact ZC ⟨g.k+1,0,lp,_,_,ysp⟩ [0,1] so2 ⟨rfl,so,by simp only [];rw [Zbs hx,List.map_append];exact hpp.trans (hp.append_right _),hhp,hvp⟩ t7 rfl
 try simp only [sQ,ne_eq] at g1
 have hxe:xs.take g.k=xs:=List.take_of_length_le oz
 rw [hxe] at hp
 refine ZE (ZT (ZH (Zv (Zn (Za (xA (h:=Zc (Za (xM (h:=xV Tryz.underlying37 (h:=xM (h:=Zg (Zy (α:=Gh2 Int Int) [0,1,5,14,15,16,17,27,28] (fun h=>[(8,.int .i64 h.e),(29,.int .i64 h.k)]) [0,1] (fun h=>[h.l,ZN b2 [.slice h.a h.xs.length h.c] 285]) (fun h Bx=>Bx=B3∧h.k≤xs.length∧h.xs.Perm ((xs.drop h.k).map (·.id))∧ZdH h.xs∧asc 0 last (xs.map (·.id))=asc h.e last ((xs.drop h.k).map (·.id))∧ZW Bx h.l h.a h.c 3 1 ZbU h.xs) (fun h=>xs.length - h.k) ⟨0,0,g.l,g.a,g.c,g.xs,0⟩ t2 rfl (⟨rfl,Nat.zero_le _,hp,hh,rfl,hv⟩) (fun h B9 hle9 hI=>?_))))))))))))))
 clear hv hp hpl hh
 obtain ⟨rfl,hk,hp,hh,hs,hv⟩:=hI
 have hpl:=hp.length_eq
 rw [List.length_map,List.length_drop] at hpl
 refine ZD [(0,_),(1,_),(5,_),(8,_),(14,_),(15,_),(16,_),(17,_),(27,_),(28,_),(29,_)] [_,_] t11 rfl (Za (ZG (h:=Zc (Zb rfl (fun g2=>?_) (fun g2=>?_)))))
 try simp only [sQ,ne_eq] at g2
 refine wSk (Zc (Zg (Za ?_)))
 obtain ⟨x,hx⟩:=ZX (xs:=xs) (i:=h.k) om
 obtain ⟨bb11,oo11,rfl⟩:=ha.base hx
 obtain ⟨_,⟨qi12,ci12,rfl,hi12,hb12,hb12b⟩,hc12⟩:=ha.elem hx
 have hi12n:=hi12.len
 refine xIx Tryz.underlying37 ZbA (h:=?_)
 rw [Zj1 hx,List.map_cons] at hp hs
 refine yL [_,_,_,_] ZeX hc12 0 (h:=xAl [_,_,_,_] Zft (h:=fun b13=>xS [_,_,_,_] 2 [_,_,_,_] ZbA (h:=tL3 (Za (xM (h:=Zj (Zem rfl rfl Tryz.underlying284 rfl rfl (xK [1,0] rfl Zzw rfl (ZqF _ _ _ _ _ oz oz hh _ hv) (h:=?_)))))))))
 rintro _ Bo _ hleo ⟨rfl,rfl,yso,lo,rfl,hvo,hpo,hho⟩
 refine Zj (Zko rfl rfl Tryz.underlying3 rfl rfl (xA (h:=tL3 (Zc (Za (xM (h:=xW ZeB (h:=x1 lk3 2 (h:=ZaP (h:=xM (h:=Zs (d:=41) rfl (fun g3=>?_) (fun g3=>?_))))))))))))
 try simp only [sQ,ne_eq] at g3
 refine xP (h:=xP (h:=xP (h:=xT (h:=xM (h:=xP (h:=xP (h:=xP (h:=xT (h:=Zb (t:=true) rfl (fun _=>Za (xA (h:=Zd (Zl (ZA (Zl (ZM (ZA (Zl ?_))))))))) (fun h=>Bool.noConfusion h))))))))))
 exact eR t1 ⟨Zf (by rw [hs];exact ZtT hp hh (by simpa using g3)),rfl,rfl⟩
 try simp only [sQ,ne_eq] at g3
 refine xM (h:=xM (h:=ZbJ (h:=xF (h:=xM (h:=Zs (d:=46) rfl (fun g4=>?_) (fun g4=>?_))))))
 try simp only [sQ,ne_eq] at g4
 refine xP (h:=xP (h:=xP (h:=xT (h:=Zb (t:=true) rfl (fun _=>Za (xA (h:=Zd (Zl (ZA (Zl (ZM (ZA (Zl ?_))))))))) (fun h=>Bool.noConfusion h)))))
 exact eR t1 ⟨Zf (by rw [hs];exact ZtS (by rw [← g3];simpa using g4)),rfl,rfl⟩
 try simp only [sQ,ne_eq] at g4
 refine xM (h:=xM (h:=Zek (h:=xF (h:=Zb rfl (fun g5=>?_) (fun g5=>?_)))))
 try simp only [sQ,ne_eq] at g5
 refine Za (xA (h:=Zd (Zl (ZA (Zl (ZM (ZA (Zl ?_))))))))
 exact eR t1 ⟨Zf (by rw [hs];exact ZtR (by rw [← g3];simpa using g5)),rfl,rfl⟩
 try simp only [sQ,ne_eq] at g5
 refine wSk (Ze (xM (h:=xA (h:=ZK (Zn (Ze (xD (h:=xM (h:=?_)))))))))
 exact ZC ⟨h.k+1,0,lo,_,_,yso,hat h.xs 0⟩ [0,1] so2 ⟨rfl,so,List.Perm.cons_inv ((show (x.id :: yso).Perm (hat h.xs 0 :: yso) from by rw [g3]).trans (hpo.trans hp)),hho,by simp only [];rw [hs,g3];exact ZxT (by rw [← g3];simpa using g4) (by rw [← g3];simpa using g5),hvo⟩ t11 rfl
 try simp only [sQ,ne_eq] at g2
 rw [Zrv oz,List.map_nil,asc] at hs
 refine ZE (ZT (ZH (Zv (Zn (Za (xA (h:=Zd ?_)))))))
 exact eR t1 ⟨Zf hs.symm,rfl,rfl⟩

theorem ZmH (aq:Option Addr) (cq:Nat) (q:DQueue) (B:Kn) (hq:SlK B aq cq 4 Zz q.items):Z8 (pj J) 137 [.agg #[.int .i64 q.next,.slice aq q.items.length cq]] B (.bool (Za6 q)):=by
 refine cB 42 Tryz.func137 (h:=?_)
 have hqn:=hq.len
 refine Za (xBx [_,_] (h:=fun b1=>xA (h:=tL1 (Zc (Za (xW ZbT (h:=x1 ZiZ 0 (h:=xV Tryz.underlying37 (h:=Zek (h:=xM (h:=Zs (d:=9) rfl (fun g1=>?_) (fun g1=>?_))))))))))))
 try simp only [sQ,ne_eq] at g1
 refine xP (h:=xP (h:=xP (h:=xT (h:=xM (h:=xP (h:=xP (h:=xP (h:=xT (h:=Zb (t:=true) rfl (fun _=>Za (xA (h:=Zd (Zl ?_)))) (fun h=>Bool.noConfusion h))))))))))
 exact eR t1 ⟨Zf (ZgH oz),rfl,rfl⟩
 try simp only [sQ,ne_eq] at g1
 refine xW Zgt (h:=x1 lk3 0 (h:=ZG (h:=xF (h:=xM (h:=Zs (d:=14) rfl (fun g2=>?_) (fun g2=>?_))))))
 try simp only [sQ,ne_eq] at g2
 refine xP (h:=xP (h:=xP (h:=xT (h:=Zb (t:=true) rfl (fun _=>Za (xA (h:=Zd (Zl ?_)))) (fun h=>Bool.noConfusion h)))))
 exact eR t1 ⟨Zf (ZgH oz),rfl,rfl⟩
 try simp only [sQ,ne_eq] at g2
 refine xW Zgt (h:=x1 lk3 0 (h:=Zek (h:=xF (h:=Zb rfl (fun g3=>?_) (fun g3=>?_)))))
 try simp only [sQ,ne_eq] at g3
 refine Za (xA (h:=Zd (Zl ?_)))
 exact eR t1 ⟨Zf (ZgH oz),rfl,rfl⟩
 try simp only [sQ,ne_eq] at g3
 refine wSk (Zc (Za (xW ZbT (h:=x1 ZiZ 0 (h:=xV Tryz.underlying37 (h:=xM (h:=Zg (Zy (α:=Nat) [0,1,18,20,21] (fun k=>[(22,.int .i64 k)]) [] (fun k=>[]) (fun k Bx=>Bx=B∧k≤q.items.length∧(q.items.take k).all Ze1=true) (fun k=>q.items.length - k) 0 t1 rfl (⟨rfl,Nat.zero_le _,by simp⟩) (fun k B2 hle2 hI=>?_)))))))))
 obtain ⟨rfl,hk,ha⟩:=hI
 refine ZD [(0,_),(1,_),(18,_),(20,_),(21,_),(22,_)] [_] t6 rfl (Za (ZG (h:=Zc (Zb rfl (fun g4=>?_) (fun g4=>?_)))))
 try simp only [sQ,ne_eq] at g4
 refine wSk (Zc (Zg (Za ?_)))
 obtain ⟨x,hx⟩:=ZX (xs:=q.items) (i:=k) om
 obtain ⟨bb4,oo4,rfl⟩:=hq.base hx
 obtain ⟨_,⟨qi5,ci5,rfl,hi5,hb5,hb5b⟩,hc5⟩:=hq.elem hx
 have hi5n:=hi5.len
 refine xIx Tryz.underlying37 ZbA (h:=yL [_,_,_,_] ZeX hc5 0 (h:=xAl [_,_,_,_] Zft (h:=fun b6=>xS [_,_,_,_] 1 [_,_,_,_] ZbA (h:=tL2 (Za (xW ZeA (h:=x1 lk9 1 (h:=xW ZcM (h:=x1 ZfV 1 (h:=xW ZfZ (h:=x1 lk9 1 (h:=xB [(0,_),(1,_),(2,_)] [_,_,_] [_,_,_] ZwW Zwj (h:=xR ZzR rfl (Zlh _ _ ⟨x.fr,x.left,x.text⟩ _ hi5 oa oa) (h:=?_))))))))))))))
 refine xN (h:=Zb rfl (fun g5=>?_) (fun g5=>?_))
 try simp only [sQ,ne_eq] at g5
 refine Za (xA (h:=Zd (ZA (Zl (ZM (ZA (Zl ?_)))))))
 exact eR t1 ⟨Zf (Zmf hx g5),rfl,rfl⟩
 try simp only [sQ,ne_eq] at g5
 refine ZS (ZK (Zn (Ze (xD (h:=xM (h:=?_))))))
 exact ZC (k+1) [0] so2 ⟨rfl,oz,ZxV hx g5 ha⟩ t6 rfl
 try simp only [sQ,ne_eq] at g4
 refine ZE (ZT (ZH (Zv (Zn (Za (xW ZbT (h:=x1 ZiZ 0 (h:=xW Zgt (h:=x1 lk3 0 (h:=xU (h:=xR ZzQ rfl (ZmI _ _ _ _ _ hq) (h:=xA (h:=Zd ?_)))))))))))))
 exact eR t1 ⟨Zf (Zme oz ha oz oz oz),rfl,rfl⟩

theorem Zh0 (n:Int) (B:Kn):Z8 (pj J) 32 [.int .i64 n] B (.bool (decide (0≤n) && decide (n≤31))):=by
 refine cB 5 Tryz.func32 (h:=?_)
 refine Za (xA (h:=Za (xM (h:=xR Zj0 rfl (Zcr _ _ _ _) (h:=xA (h:=Zd ?_))))))
 exact eR t1 ⟨rfl,rfl,rfl⟩

theorem Zb7 (n:Int) (B:Kn):Z8 (pj J) 91 [.int .i64 n] B (.bool (decide (0≤n) && decide (n≤31))):=by
 refine cB 9 Tryz.func91 (h:=?_)
 refine Za (xA (h:=Za (xM (h:=ZdZ (h:=xM (h:=Zs (d:=5) rfl (fun g1=>?_) (fun g1=>?_)))))))
 refine xM (h:=ZbJ (h:=xT (h:=xA (h:=Zd ?_))))
 exact eR t1 ⟨Zf (by rw [Bool.eq_iff_iff];simp [g1];try omega),rfl,rfl⟩
 refine xP (h:=xP (h:=xF (h:=xA (h:=Zd ?_))))
 exact eR t1 ⟨Zf (by rw [Bool.eq_iff_iff];simp [g1];try omega),rfl,rfl⟩

theorem Zqz (m:DMail) (hm:m.text.length≤2000000) (B:Kn):Z8 (pj J) 126 [.agg #[.int .i64 m.uid,.int .i64 m.flags,str m.text]] B (.bool (Zcp m)):=by
 refine cB 17 Tryz.func126 (h:=?_)
 refine Za (xBx [_,_,_] (h:=fun b1=>xA (h:=tL1 (Za (xW Zc3 (h:=x1 lk3 0 (h:=xR Zj0 rfl (Zcr _ _ _ _) (h:=xM (h:=Zs (d:=6) rfl (fun g1=>?_) (fun g1=>?_))))))))))
 refine xW Zdy (h:=x1 lk3 0 (h:=xR Zzb rfl (Zh0 _ _) (h:=xT (h:=xM (h:=Zs (d:=11) rfl (fun g2=>?_) (fun g2=>?_))))))
 refine xW Zez (h:=x1 lk9 0 (h:=xVs Tryz.underlying9 (h:=ZbJ (h:=xT (h:=xA (h:=Zd ?_))))))
 exact eR t1 ⟨Zf (by rw [Bool.eq_iff_iff];simp [Zcp,g1,g2];try omega),rfl,rfl⟩
 refine xP (h:=xP (h:=xP (h:=xP (h:=xF (h:=xA (h:=Zd ?_))))))
 exact eR t1 ⟨Zf (by rw [Bool.eq_iff_iff];simp [Zcp,g1,g2];try omega),rfl,rfl⟩
 refine xP (h:=xP (h:=xP (h:=xF (h:=xM (h:=xP (h:=xP (h:=xP (h:=xP (h:=xF (h:=xA (h:=Zd ?_)))))))))))
 exact eR t1 ⟨Zf (by rw [Bool.eq_iff_iff];simp [Zcp,g1];try omega),rfl,rfl⟩

theorem ZoJ (m:DMail) (hm:m.text.length≤2000000) (B:Kn):Z8 (pj J) 148 [.agg #[.int .i64 m.uid,.int .i64 m.flags,str m.text]] B (.bool (Zcp m)):=by
 refine cB 22 Tryz.func148 (h:=?_)
 refine Za (xBx [_,_,_] (h:=fun b1=>xA (h:=tL1 (Za (xW Zc3 (h:=x1 lk3 0 (h:=ZdZ (h:=xM (h:=Zs (d:=6) rfl (fun g1=>?_) (fun g1=>?_))))))))))
 refine xW Zc3 (h:=x1 lk3 0 (h:=ZbJ (h:=xT (h:=xM (h:=Zs (d:=11) rfl (fun g2=>?_) (fun g2=>?_))))))
 refine xW Zdy (h:=x1 lk3 0 (h:=xR ZvX rfl (Zb7 _ _) (h:=xT (h:=xM (h:=Zs (d:=16) rfl (fun g3=>?_) (fun g3=>?_))))))
 refine xW Zez (h:=x1 lk9 0 (h:=xVs Tryz.underlying9 (h:=ZbJ (h:=xT (h:=xA (h:=Zd ?_))))))
 exact eR t1 ⟨Zf (by rw [Bool.eq_iff_iff];simp [Zcp,g1,g2,g3];try omega),rfl,rfl⟩
 refine xP (h:=xP (h:=xP (h:=xP (h:=xF (h:=xA (h:=Zd ?_))))))
 exact eR t1 ⟨Zf (by rw [Bool.eq_iff_iff];simp [Zcp,g1,g2,g3];try omega),rfl,rfl⟩
 refine xP (h:=xP (h:=xP (h:=xF (h:=xM (h:=xP (h:=xP (h:=xP (h:=xP (h:=xF (h:=xA (h:=Zd ?_)))))))))))
 exact eR t1 ⟨Zf (by rw [Bool.eq_iff_iff];simp [Zcp,g1,g2];try omega),rfl,rfl⟩
 refine xP (h:=xP (h:=xP (h:=xF (h:=xM (h:=xP (h:=xP (h:=xP (h:=xF (h:=xM (h:=xP (h:=xP (h:=xP (h:=xP (h:=xF (h:=xA (h:=Zd ?_))))))))))))))))
 exact eR t1 ⟨Zf (by rw [Bool.eq_iff_iff];simp [Zcp,g1];try omega),rfl,rfl⟩

theorem ZkF (q:Option Addr) (cp:Nat) (x:DBox) (B:Kn) (hx:SlK B q cp 3 Zab x.mail):Z8 (pj J) 81 [.agg #[.int .i64 x.next,.slice q x.mail.length cp]] B (.bool (Zcj x)):=by
 refine cB 46 Tryz.func81 (h:=?_)
 have hxn:=hx.len
 refine Za (xBx [_,_] (h:=fun b1=>xA (h:=tL1 (Za (xA (h:=Zc (Za (xA (h:=Zg (Zy (α:=Nat × Int) [0,1] (fun g=>[(3,.int .i64 g.2),(4,.int .i64 g.1)]) [] (fun g=>[]) (fun g Bx=>Bx=B∧g.1≤x.mail.length∧Zda (x.mail.take g.1)=(true,g.2)∧0≤g.2∧g.2≤99) (fun g=>x.mail.length - g.1) (0,0) t2 rfl (⟨rfl,Nat.zero_le _,ZdV,oz,oz⟩) (fun g B2 hle2 hI=>?_)))))))))))
 obtain ⟨rfl,hk,hs,hl0,hl1⟩:=hI
 refine ZD [(0,_),(1,_),(3,_),(4,_)] [_] t4 rfl (Zc (Za (xM (h:=xW Zbj (h:=x1 ZhZ 0 (h:=xV Tryz.underlying80 (h:=ZG (h:=Zb rfl (fun g1=>?_) (fun g1=>?_)))))))))
 try simp only [sQ,ne_eq] at g1
 refine wSk (Zc (Zg (Zc (Za (xW Zbj (h:=x1 ZhZ 0 (h:=xM (h:=?_))))))))
 obtain ⟨m,hm⟩:=ZX (xs:=x.mail) (i:=g.1) om
 obtain ⟨bb4,oo4,rfl⟩:=hx.base hm
 obtain ⟨_,⟨rfl,hb5⟩,hc5⟩:=hx.elem hm
 refine xIx Tryz.underlying80 ZcT (h:=yL [_,_,_] ZgO hc5 0 (h:=xR ZAp rfl (Zqz m om2 _) (h:=?_)))
 refine xN (h:=xM (h:=Zs (d:=19) rfl (fun g2=>?_) (fun g2=>?_)))
 try simp only [sQ,ne_eq] at g2
 refine xP (h:=xP (h:=xP (h:=xP (h:=xP (h:=xP (h:=xP (h:=xP (h:=xT (h:=Zb (t:=true) rfl (fun _=>Za (xA (h:=Zd (Zl (ZA (Zl (ZM (ZA (Zl ?_))))))))) (fun h=>Bool.noConfusion h))))))))))
 exact eR t1 ⟨Zf (Zgv (ZfS hm (by rw [show (scn Zc2 (fun _ m=>m.uid) 0 (x.mail.take g.1)).2=g.2 from congrArg Prod.snd hs];simp [Zc2,g2]))).symm,rfl,rfl⟩
 try simp only [sQ,ne_eq] at g2
 refine xW Zbj (h:=x1 ZhZ 0 (h:=xM (h:=xIx Tryz.underlying80 ZcT (h:=xW Zc3 (h:=y1 lk3 hc5 0 (h:=xM (h:=ZbJ (h:=xF (h:=Zb rfl (fun g3=>?_) (fun g3=>?_))))))))))
 try simp only [sQ,ne_eq] at g3
 refine Za (xA (h:=Zd (Zl (ZA (Zl (ZM (ZA (Zl ?_))))))))
 exact eR t1 ⟨Zf (Zgv (ZfS hm (by rw [show (scn Zc2 (fun _ m=>m.uid) 0 (x.mail.take g.1)).2=g.2 from congrArg Prod.snd hs];simp [Zc2,g2];omega))).symm,rfl,rfl⟩
 try simp only [sQ,ne_eq] at g3
 refine wSk (Ze (xW Zbj (h:=x1 ZhZ 0 (h:=xM (h:=xIx Tryz.underlying80 ZcT (h:=xW Zc3 (h:=y1 lk3 hc5 0 (h:=xA (h:=ZK (Zn (Ze (xM (h:=xD (h:=xA (h:=?_)))))))))))))))
 exact ZC (g.1+1,m.uid) [0] so2 ⟨rfl,oz,Zbp hm hs (by simp [Zc2,g2];omega),ZiY g2⟩ t4 rfl
 try simp only [sQ,ne_eq] at g1
 refine ZE (ZT (ZH (Zv (Zn (Za (xW ZfF (h:=x1 lk3 0 (h:=xM (h:=xD (h:=xR Zj0 rfl (Zcr _ _ _ _) (h:=xM (h:=Zs (d:=40) rfl (fun g4=>?_) (fun g4=>?_)))))))))))))
 try simp only [sQ,ne_eq] at g4
 refine xW Zbj (h:=x1 ZhZ 0 (h:=xV Tryz.underlying80 (h:=ZbJ (h:=xT (h:=xA (h:=Zd ?_))))))
 exact eR t1 ⟨Zf (by rw [Zfb (Zds hs oz),g4,Bool.true_and,Bool.eq_iff_iff];simp;omega),rfl,rfl⟩
 try simp only [sQ,ne_eq] at g4
 refine xP (h:=xP (h:=xP (h:=xP (h:=xF (h:=xA (h:=Zd ?_))))))
 exact eR t1 ⟨Zf (by rw [Zfb (Zds hs oz),g4,Bool.false_and]),rfl,rfl⟩

theorem Zh4 (q:Option Addr) (cp:Nat) (x:DBox) (B:Kn) (hx:SlK B q cp 3 Zab x.mail):Z8 (pj J) 96 [.agg #[.int .i64 x.next,.slice q x.mail.length cp]] B (.bool (Zcj x)):=by
 refine cB 38 Tryz.func96 (h:=?_)
 have hxn:=hx.len
 refine Za (xBx [_,_] (h:=fun b1=>xA (h:=tL1 (Zc (Za (xW Zbj (h:=x1 ZhZ 0 (h:=xV Tryz.underlying80 (h:=Zek (h:=Zb rfl (fun g0=>?_) (fun g0=>?_)))))))))))
 try simp only [sQ,ne_eq] at g0
 refine Za (xA (h:=Zd (Zl ?_)))
 exact eR t1 ⟨Zf (by simp [Zcj];omega),rfl,rfl⟩
 try simp only [sQ,ne_eq] at g0
 refine wSk (Za (xA (h:=Zc (Za (xW Zbj (h:=x1 ZhZ 0 (h:=xV Tryz.underlying80 (h:=xM (h:=Zg (Zy (α:=Nat × Int) [0,1,9,11,12] (fun g=>[(3,.int .i64 g.2),(13,.int .i64 g.1)]) [] (fun g=>[]) (fun g Bx=>Bx=B∧g.1≤x.mail.length∧Zda (x.mail.take g.1)=(true,g.2)∧0≤g.2∧g.2≤99) (fun g=>x.mail.length - g.1) (0,0) t2 rfl (⟨rfl,Nat.zero_le _,ZdV,oz,oz⟩) (fun g B2 hle2 hI=>?_)))))))))))
 obtain ⟨rfl,hk,hs,hl0,hl1⟩:=hI
 refine ZD [(0,_),(1,_),(3,_),(9,_),(11,_),(12,_),(13,_)] [_] t7 rfl (Za (ZG (h:=Zc (Zb rfl (fun g1=>?_) (fun g1=>?_)))))
 try simp only [sQ,ne_eq] at g1
 refine wSk (Zc (Zg (Za ?_)))
 obtain ⟨m,hm⟩:=ZX (xs:=x.mail) (i:=g.1) om
 obtain ⟨bb4,oo4,rfl⟩:=hx.base hm
 obtain ⟨_,⟨rfl,hb5⟩,hc5⟩:=hx.elem hm
 refine xIx Tryz.underlying80 ZcT (h:=yL [_,_,_] ZgO hc5 0 (h:=xAl [_,_,_] Ziz (h:=fun b6=>xS [_,_,_] 1 [_,_,_] ZcT (h:=tL2 (Zc (Za (xL [_,_,_] ZgO 1 (h:=xR Zz8 rfl (ZoJ m om2 _) (h:=?_)))))))))
 refine xN (h:=xM (h:=Zs (d:=20) rfl (fun g2=>?_) (fun g2=>?_)))
 try simp only [sQ,ne_eq] at g2
 refine xP (h:=xP (h:=xP (h:=xP (h:=xT (h:=Zb (t:=true) rfl (fun _=>Za (xA (h:=Zd (Zl (ZA (Zl (ZM (ZA (Zl ?_))))))))) (fun h=>Bool.noConfusion h))))))
 exact eR t1 ⟨Zf (Zgv (ZfS hm (by rw [show (scn Zc2 (fun _ m=>m.uid) 0 (x.mail.take g.1)).2=g.2 from congrArg Prod.snd hs];simp [Zc2,g2]))).symm,rfl,rfl⟩
 try simp only [sQ,ne_eq] at g2
 refine xW Zc3 (h:=x1 lk3 1 (h:=xM (h:=ZbJ (h:=xF (h:=Zb rfl (fun g3=>?_) (fun g3=>?_))))))
 try simp only [sQ,ne_eq] at g3
 refine Za (xA (h:=Zd (Zl (ZA (Zl (ZM (ZA (Zl ?_))))))))
 exact eR t1 ⟨Zf (Zgv (ZfS hm (by rw [show (scn Zc2 (fun _ m=>m.uid) 0 (x.mail.take g.1)).2=g.2 from congrArg Prod.snd hs];simp [Zc2,g2];omega))).symm,rfl,rfl⟩
 try simp only [sQ,ne_eq] at g3
 refine wSk (Ze (xW Zc3 (h:=x1 lk3 1 (h:=xA (h:=ZK (Zn (Ze (xD (h:=xM (h:=?_))))))))))
 exact ZC (g.1+1,m.uid) [0] so2 ⟨rfl,oz,Zbp hm hs (by simp [Zc2,g2];omega),ZiY g2⟩ t7 rfl
 try simp only [sQ,ne_eq] at g1
 refine ZE (ZT (ZH (Zv (Zn (Za (xW ZfF (h:=x1 lk3 0 (h:=xM (h:=Zek (h:=xM (h:=Zs (d:=33) rfl (fun g4=>?_) (fun g4=>?_))))))))))))
 try simp only [sQ,ne_eq] at g4
 refine xW ZfF (h:=x1 lk3 0 (h:=ZbJ (h:=xT (h:=xA (h:=Zd ?_)))))
 exact eR t1 ⟨Zf (by rw [Zfb (Zds hs oz),Bool.eq_iff_iff];simp;omega),rfl,rfl⟩
 try simp only [sQ,ne_eq] at g4
 refine xP (h:=xP (h:=xP (h:=xF (h:=xA (h:=Zd ?_)))))
 exact eR t1 ⟨Zf (by rw [Zfb (Zds hs oz),Bool.eq_iff_iff];simp;omega),rfl,rfl⟩

theorem Zqy (q:Option Addr) (cp:Nat) (x:DBox) (B:Kn) (hx:SlK B q cp 3 Zab x.mail):Z8 (pj J) 124 [.agg #[.int .i64 x.next,.slice q x.mail.length cp]] B (.int .i64 (ZaJ x.mail)):=by
 refine cB 22 Tryz.func124 (h:=?_)
 have hxn:=hx.len
 refine Za (xBx [_,_] (h:=fun b1=>xA (h:=tL1 (Za (xA (h:=Zc (Za (xA (h:=Zg (Zy (α:=Nat × Nat) [0,1,2] (fun g=>[(3,.int .i64 g.2),(4,.int .i64 g.1)]) [] (fun g=>[]) (fun g Bx=>Bx=B∧g.1≤x.mail.length∧g.2=ZaJ (x.mail.take g.1)∧g.2≤g.1*2000000) (fun g=>x.mail.length - g.1) (0,0) t2 rfl (⟨rfl,Nat.zero_le _,by simp [ZaJ],oz⟩) (fun g B2 hle2 hI=>?_)))))))))))
 obtain ⟨rfl,hk,hs,hl⟩:=hI
 refine ZD [(0,_),(1,_),(2,_),(3,_),(4,_)] [_] t5 rfl (Zc (Za (xM (h:=xW Zbj (h:=x1 ZhZ 0 (h:=xV Tryz.underlying80 (h:=ZG (h:=Zb rfl (fun g1=>?_) (fun g1=>?_)))))))))
 try simp only [sQ,ne_eq] at g1
 refine wSk (Zc (Zg (Ze (xM (h:=xW Zbj (h:=x1 ZhZ 0 (h:=xM (h:=?_))))))))
 obtain ⟨m,hm⟩:=ZX (xs:=x.mail) (i:=g.1) om
 obtain ⟨bb4,oo4,rfl⟩:=hx.base hm
 obtain ⟨_,⟨rfl,hb5⟩,hc5⟩:=hx.elem hm
 refine xIx Tryz.underlying80 ZcT (h:=xW Zez (h:=y1 lk9 hc5 2 (h:=xVs Tryz.underlying9 (h:=xD (h:=xA (h:=ZK (Zn (Ze (xM (h:=xD (h:=xA (h:=?_))))))))))))
 exact ZC (g.1+1,g.2+m.text.length) [0] so2 ⟨rfl,oz,by rw [ZhM hm,← hs],oz⟩ t5 rfl
 try simp only [sQ,ne_eq] at g1
 refine ZE (ZT (ZH (Zv (Zn (Za (xM (h:=xA (h:=Zd ?_))))))))
 exact eR t1 ⟨ZF (by rw [← ZiP hs oz]),rfl,rfl⟩

theorem ZrK (q:Option Addr) (cp:Nat) (x:DBox) (B:Kn) (hx:SlK B q cp 3 Zab x.mail):Z8 (pj J) 262 [.agg #[.int .i64 x.next,.slice q x.mail.length cp]] B (.int .i64 (ZdY x)):=by
 refine cB 23 Tryz.func262 (h:=?_)
 have hxn:=hx.len
 refine Za (xBx [_,_] (h:=fun b1=>xA (h:=tL1 (Zc (Za (xL [_,_] ZeQ 0 (h:=xR Zy3 rfl (Zh4 _ _ (⟨x.next,x.mail⟩:DBox) _ hx) (h:=xN (h:=Zb rfl (fun g0=>?_) (fun g0=>?_))))))))))
 try simp only [sQ,ne_eq] at g0
 refine Za (xA (h:=Zd (Zl ?_)))
 exact eR t1 ⟨ZF (by simp [ZdY,g0]),rfl,rfl⟩
 try simp only [sQ,ne_eq] at g0
 refine wSk (Za (xA (h:=Zc (Za (xW Zbj (h:=x1 ZhZ 0 (h:=xV Tryz.underlying80 (h:=xM (h:=Zg (Zy (α:=Nat × Nat) [0,1,2,8,10,11] (fun g=>[(3,.int .i64 g.2),(12,.int .i64 g.1)]) [] (fun g=>[]) (fun g Bx=>Bx=B∧g.1≤x.mail.length∧g.2=ZaJ (x.mail.take g.1)∧g.2≤g.1*2000000) (fun g=>x.mail.length - g.1) (0,0) t2 rfl (⟨rfl,Nat.zero_le _,by simp [ZaJ],oz⟩) (fun g B3 hle3 hI=>?_)))))))))))
 obtain ⟨rfl,hk,hs,hl⟩:=hI
 refine ZD [(0,_),(1,_),(2,_),(3,_),(8,_),(10,_),(11,_),(12,_)] [_] t8 rfl (Za (ZG (h:=Zc (Zb rfl (fun g1=>?_) (fun g1=>?_)))))
 try simp only [sQ,ne_eq] at g1
 refine wSk (Zc (Zg (Za ?_)))
 obtain ⟨m,hm⟩:=ZX (xs:=x.mail) (i:=g.1) om
 obtain ⟨bb5,oo5,rfl⟩:=hx.base hm
 obtain ⟨_,⟨rfl,hb6⟩,hc6⟩:=hx.elem hm
 refine xIx Tryz.underlying80 ZcT (h:=yL [_,_,_] ZgO hc6 0 (h:=xAl [_,_,_] Ziz (h:=fun b7=>xS [_,_,_] 1 [_,_,_] ZcT (h:=tL2 (Ze (xM (h:=xW Zez (h:=x1 lk9 1 (h:=xVs Tryz.underlying9 (h:=xD (h:=xA (h:=ZK (Zn (Ze (xD (h:=xM (h:=?_)))))))))))))))))
 exact ZC (g.1+1,g.2+m.text.length) [0] so2 ⟨rfl,oz,by rw [ZhM hm,← hs],oz⟩ t8 rfl
 try simp only [sQ,ne_eq] at g1
 refine ZE (ZT (ZH (Zv (Zn (Za (xM (h:=xA (h:=Zd ?_))))))))
 exact eR t1 ⟨ZF (by rw [ZdY,if_pos g0,← ZiP hs oz]),rfl,rfl⟩

theorem ZsF (n:Int) (B:Kn):Z8 (pj J) 260 [.int .i64 n] B (.bool (decide (0≤n) && decide (n≤63))):=by
 refine cB 9 Tryz.func260 (h:=?_)
 refine Za (xA (h:=Za (xM (h:=ZdZ (h:=xM (h:=Zs (d:=5) rfl (fun g1=>?_) (fun g1=>?_)))))))
 refine xM (h:=ZbJ (h:=xT (h:=xA (h:=Zd ?_))))
 exact eR t1 ⟨Zf (by rw [Bool.eq_iff_iff];simp [g1];try omega),rfl,rfl⟩
 refine xP (h:=xP (h:=xF (h:=xA (h:=Zd ?_))))
 exact eR t1 ⟨Zf (by rw [Bool.eq_iff_iff];simp [g1];try omega),rfl,rfl⟩

theorem ZlZ (u:DUser) (h1:u.name.length≤2000000) (h2:u.pass.length≤2000000) (B:Kn):Z8 (pj J) 172 [.agg #[str u.name,str u.pass,.int .i64 u.quota]] B (.bool (Zc5 u)):=by
 refine cB 26 Tryz.func172 (h:=?_)
 refine Za (xBx [_,_,_] (h:=fun b1=>xA (h:=tL1 (Za (xW Zbg (h:=x1 lk9 0 (h:=xR Zlw rfl (Zcd _ om2 _) (h:=?_))))))))
 refine xM (h:=Zs (d:=6) rfl (fun g1=>?_) (fun g1=>?_))
 try simp only [sQ,ne_eq] at g1
 refine xW Zbg (h:=x1 lk9 0 (h:=Zfy (h:=xT (h:=xM (h:=Zs (d:=11) rfl (fun g2=>?_) (fun g2=>?_))))))
 try simp only [sQ,ne_eq] at g2
 refine xW Zf0 (h:=x1 lk9 0 (h:=xR Zlw rfl (Zcd _ om2 _) (h:=?_)))
 refine xT (h:=xM (h:=Zs (d:=16) rfl (fun g3=>?_) (fun g3=>?_)))
 try simp only [sQ,ne_eq] at g3
 refine xW ZdX (h:=x1 lk3 0 (h:=ZdZ (h:=xT (h:=xM (h:=Zs (d:=21) rfl (fun g4=>?_) (fun g4=>?_))))))
 try simp only [sQ,ne_eq] at g4
 refine xW ZdX (h:=x1 lk3 0 (h:=ZbJ (h:=xT (h:=xA (h:=Zd ?_)))))
 exact eR t1 ⟨Zf (by rw [Bool.eq_iff_iff];simp [Zc5,anyone,g1,g2,g3,g4];try omega),rfl,rfl⟩
 try simp only [sQ,ne_eq] at g4
 refine xP (h:=xP (h:=xP (h:=xF (h:=xA (h:=Zd ?_)))))
 exact eR t1 ⟨Zf (by rw [Bool.eq_iff_iff];simp [Zc5,anyone,g1,g2,g3,g4];try omega),rfl,rfl⟩
 try simp only [sQ,ne_eq] at g3
 refine xP (h:=xP (h:=xP (h:=xF (h:=xM (h:=xP (h:=xP (h:=xP (h:=xF (h:=xA (h:=Zd ?_))))))))))
 exact eR t1 ⟨Zf (by rw [Bool.eq_iff_iff];simp [Zc5,anyone,g1,g2,g3];try omega),rfl,rfl⟩
 try simp only [sQ,ne_eq] at g2
 refine xP (h:=xP (h:=xP (h:=xF (h:=xM (h:=xP (h:=xP (h:=xP (h:=xF (h:=xM (h:=xP (h:=xP (h:=xP (h:=xF (h:=xA (h:=Zd ?_)))))))))))))))
 exact eR t1 ⟨Zf (by rw [Bool.eq_iff_iff];simp [Zc5,anyone,g1,g2];try omega),rfl,rfl⟩
 try simp only [sQ,ne_eq] at g1
 refine xP (h:=xP (h:=xP (h:=xF (h:=xM (h:=xP (h:=xP (h:=xP (h:=xF (h:=xM (h:=xP (h:=xP (h:=xP (h:=xF (h:=xM (h:=xP (h:=xP (h:=xP (h:=xF (h:=xA (h:=Zd ?_))))))))))))))))))))
 exact eR t1 ⟨Zf (by rw [Bool.eq_iff_iff];simp [Zc5,anyone,g1];try omega),rfl,rfl⟩

theorem Zh3 (q:Option Addr) (cp:Nat) (us:List DUser) (B:Kn) (hu:SlK B q cp 3 Zp us):Z8 (pj J) 136 [.slice q us.length cp] B (.bool (ZaE us)):=by
 refine cB 32 Tryz.func136 (h:=?_)
 have hun:=hu.len
 refine Za (xA (h:=Zc (Za (xM (h:=xV Tryz.underlying35 (h:=ZG (h:=xM (h:=Zs (d:=9) rfl (fun g0=>?_) (fun g0=>?_)))))))))
 try simp only [sQ,ne_eq] at g0
 refine xP (h:=xP (h:=xP (h:=xT (h:=Zb (t:=true) rfl (fun _=>Za (xA (h:=Zd (Zl ?_)))) (fun h=>Bool.noConfusion h)))))
 exact eR t1 ⟨Zf (by rw [Bool.eq_iff_iff];simp [ZaE];omega),rfl,rfl⟩
 try simp only [sQ,ne_eq] at g0
 refine xM (h:=xV Tryz.underlying35 (h:=Zek (h:=xF (h:=Zb rfl (fun g0b=>?_) (fun g0b=>?_)))))
 try simp only [sQ,ne_eq] at g0b
 refine Za (xA (h:=Zd (Zl ?_)))
 exact eR t1 ⟨Zf (by rw [Bool.eq_iff_iff];simp [ZaE];omega),rfl,rfl⟩
 try simp only [sQ,ne_eq] at g0b
 refine wSk (Za (xA (h:=Zc (Za (xM (h:=xV Tryz.underlying35 (h:=xM (h:=Zg (Zy (α:=Nat × Str) [0,13,14,15] (fun g=>[(3,str g.2),(16,.int .i64 g.1)]) [] (fun g=>[]) (fun g Bx=>Bx=B∧g.1≤us.length∧Zep (us.take g.1)=(true,g.2)∧g.2.length≤2000000) (fun g=>us.length - g.1) (0,[]) t2 rfl (⟨rfl,Nat.zero_le _,ZdV,by simp⟩) (fun g B1 hle1 hI=>?_))))))))))
 obtain ⟨rfl,hk,hs,hl⟩:=hI
 refine ZD [(0,_),(3,_),(13,_),(14,_),(15,_),(16,_)] [] t6 rfl (Za (ZG (h:=Zc (Zb rfl (fun g1=>?_) (fun g1=>?_)))))
 try simp only [sQ,ne_eq] at g1
 refine wSk (Zc (Zg (Za ?_)))
 obtain ⟨m,hm⟩:=ZX (xs:=us) (i:=g.1) om
 obtain ⟨bb3,oo3,rfl⟩:=hu.base hm
 obtain ⟨_,⟨rfl,hb4,hb4b⟩,hc4⟩:=hu.elem hm
 refine xIx Tryz.underlying35 Zbr (h:=yL [_,_,_] Zfw hc4 0 (h:=xAl [_,_,_] Zej (h:=fun b5=>xS [_,_,_] 0 [_,_,_] Zbr (h:=tL1 (Zc (Za (xL [_,_,_] Zfw 0 (h:=xR ZzS rfl (ZlZ m om2 om2 _) (h:=?_)))))))))
 refine xN (h:=xM (h:=Zs (d:=23) rfl (fun g2=>?_) (fun g2=>?_)))
 try simp only [sQ,ne_eq] at g2
 refine xP (h:=xP (h:=xP (h:=xP (h:=xT (h:=Zb (t:=true) rfl (fun _=>Za (xA (h:=Zd (Zl (ZA (Zl (ZM (ZA (Zl ?_))))))))) (fun h=>Bool.noConfusion h))))))
 exact eR t1 ⟨Zf (ZfN (ZfS hm (by rw [show (scn ZeP (fun _ u=>u.name) [] (us.take g.1)).2=g.2 from congrArg Prod.snd hs];simp [ZeP,g2]))).symm,rfl,rfl⟩
 try simp only [sQ,ne_eq] at g2
 refine xW Zbg (h:=x1 lk9 0 (h:=xM (h:=Zj (Zub rfl rfl rfl rfl (xF (h:=Zb rfl (fun g3=>?_) (fun g3=>?_)))))))
 try simp only [sQ,ne_eq] at g3
 refine Za (xA (h:=Zd (Zl (ZA (Zl (ZM (ZA (Zl ?_))))))))
 exact eR t1 ⟨Zf (ZfN (ZfS hm (by rw [show (scn ZeP (fun _ u=>u.name) [] (us.take g.1)).2=g.2 from congrArg Prod.snd hs,ZeP,ZbE g.2 m.name,g3];simp))).symm,rfl,rfl⟩
 try simp only [sQ,ne_eq] at g3
 refine wSk (Ze (xW Zbg (h:=x1 lk9 0 (h:=xA (h:=ZK (Zn (Ze (xD (h:=xM (h:=?_))))))))))
 exact ZC (g.1+1,m.name) [] so2 ⟨rfl,oz,Zbp hm hs (by rw [ZeP,ZbE g.2 m.name,g2,g3];rfl),oy⟩ t6 rfl
 try simp only [sQ,ne_eq] at g1
 refine ZE (ZT (ZH (Zv (Zn (Za (xA (h:=Zd ?_)))))))
 exact eR t1 ⟨Zf (by rw [ZhI (Zds hs oz),Bool.eq_iff_iff];simp;omega),rfl,rfl⟩

theorem Zkr (x:DUser) (u:Str) (b:Nat) (h1:x.name.length≤2000000) (h2:u.length≤2000000) (B:Kn) (hb:Zan B b 0 [str u]):Z8 (pj J) 259 [.agg #[str x.name,str x.pass,.int .i64 x.quota],ptr ⟨b,0,none⟩] B (.bool (decide (x.name=u))):=by
 refine cB 8 Tryz.func259 (h:=?_)
 refine Za (xBx [_,_,_] (h:=fun b1=>xA (h:=tL1 (Za (xW Zbg (h:=x1 lk9 0 (h:=Zj (Zo rfl rfl lk9 rfl (hb _ 0 _ rfl) (Zd0 (h:=xA (h:=Zd ?_)))))))))))
 exact eR t1 ⟨rfl,rfl,rfl⟩

theorem Zrc (q:Option Addr) (cp:Nat) (us:List DUser) (F:FuncId) (cap:Array Value) (t:DUser→Bool) (B:Kn) (hu:SlK B q cp 3 Zp us) (he:enters (pj J) F=true) (hF :∀x:DUser,x.name.length≤2000000→x.pass.length≤2000000→Z8 (pj J) F ([.agg #[str x.name,str x.pass,.int .i64 x.quota]] ++ cap.toList) B (.bool (t x))):Z8 (pj J) 258 [.slice q us.length cp,.func (.func F) #[] cap] B (.tuple #[.agg #[str (Zf3 t us).1.name,str (Zf3 t us).1.pass,.int .i64 (Zf3 t us).1.quota],.bool (Zf3 t us).2]):=by
 refine cB 21 Tryz.func258 (h:=?_)
 have hun:=hu.len
 refine Za (xAl [_,_,_] Zej (h:=fun b1=>xA (h:=tL1 (Zc (Za (xM (h:=xV Tryz.underlying35 (h:=xM (h:=Zg (Zy (α:=Nat) [0,1,4,9,10] (fun k=>[(11,.int .i64 k)]) [] (fun k=>[]) (fun k Bx=>Bx=B∧k≤us.length∧∀y,y∈us.take k→t y=false) (fun k=>us.length - k) 0 t1 rfl (⟨rfl,Nat.zero_le _,by simp⟩) (fun k B2 hle2 hI=>?_)))))))))))
 obtain ⟨rfl,hk,ha⟩:=hI
 refine ZD [(0,_),(1,_),(4,_),(9,_),(10,_),(11,_)] [_] t6 rfl (Za (ZG (h:=Zc (Zb rfl (fun g1=>?_) (fun g1=>?_)))))
 try simp only [sQ,ne_eq] at g1
 refine wSk (Zc (Zg (Za ?_)))
 obtain ⟨m,hm⟩:=ZX (xs:=us) (i:=k) om
 obtain ⟨bb4,oo4,rfl⟩:=hu.base hm
 obtain ⟨_,⟨rfl,hb5,hb5b⟩,hc5⟩:=hu.elem hm
 refine xIx Tryz.underlying35 Zbr (h:=yL [_,_,_] Zfw hc5 0 (h:=xAl [_,_,_] Zej (h:=fun b6=>xS [_,_,_] 1 [_,_,_] Zbr (h:=tL2 (Za (xM (h:=xL [_,_,_] Zfw 1 (h:=Zj (Zt5 rfl rfl he rfl rfl (hF m om2 om2) ?_)))))))))
 refine Zb rfl (fun g2=>?_) (fun g2=>?_)
 try simp only [sQ,ne_eq] at g2
 refine Za (xL [_,_,_] Zfw 1 (h:=xS [_,_,_] 0 [_,_,_] Zbr (h:=xA (h:=tL2 (Zd (ZA (Zl (ZM (ZA (Zl ?_))))))))))
 exact Zrq .ret (.inl rfl) [_,_] ⟨⟨_,rfl,.inr ⟨[_,_,_],Zfw,Zbu 0 rfl rfl rfl,rfl⟩⟩,rfl,trivial⟩ ⟨by rw [Zrb hm g2 ha];rfl,rfl,rfl⟩
 try simp only [sQ,ne_eq] at g2
 refine ZS (ZK (Zn (Ze (xD (h:=xM (h:=?_))))))
 exact ZC (k+1) [0] so2 ⟨rfl,oz,Za3 hm ha g2⟩ t6 rfl
 try simp only [sQ,ne_eq] at g1
 refine ZE (ZT (ZH (Zv (Zn (Za (xAl [_,_,_] Zej (h:=fun b8=>tL2 (Za (xL [_,_,_] Zfw 1 (h:=xS [_,_,_] 0 [_,_,_] Zbr (h:=xA (h:=tL2 (Zd ?_)))))))))))))
 exact Zrq .ret (.inl rfl) [_,_] ⟨⟨_,rfl,.inr ⟨[_,_,_],Zfw,Zbu 0 rfl rfl rfl,rfl⟩⟩,rfl,trivial⟩ ⟨by rw [ZoV (Zbb oz ha)];rfl,rfl,rfl⟩

theorem ZhK (q:Option Addr) (cp:Nat) (us:List DUser) (nm:Str) (hn:nm.length≤2000000) (B:Kn) (hu:SlK B q cp 3 Zp us):Z8 (pj J) 227 [.slice q us.length cp,str nm] B (.tuple #[.agg #[str (ZaM us nm).1.name,str (ZaM us nm).1.pass,.int .i64 (ZaM us nm).1.quota],.bool (ZaM us nm).2]):=by
 refine cB 15 Tryz.func227 (h:=?_)
 have hun:=hu.len
 refine Za (xBx [_] (h:=fun b1=>xAl [_,_,_] Zej (h:=fun b2=>xA (h:=tL2 (Zc (Za (xM (h:=xR ZxF rfl (Zh3 _ _ _ _ hu) (h:=xN (h:=Zb rfl (fun g0=>?_) (fun g0=>?_)))))))))))
 try simp only [sQ,ne_eq] at g0
 refine Za (xB [] [_,_,_] [_,_,_] ZyI Zej (h:=xS [_,_,_] 1 [_,_,_] Zbr (h:=xA (h:=tL2 (Zd (Zl ?_))))))
 exact Zrq .ret (.inl rfl) [_,_] ⟨⟨_,rfl,.inr ⟨[_,_,_],Zfw,Zbu 1 rfl rfl rfl,rfl⟩⟩,rfl,trivial⟩ ⟨by rw [ZaM,g0];rfl,rfl,rfl⟩
 try simp only [sQ,ne_eq] at g0
 refine wSk (Za (xM (h:=Zj (Zbz (xs:=[]) (ys:=[_]) rfl rfl rfl rfl (Zj (ZiJ 0 rfl rfl rfl Zzh rfl (Z8.borrow fun hm=>Zrc _ _ us 259 _ (fun y=>decide (y.name=nm)) _ (hu.mono Zp.mono (Kn.le_add _ _)) Zzg (fun y h1 h2=>Zkr y nm _ h1 hn _ (Zjt hm))) (xE (h:=xE (h:=xS [_,_,_] 1 [_,_,_] Zbr (h:=xA (h:=tL2 (Zd ?_))))))))))))
 exact Zrq .ret (.inl rfl) [_,_] ⟨⟨_,rfl,.inr ⟨[_,_,_],Zfw,Zbu 1 rfl rfl rfl,rfl⟩⟩,rfl,trivial⟩ ⟨by rw [ZaM,if_pos g0];rfl,rfl,rfl⟩

theorem Zht (b o:Nat) (q1 q2 q3:Option Addr) (c1 c2 c3:Nat) (x:DHost) (nm:Str) (hn:nm.length≤2000000) (B:Kn) (hh:Zan B b o [str x.domain,.slice q1 x.users.length c1,.slice q2 x.folders.length c2,.int .i64 x.queue.next,.slice q3 x.queue.items.length c3]) (hu:SlK B q1 c1 3 Zp x.users):Z8 (pj J) 179 [ptr ⟨b,o,none⟩,str nm] B (.bool (ZaM x.users nm).2):=by
 refine cB 17 Tryz.func179 (h:=?_)
 refine Za (xA (h:=Za (xM (h:=xNc (h:=xW Zcg (h:=Zj (Zo rfl rfl ZjE rfl (hh _ 1 _ rfl) (xM (h:=xR ZxA rfl (ZhK _ _ _ nm om2 _ hu) (h:=?_))))))))))
 refine xM (h:=xE (h:=xE (h:=xAl [_,_,_] Zej (h:=fun b2=>xS [_,_,_] 0 [_,_,_] Zbr (h:=xA (h:=tL1 (Za (xM (h:=xA (h:=Zd ?_))))))))))
 exact eR t1 ⟨rfl,rfl,rfl⟩

theorem Zlc (q1 q2 q3:Option Addr) (c1 c2 c3:Nat) (x:DHost) (ow nm:Str) (ho:ow.length≤2000000) (hn:nm.length≤2000000) (B:Kn) (hf:SlK B q2 c2 5 Zm x.folders):Z8 (pj J) 74 [.agg #[str x.domain,.slice q1 x.users.length c1,.slice q2 x.folders.length c2,.int .i64 x.queue.next,.slice q3 x.queue.items.length c3],str ow,str nm] B (.int .i64 (ZbI (inF ow nm) x.folders)):=by
 refine cB 34 Tryz.func74 (h:=?_)
 have hfn:=hf.len
 refine Za (xBx [_,_,_,_,_] (h:=fun b1=>xA (h:=tL1 (Zc (Za (xA (h:=Zg (Zy (α:=Nat) [0,1,2,3] (fun k=>[(7,.int .i64 k)]) [] (fun k=>[]) (fun k Bx=>Bx=B∧k≤x.folders.length∧∀y,y∈x.folders.take k→inF ow nm y=false) (fun k=>x.folders.length - k) 0 t1 rfl (⟨rfl,Nat.zero_le _,by simp⟩) (fun k B2 hle2 hI=>?_)))))))))
 obtain ⟨rfl,hk,ha⟩:=hI
 refine ZD [(0,_),(1,_),(2,_),(3,_),(7,_)] [_] t5 rfl (Zc (Za (xM (h:=xW ZaA (h:=x1 ZeS 0 (h:=xV Tryz.underlying36 (h:=ZG (h:=Zb rfl (fun g1=>?_) (fun g1=>?_)))))))))
 try simp only [sQ,ne_eq] at g1
 refine wSk (Zc (Zg (Za (xW ZaA (h:=x1 ZeS 0 (h:=xM (h:=?_)))))))
 obtain ⟨y,hy⟩:=ZX (xs:=x.folders) (i:=k) om
 obtain ⟨bb4,oo4,rfl⟩:=hf.base hy
 obtain ⟨_,⟨qg5,cg5,qm5,cm5,rfl,hg5,hm5,hb5,hb5b⟩,hc5⟩:=hf.elem hy
 have hg5n:=hg5.len
 have hm5n:=hm5.len
 have hm5s:=Zap hm5
 refine xIx Tryz.underlying36 Zb1 (h:=xW Zcv (h:=y1 lk9 hc5 0 (h:=xM (h:=Zd0 (h:=xM (h:=Zs (d:=23) rfl (fun g2=>?_) (fun g2=>?_)))))))
 try simp only [sQ,ne_eq] at g2
 refine xW ZaA (h:=x1 ZeS 0 (h:=xM (h:=xIx Tryz.underlying36 Zb1 (h:=xW Zea (h:=y1 lk9 hc5 1 (h:=xM (h:=Zd0 (h:=xT (h:=Zb rfl (fun g3=>?_) (fun g3=>?_))))))))))
 try simp only [sQ,ne_eq] at g3
 refine Za (xM (h:=xA (h:=Zd (ZA (Zl (ZM (ZA (Zl ?_))))))))
 exact eR t1 ⟨ZF (Zhu hy (by simp [inF,g2,g3]) ha).symm,rfl,rfl⟩
 try simp only [sQ,ne_eq] at g3
 refine ZS (ZK (Zn (Ze (xM (h:=xD (h:=xA (h:=?_)))))))
 exact ZC (k+1) [0] so2 ⟨rfl,oz,Za3 hy ha (by simp [inF,g2,g3])⟩ t5 rfl
 try simp only [sQ,ne_eq] at g2
 refine xP (h:=xP (h:=xP (h:=xP (h:=xP (h:=xP (h:=xP (h:=xP (h:=xF (h:=Zb (t:=false) rfl (fun h=>Bool.noConfusion h) (fun _=>ZS (ZK (Zn (Ze (xM (h:=xD (h:=xA (h:=?_)))))))))))))))))
 exact ZC (k+1) [0] so2 ⟨rfl,oz,Za3 hy ha (by simp [inF,g2])⟩ t5 rfl
 try simp only [sQ,ne_eq] at g1
 refine ZE (ZT (ZH (Zv (Zn (Za (xA (h:=Zd ?_)))))))
 exact eR t1 ⟨ZF (Ze4 (Zbb oz ha)).symm,rfl,rfl⟩

theorem ZvI (f:DFolder) (qa qb:Option Addr) (ca cb:Nat) (ow nm:Str) (b b':Nat) (h1:f.owner.length≤2000000) (h2:f.name.length≤2000000) (h3:ow.length≤2000000) (h4:nm.length≤2000000) (B:Kn) (hb:Zan B b 0 [str ow]) (hb2:Zan B b' 0 [str nm]):Z8 (pj J) 236 [.agg #[str f.owner,str f.name,.slice qa f.grants.length ca,.int .i64 f.next,.slice qb f.mail.length cb],ptr ⟨b,0,none⟩,ptr ⟨b',0,none⟩] B (.bool (inF ow nm f)):=by
 refine cB 15 Tryz.func236 (h:=?_)
 refine Za (xBx [_,_,_,_,_] (h:=fun b1=>xA (h:=tL1 (Za (xW Zcv (h:=x1 lk9 0 (h:=Zj (Zo rfl rfl lk9 rfl (hb _ 0 _ rfl) (Zd0 (h:=xM (h:=Zs (d:=9) rfl (fun g1=>?_) (fun g1=>?_))))))))))))
 refine xW Zea (h:=x1 lk9 0 (h:=Zj (Zo rfl rfl lk9 rfl (hb2 _ 0 _ rfl) (Zd0 (h:=xT (h:=xA (h:=Zd ?_)))))))
 exact eR t1 ⟨Zf (by rw [Bool.eq_iff_iff];simp [inF,g1]),rfl,rfl⟩
 refine xP (h:=xP (h:=xP (h:=xP (h:=xF (h:=xA (h:=Zd ?_))))))
 exact eR t1 ⟨Zf (by rw [Bool.eq_iff_iff];simp [inF,g1]),rfl,rfl⟩

theorem Zte (q:Option Addr) (cp:Nat) (fs:List DFolder) (F:FuncId) (cap:Array Value) (t:DFolder→Bool) (B:Kn) (hf:SlK B q cp 5 Zm fs) (he:enters (pj J) F=true) (hF :∀(f:DFolder) (qa qb:Option Addr) (ca cb:Nat),f.owner.length≤2000000→f.name.length≤2000000→Z8 (pj J) F ([.agg #[str f.owner,str f.name,.slice qa f.grants.length ca,.int .i64 f.next,.slice qb f.mail.length cb]] ++ cap.toList) B (.bool (t f))):Z8 (pj J) 235 [.slice q fs.length cp,.func (.func F) #[] cap] B (.int .i64 (ZbI t fs)):=by
 refine cB 19 Tryz.func235 (h:=?_)
 have hfn:=hf.len
 refine Za (xA (h:=Zc (Za (xM (h:=xV Tryz.underlying36 (h:=xM (h:=Zg (Zy (α:=Nat) [0,1,7] (fun k=>[(8,.int .i64 k)]) [] (fun k=>[]) (fun k Bx=>Bx=B∧k≤fs.length∧∀y,y∈fs.take k→t y=false) (fun k=>fs.length - k) 0 t1 rfl (⟨rfl,Nat.zero_le _,by simp⟩) (fun k B1 hle1 hI=>?_)))))))))
 obtain ⟨rfl,hk,ha⟩:=hI
 refine ZD [(0,_),(1,_),(7,_),(8,_)] [] t4 rfl (Za (ZG (h:=Zc (Zb rfl (fun g1=>?_) (fun g1=>?_)))))
 try simp only [sQ,ne_eq] at g1
 refine wSk (Zc (Zg (Za (xM (h:=xA (h:=Za (xM (h:=xM (h:=xM (h:=?_))))))))))
 obtain ⟨y,hy⟩:=ZX (xs:=fs) (i:=k) om
 obtain ⟨bb3,oo3,rfl⟩:=hf.base hy
 obtain ⟨_,⟨qg4,cg4,qm4,cm4,rfl,hg4,hm4,hb4,hb4b⟩,hc4⟩:=hf.elem hy
 have hg4n:=hg4.len
 have hm4n:=hm4.len
 have hm4s:=Zap hm4
 refine xIx Tryz.underlying36 Zb1 (h:=yL [_,_,_,_,_] Ziy hc4 0 (h:=Zj (Zt5 rfl rfl he rfl rfl (hF y _ _ _ _ om2 om2) ?_)))
 refine Zb rfl (fun g2=>?_) (fun g2=>?_)
 try simp only [sQ,ne_eq] at g2
 refine Za (xM (h:=xA (h:=Zd (ZA (Zl (ZM (ZA (Zl ?_))))))))
 exact eR t1 ⟨ZF (Zhu hy g2 ha).symm,rfl,rfl⟩
 try simp only [sQ,ne_eq] at g2
 refine ZS (ZK (Zn (Ze (xD (h:=xM (h:=?_))))))
 exact ZC (k+1) [] so2 ⟨rfl,oz,Za3 hy ha g2⟩ t4 rfl
 try simp only [sQ,ne_eq] at g1
 refine ZE (ZT (ZH (Zv (Zn (Za (xA (h:=Zd ?_)))))))
 exact eR t1 ⟨ZF (Ze4 (Zbb oz ha)).symm,rfl,rfl⟩

theorem Zuy (b o:Nat) (q1 q2 q3:Option Addr) (c1 c2 c3:Nat) (x:DHost) (ow nm:Str) (ho:ow.length≤2000000) (hn:nm.length≤2000000) (B:Kn) (hh:Zan B b o [str x.domain,.slice q1 x.users.length c1,.slice q2 x.folders.length c2,.int .i64 x.queue.next,.slice q3 x.queue.items.length c3]) (hf:SlK B q2 c2 5 Zm x.folders):Z8 (pj J) 184 [ptr ⟨b,o,none⟩,str ow,str nm] B (.int .i64 (ZbI (inF ow nm) x.folders)):=by
 refine cB 13 Tryz.func184 (h:=?_)
 refine Za (xBx [_] (h:=fun b1=>xBx [_] (h:=fun b2=>xA (h:=tL2 (Za (xM (h:=xNc (h:=xW ZaA (h:=Zj (Zo rfl rfl ZeS rfl (hh _ 2 _ rfl) (Zj (Zbz (xs:=[]) (ys:=[_,_]) rfl rfl rfl rfl (Zj (Zwp 0 1 rfl rfl rfl rfl rfl Zzt rfl (Z8.borrow2 fun hm1 hm2=>Zte _ _ x.folders 236 _ (inF ow nm) _ ((hf.mono Zm.mono (Kn.le_add _ _)).mono Zm.mono (Kn.le_add _ _)) Zzs (fun f qa qb ca cb h1 h2=>ZvI f qa qb ca cb ow nm _ _ h1 h2 ho hn _ (Zjt hm1) (Zjt hm2))) (xA (h:=Zd ?_))))))))))))))))
 exact eR t1 ⟨rfl,rfl,rfl⟩

theorem Zmh (b o:Nat) (q1 q2 q3:Option Addr) (c1 c2 c3:Nat) (x:DHost) (B:Kn) (hh:Zan B b o [str x.domain,.slice q1 x.users.length c1,.slice q2 x.folders.length c2,.int .i64 x.queue.next,.slice q3 x.queue.items.length c3]) (hu:SlK B q1 c1 3 Zp x.users) (hi:SlK B q3 c3 4 Zz x.queue.items):Z8 (pj J) 141 [ptr ⟨b,o,none⟩] B (.bool (x.queue.items.all (Zdc x.users))):=by
 refine cB 35 Tryz.func141 (h:=?_)
 have hin:=hi.len
 refine Za (xA (h:=Zc (Za (xM (h:=xNc (h:=xW ZeN (h:=xW ZbT (h:=Zj (Zo rfl rfl ZiZ rfl (hh _ 4 _ rfl) (xV Tryz.underlying37 (h:=xM (h:=Zg (Zy (α:=Nat) [0,11,12] (fun k=>[(13,.int .i64 k)]) [] (fun k=>[]) (fun k Bx=>Bx=B∧k≤x.queue.items.length∧∀y,y∈x.queue.items.take k→Zdc x.users y=true) (fun k=>x.queue.items.length - k) 0 t1 rfl (⟨rfl,Nat.zero_le _,by simp⟩) (fun k B1 hle1 hI=>?_))))))))))))))
 obtain ⟨rfl,hk,ha⟩:=hI
 refine ZD [(0,_),(11,_),(12,_),(13,_)] [] t4 rfl (Za (ZG (h:=Zc (Zb rfl (fun g1=>?_) (fun g1=>?_)))))
 try simp only [sQ,ne_eq] at g1
 refine wSk (Zc (Zg (Za ?_)))
 obtain ⟨y,hy⟩:=ZX (xs:=x.queue.items) (i:=k) om
 obtain ⟨bb3,oo3,rfl⟩:=hi.base hy
 obtain ⟨_,⟨qi4,ci4,rfl,hi4,hb4,hb4b⟩,hc4⟩:=hi.elem hy
 have hi4n:=hi4.len
 refine xIx Tryz.underlying37 ZbA (h:=yL [_,_,_,_] ZeX hc4 0 (h:=xAl [_,_,_,_] Zft (h:=fun b5=>xS [_,_,_,_] 0 [_,_,_,_] ZbA (h:=tL1 (Zc (Za (xM (h:=xW ZeA (h:=x1 lk9 0 (h:=xR ZtE rfl (Zht _ _ _ _ _ _ _ _ x y.fr om2 _ hh hu) (h:=?_)))))))))))
 refine xN (h:=Zb rfl (fun g2=>?_) (fun g2=>?_))
 try simp only [sQ,ne_eq] at g2
 refine Za (xA (h:=Zd (Zl (ZA (Zl (ZM (ZA (Zl ?_))))))))
 exact eR t1 ⟨Zf (ZbX hy (by simp [Zdc,g2])).symm,rfl,rfl⟩
 try simp only [sQ,ne_eq] at g2
 refine wSk (Za (xW ZcM (h:=x1 ZfV 0 (h:=xV Tryz.underlying134 (h:=xM (h:=Zg (Zy (α:=Nat) [0,4,11,12,13,14,21,23,24] (fun j=>[(25,.int .i64 j)]) [] (fun j=>[]) (fun j Bx=>Bx=B1∧j≤y.left.length∧∀z,z∈y.left.take j→(ZaM x.users z).2=true) (fun j=>y.left.length - j) 0 t1 rfl (⟨rfl,Nat.zero_le _,by simp⟩) (fun j B7 hle7 hI=>?_))))))))
 obtain ⟨rfl,hj,hb⟩:=hI
 refine ZD [(0,_),(4,_),(11,_),(12,_),(13,_),(14,_),(21,_),(23,_),(24,_),(25,_)] [_] t10 rfl (Za (ZG (h:=Zc (Zb rfl (fun g3=>?_) (fun g3=>?_)))))
 try simp only [sQ,ne_eq] at g3
 refine wSk (Zc (Zg (Za ?_)))
 obtain ⟨z,hz⟩:=ZX (xs:=y.left) (i:=j) om
 obtain ⟨bb9,oo9,rfl⟩:=hi4.base hz
 obtain ⟨_,⟨rfl,hb10⟩,hc10⟩:=hi4.elem hz
 refine xIx Tryz.underlying134 sz9 (h:=y1 lk9 hc10 0 (h:=xA (h:=Za (xM (h:=xM (h:=xR ZtE rfl (Zht _ _ _ _ _ _ _ _ x z om2 _ hh hu) (h:=?_)))))))
 refine xN (h:=Zb rfl (fun g4=>?_) (fun g4=>?_))
 try simp only [sQ,ne_eq] at g4
 refine Za (xA (h:=Zd (ZA (Zl (ZM (ZA (ZA (Zl (ZM (ZA (Zl ?_)))))))))))
 exact eR t1 ⟨Zf (ZbX hy (by rw [Zdc,ZbX hz g4,Bool.and_false])).symm,rfl,rfl⟩
 try simp only [sQ,ne_eq] at g4
 refine ZS (ZK (Zn (Ze (xD (h:=xM (h:=?_))))))
 exact ZC (j+1) [0] so2 ⟨rfl,oz,Za3 hz hb g4⟩ t10 rfl
 try simp only [sQ,ne_eq] at g3
 refine ZE (ZT (ZH (Zv (ZK (Zn (Ze (xD (h:=xM (h:=?_)))))))))
 exact ZC (k+1) [] so2 ⟨rfl,oz,Za3 hy ha (by rw [Zdc,g2,ZdP (Zbb oz hb)];rfl)⟩ t4 rfl
 try simp only [sQ,ne_eq] at g1
 refine ZE (ZT (ZH (Zv (Zn (Za (xA (h:=Zd ?_)))))))
 exact eR t1 ⟨Zf (ZdP (Zbb oz ha)).symm,rfl,rfl⟩

theorem Zqw (f g:DFolder) (qa qb qc qd:Option Addr) (ca cb cc cd:Nat) (B:Kn):Z8 (pj J) 123 [.agg #[str f.owner,str f.name,.slice qa f.grants.length ca,.int .i64 f.next,.slice qb f.mail.length cb],.agg #[str g.owner,str g.name,.slice qc g.grants.length cc,.int .i64 g.next,.slice qd g.mail.length cd]] B (.bool (ZeZ f g)):=by
 refine cB 24 Tryz.func123 (h:=?_)
 refine Za (xBx [_,_,_,_,_] (h:=fun b1=>xBx [_,_,_,_,_] (h:=fun b2=>xA (h:=tL2 (Za (xW Zcv (h:=x1 lk9 0 (h:=xW Zcv (h:=x1 lk9 1 (h:=Zt4 (h:=xM (h:=Zs (d:=10) rfl (fun g1=>?_) (fun g1=>?_)))))))))))))
 refine xP (h:=xP (h:=xP (h:=xP (h:=xP (h:=xP (h:=xP (h:=xP (h:=xP (h:=xP (h:=xP (h:=xP (h:=xT (h:=xA (h:=Zd ?_))))))))))))))
 exact eR t1 ⟨Zf (by rw [Bool.eq_iff_iff];simp [ZeZ,ZdN,g1]),rfl,rfl⟩
 refine xW Zcv (h:=x1 lk9 0 (h:=xW Zcv (h:=x1 lk9 1 (h:=Zd0 (h:=xM (h:=Zs (d:=16) rfl (fun g2=>?_) (fun g2=>?_)))))))
 refine xW Zea (h:=x1 lk9 0 (h:=xW Zea (h:=x1 lk9 1 (h:=Zt4 (h:=xT (h:=xF (h:=xA (h:=Zd ?_))))))))
 exact eR t1 ⟨Zf (by rw [Bool.eq_iff_iff];simp [ZeZ,ZdN,g1,g2]),rfl,rfl⟩
 refine xP (h:=xP (h:=xP (h:=xP (h:=xP (h:=xF (h:=xF (h:=xA (h:=Zd ?_))))))))
 exact eR t1 ⟨Zf (by rw [Bool.eq_iff_iff];simp [ZeZ,ZdN,g1,g2]),rfl,rfl⟩

theorem Zma (q:Option Addr) (cp:Nat) (us:List DUser) (B:Kn) (hu:SlK B q cp 3 Zp us):Z8 (pj J) 71 [.slice q us.length cp] B (.bool (ZaE us)):=by
 refine cB 54 Tryz.func71 (h:=?_)
 have hun:=hu.len
 refine Za (xA (h:=Zc (Za (xA (h:=Zg (Zy (α:=Nat × Str) [0] (fun g=>[(3,.int .i64 g.1)]) [] (fun g=>[]) (fun g Bx=>Bx=B∧g.1≤us.length∧Zep (us.take g.1)=(true,g.2)∧Prev (fun y=>y.name) ([]:Str) us g.1 g.2) (fun g=>us.length - g.1) (0,[]) t1 rfl (⟨rfl,Nat.zero_le _,ZdV,.zero⟩) (fun g B1 hle1 hI=>?_)))))))
 obtain ⟨rfl,hk,hs,hp⟩:=hI
 refine ZD [(0,_),(3,_)] [] t2 rfl (Zc (Za (xM (h:=xM (h:=xV Tryz.underlying35 (h:=ZG (h:=Zb rfl (fun g1=>?_) (fun g1=>?_))))))))
 try simp only [sQ,ne_eq] at g1
 refine wSk (Zc (Zg (Za (xM (h:=xM (h:=?_))))))
 obtain ⟨m,hm⟩:=ZX (xs:=us) (i:=g.1) om
 obtain ⟨bb3,oo3,rfl⟩:=hu.base hm
 obtain ⟨_,⟨rfl,hb4,hb4b⟩,hc4⟩:=hu.elem hm
 refine xIx Tryz.underlying35 Zbr (h:=yL [_,_,_] Zfw hc4 0 (h:=xAl [_,_,_] Zej (h:=fun b5=>xS [_,_,_] 0 [_,_,_] Zbr (h:=tL1 (Zc (Z3 (same _ _) mo kr ⟨rfl,rfl⟩ (fun _ _=>?_)))))))
 refine aW 0 rfl Zbg (h:=aT 1 rfl (Zaf fun D=>Zo rfl rfl lk9 rfl (atL 0 rfl rfl rfl) r4) (h:=aT 2 rfl (Zaf fun D=>Z9 rfl rfl ZmZ rfl (ZcG _ om2 _) r4) (h:=?_)))
 refine aN 3 rfl (h:=aM 4 rfl (h:=ZaF (d:=19) rfl (fun g2=>?_) (fun g2=>?_)))
 try simp only [sQ,ne_eq] at g2
 refine aZ 5 rfl (h:=aZ 6 rfl (h:=aZ 7 rfl (h:=aPT 8 rfl (h:=aM 9 rfl (h:=aZ 10 rfl (h:=aZ 11 rfl (h:=aZ 12 rfl (h:=aZ 13 rfl (h:=aPT 14 rfl (h:=aM 15 rfl (h:=aZ 16 rfl (h:=aZ 17 rfl (h:=aZ 18 rfl (h:=aZ 19 rfl (h:=aPT 20 rfl (h:=aM 21 rfl (h:=aZ 22 rfl (h:=aZ 23 rfl (h:=aZ 24 rfl (h:=aZ 25 rfl (h:=aZ 26 rfl (h:=aZ 27 rfl (h:=aZ 28 rfl (h:=aZ 29 rfl (h:=aZ 30 rfl (h:=aZ 31 rfl (h:=aZ 32 rfl (h:=aZ 33 rfl (h:=aZ 34 rfl (h:=aPT 35 rfl (h:=Zu kr kr ?_)))))))))))))))))))))))))))))))
 refine Zn (Zb (t:=true) rfl (fun _=>Za (xA (h:=Zd (ZA (Zl (ZM (ZA (Zl ?_)))))))) (fun h=>Bool.noConfusion h))
 exact eR t1 ⟨Zf (Zdn hm hs (by simp [ZeP,Zc5,anyone,g1,g2])).symm,rfl,rfl⟩
 try simp only [sQ,ne_eq] at g2
 refine aW 5 rfl Zbg (h:=aT 6 rfl (Zaf fun D=>Zo rfl rfl lk9 rfl (atL 0 rfl rfl rfl) r4) (h:=ZrS 7 rfl (h:=aPF 8 rfl (h:=aM 9 rfl (h:=ZaF (d:=24) rfl (fun g3=>?_) (fun g3=>?_))))))
 try simp only [sQ,ne_eq] at g3
 refine aZ 10 rfl (h:=aZ 11 rfl (h:=aZ 12 rfl (h:=aZ 13 rfl (h:=aPT 14 rfl (h:=aM 15 rfl (h:=aZ 16 rfl (h:=aZ 17 rfl (h:=aZ 18 rfl (h:=aZ 19 rfl (h:=aPT 20 rfl (h:=aM 21 rfl (h:=aZ 22 rfl (h:=aZ 23 rfl (h:=aZ 24 rfl (h:=aZ 25 rfl (h:=aZ 26 rfl (h:=aZ 27 rfl (h:=aZ 28 rfl (h:=aZ 29 rfl (h:=aZ 30 rfl (h:=aZ 31 rfl (h:=aZ 32 rfl (h:=aZ 33 rfl (h:=aZ 34 rfl (h:=aPT 35 rfl (h:=Zu kr kr ?_))))))))))))))))))))))))))
 refine Zn (Zb (t:=true) rfl (fun _=>Za (xA (h:=Zd (ZA (Zl (ZM (ZA (Zl ?_)))))))) (fun h=>Bool.noConfusion h))
 exact eR t1 ⟨Zf (Zdn hm hs (by simp [ZeP,Zc5,anyone,g1,g2,g3])).symm,rfl,rfl⟩
 try simp only [sQ,ne_eq] at g3
 refine aW 10 rfl Zf0 (h:=aT 11 rfl (Zaf fun D=>Zo rfl rfl lk9 rfl (atL 0 rfl rfl rfl) r4) (h:=aT 12 rfl (Zaf fun D=>Z9 rfl rfl ZmZ rfl (ZcG _ om2 _) r4) (h:=?_)))
 refine aN 13 rfl (h:=aPF 14 rfl (h:=aM 15 rfl (h:=ZaF (d:=30) rfl (fun g4=>?_) (fun g4=>?_))))
 try simp only [sQ,ne_eq] at g4
 refine aZ 16 rfl (h:=aZ 17 rfl (h:=aZ 18 rfl (h:=aZ 19 rfl (h:=aPT 20 rfl (h:=aM 21 rfl (h:=aZ 22 rfl (h:=aZ 23 rfl (h:=aZ 24 rfl (h:=aZ 25 rfl (h:=aZ 26 rfl (h:=aZ 27 rfl (h:=aZ 28 rfl (h:=aZ 29 rfl (h:=aZ 30 rfl (h:=aZ 31 rfl (h:=aZ 32 rfl (h:=aZ 33 rfl (h:=aZ 34 rfl (h:=aPT 35 rfl (h:=Zu kr kr ?_))))))))))))))))))))
 refine Zn (Zb (t:=true) rfl (fun _=>Za (xA (h:=Zd (ZA (Zl (ZM (ZA (Zl ?_)))))))) (fun h=>Bool.noConfusion h))
 exact eR t1 ⟨Zf (Zdn hm hs (by simp [ZeP,Zc5,anyone,g1,g2,g3,g4])).symm,rfl,rfl⟩
 try simp only [sQ,ne_eq] at g4
 refine aW 16 rfl ZdX (h:=aT 17 rfl (Zaf fun D=>Zo rfl rfl lk3 rfl (atL 0 rfl rfl rfl) r4) (h:=aT 18 rfl (Zaf fun D=>Z9 rfl rfl Zj0 rfl (Zcr _ _ _ _) r4) (h:=aN 19 rfl (h:=aPF 20 rfl (h:=aM 21 rfl (h:=ZaF (d:=36) rfl (fun g5=>?_) (fun g5=>?_)))))))
 try simp only [sQ,ne_eq] at g5
 refine aZ 22 rfl (h:=aZ 23 rfl (h:=aZ 24 rfl (h:=aZ 25 rfl (h:=aZ 26 rfl (h:=aZ 27 rfl (h:=aZ 28 rfl (h:=aZ 29 rfl (h:=aZ 30 rfl (h:=aZ 31 rfl (h:=aZ 32 rfl (h:=aZ 33 rfl (h:=aZ 34 rfl (h:=aPT 35 rfl (h:=Zu kr kr ?_))))))))))))))
 refine Zn (Zb (t:=true) rfl (fun _=>Za (xA (h:=Zd (ZA (Zl (ZM (ZA (Zl ?_)))))))) (fun h=>Bool.noConfusion h))
 exact eR t1 ⟨Zf (Zdn hm hs (by simp [ZeP,Zc5,anyone,g1,g2,g3,g4,g5])).symm,rfl,rfl⟩
 try simp only [sQ,ne_eq] at g5
 refine aM 22 rfl (h:=Zo8 23 rfl (h:=aM 24 rfl (h:=ZaF (d:=39) rfl (fun g6=>?_) (fun g6=>?_))))
 try simp only [sQ,ne_eq] at g6
 refine aM 25 rfl (h:=aM 26 rfl (h:=aU 27 rfl (h:=?_)))
 obtain ⟨y,hy⟩:=Ztu (xs:=us) (i:=(↑g.1 - 1)) om om
 obtain ⟨_,⟨rfl,hb10,hb10b⟩,hc10⟩:=hu.elem hy
 refine aIx 28 rfl Tryz.underlying35 Zbr (h:=?_)
 have hpe:=hp.at hy oz
 refine aW 29 rfl Zbg (h:=aT 30 rfl (Zaf fun D=>Zo rfl rfl lk9 rfl (hc10 _ 0 _ rfl) r4) (h:=aW 31 rfl Zbg (h:=aT 32 rfl (Zaf fun D=>Zo rfl rfl lk9 rfl (atL 0 rfl rfl rfl) r4) (h:=aT 33 rfl (Zaf fun D=>Zue rfl rfl rfl rfl r4) (h:=aPT 34 rfl (h:=aPF 35 rfl (h:=Zu kr kr ?_)))))))
 refine Zn (Zb rfl (fun g7=>?_) (fun g7=>?_))
 try simp only [sQ,ne_eq] at g7
 refine Za (xA (h:=Zd (ZA (Zl (ZM (ZA (Zl ?_)))))))
 exact eR t1 ⟨Zf (Zdn hm hs (by simp [ZeP,Zc5,anyone,g1,g2,g3,g4,g5,g6,g7,hpe])).symm,rfl,rfl⟩
 try simp only [sQ,ne_eq] at g7
 refine ZS (ZK (Zn (Ze (xM (h:=xD (h:=xA (h:=?_)))))))
 exact ZC (g.1+1,m.name) [] so2 ⟨rfl,oz,Zbp hm hs (by rw [hpe];simp [ZeP,Zc5,anyone,g2,g3,g4,g7];simp at g5;omega),.succ hm⟩ t2 rfl
 try simp only [sQ,ne_eq] at g6
 refine aZ 25 rfl (h:=aZ 26 rfl (h:=aZ 27 rfl (h:=aZ 28 rfl (h:=aZ 29 rfl (h:=aZ 30 rfl (h:=aZ 31 rfl (h:=aZ 32 rfl (h:=aZ 33 rfl (h:=aPF 34 rfl (h:=aPF 35 rfl (h:=Zu kr kr ?_)))))))))))
 refine Zn (Zb (t:=false) rfl (fun h=>Bool.noConfusion h) (fun _=>ZS (ZK (Zn (Ze (xM (h:=xD (h:=xA (h:=?_)))))))))
 exact ZC (g.1+1,m.name) [] so2 ⟨rfl,oz,Zbp hm hs (by rw [hp.at0 oz];simp [ZeP,Zc5,anyone,g2,g3,g4,ZnB (ZiV g2)];simp at g5;omega),.succ hm⟩ t2 rfl
 try simp only [sQ,ne_eq] at g1
 refine ZE (ZT (ZH (Zv (Zn (Za (xM (h:=xV Tryz.underlying35 (h:=xR Zj0 rfl (Zcr _ _ _ _) (h:=xA (h:=Zd ?_))))))))))
 exact eR t1 ⟨Zf (by rw [ZhI (Zds hs oz),Bool.eq_iff_iff];simp;omega),rfl,rfl⟩

theorem ZpR (q:Option Addr) (cp:Nat) (gs:List DGrant) (B:Kn) (hg:SlK B q cp 2 Zac gs):Z8 (pj J) 122 [.slice q gs.length cp] B (.bool (Zde gs)):=by
 refine cB 47 Tryz.func122 (h:=?_)
 have hgn:=hg.len
 refine Za (xA (h:=Zc (Za (xA (h:=Zg (Zy (α:=Nat × Str) [0] (fun g=>[(3,.int .i64 g.1)]) [] (fun g=>[]) (fun g Bx=>Bx=B∧g.1≤gs.length∧ZcY (gs.take g.1)=(true,g.2)∧Prev (fun y=>y.user) ([]:Str) gs g.1 g.2) (fun g=>gs.length - g.1) (0,[]) t1 rfl (⟨rfl,Nat.zero_le _,ZdV,.zero⟩) (fun g B1 hle1 hI=>?_)))))))
 obtain ⟨rfl,hk,hs,hp⟩:=hI
 refine ZD [(0,_),(3,_)] [] t2 rfl (Zc (Za (xM (h:=xM (h:=xV Tryz.underlying85 (h:=ZG (h:=Zb rfl (fun g1=>?_) (fun g1=>?_))))))))
 try simp only [sQ,ne_eq] at g1
 refine wSk (Zc (Zg (Zc (Z3 (same _ _) mo kr ⟨rfl,rfl⟩ (fun _ _=>?_)))))
 refine aM 0 rfl (h:=aM 1 rfl (h:=?_))
 obtain ⟨m,hm⟩:=ZX (xs:=gs) (i:=g.1) om
 obtain ⟨bb3,oo3,rfl⟩:=hg.base hm
 obtain ⟨_,⟨rfl,hb4⟩,hc4⟩:=hg.elem hm
 refine aIx 2 rfl Tryz.underlying85 ZdT (h:=aW 3 rfl Zcw (h:=aT 4 rfl (Zaf fun D=>Zo rfl rfl lk9 rfl (hc4 _ 0 _ rfl) r4) (h:=aT 5 rfl (Zaf fun D=>Z9 rfl rfl ZmZ rfl (ZcG _ om2 _) r4) (h:=?_))))
 refine aN 6 rfl (h:=aM 7 rfl (h:=ZaF (d:=17) rfl (fun g2=>?_) (fun g2=>?_)))
 try simp only [sQ,ne_eq] at g2
 refine aZ 8 rfl (h:=aZ 9 rfl (h:=aZ 10 rfl (h:=aZ 11 rfl (h:=aZ 12 rfl (h:=aZ 13 rfl (h:=aZ 14 rfl (h:=aPT 15 rfl (h:=aM 16 rfl (h:=aZ 17 rfl (h:=aZ 18 rfl (h:=aZ 19 rfl (h:=aZ 20 rfl (h:=aZ 21 rfl (h:=aZ 22 rfl (h:=aZ 23 rfl (h:=aZ 24 rfl (h:=aZ 25 rfl (h:=aZ 26 rfl (h:=aZ 27 rfl (h:=aZ 28 rfl (h:=aZ 29 rfl (h:=aZ 30 rfl (h:=aZ 31 rfl (h:=aZ 32 rfl (h:=aPT 33 rfl (h:=Zu kr kr ?_))))))))))))))))))))))))))
 refine Zn (Zb (t:=true) rfl (fun _=>Za (xA (h:=Zd (ZA (Zl (ZM (ZA (Zl ?_)))))))) (fun h=>Bool.noConfusion h))
 exact eR t1 ⟨Zf (ZdE hm hs (by simp [Zcf,g1,g2])).symm,rfl,rfl⟩
 try simp only [sQ,ne_eq] at g2
 refine aM 8 rfl (h:=aM 9 rfl (h:=aIx 10 rfl Tryz.underlying85 ZdT (h:=aW 11 rfl Zdx (h:=aT 12 rfl (Zaf fun D=>Zo rfl rfl lk3 rfl (hc4 _ 1 _ rfl) r4) (h:=aT 13 rfl (Zaf fun D=>Z9 rfl rfl Zj0 rfl (Zcr _ _ _ _) r4) (h:=aN 14 rfl (h:=aPF 15 rfl (h:=aM 16 rfl (h:=ZaF (d:=26) rfl (fun g4=>?_) (fun g4=>?_))))))))))
 try simp only [sQ,ne_eq] at g4
 refine aZ 17 rfl (h:=aZ 18 rfl (h:=aZ 19 rfl (h:=aZ 20 rfl (h:=aZ 21 rfl (h:=aZ 22 rfl (h:=aZ 23 rfl (h:=aZ 24 rfl (h:=aZ 25 rfl (h:=aZ 26 rfl (h:=aZ 27 rfl (h:=aZ 28 rfl (h:=aZ 29 rfl (h:=aZ 30 rfl (h:=aZ 31 rfl (h:=aZ 32 rfl (h:=aPT 33 rfl (h:=Zu kr kr ?_)))))))))))))))))
 refine Zn (Zb (t:=true) rfl (fun _=>Za (xA (h:=Zd (ZA (Zl (ZM (ZA (Zl ?_)))))))) (fun h=>Bool.noConfusion h))
 exact eR t1 ⟨Zf (ZdE hm hs (by simp [Zcf,g1,g2,g4])).symm,rfl,rfl⟩
 try simp only [sQ,ne_eq] at g4
 refine aM 17 rfl (h:=Zo8 18 rfl (h:=aM 19 rfl (h:=ZaF (d:=29) rfl (fun g6=>?_) (fun g6=>?_))))
 try simp only [sQ,ne_eq] at g6
 refine aM 20 rfl (h:=aM 21 rfl (h:=aU 22 rfl (h:=?_)))
 obtain ⟨y,hy⟩:=Ztu (xs:=gs) (i:=(↑g.1 - 1)) om om
 obtain ⟨_,⟨rfl,hb8⟩,hc8⟩:=hg.elem hy
 refine aIx 23 rfl Tryz.underlying85 ZdT (h:=?_)
 have hpe:=hp.at hy oz
 refine aW 24 rfl Zcw (h:=aT 25 rfl (Zaf fun D=>Zo rfl rfl lk9 rfl (hc8 _ 0 _ rfl) r4) (h:=aM 26 rfl (h:=aM 27 rfl (h:=aIx 28 rfl Tryz.underlying85 ZdT (h:=aW 29 rfl Zcw (h:=aT 30 rfl (Zaf fun D=>Zo rfl rfl lk9 rfl (hc4 _ 0 _ rfl) r4) (h:=aT 31 rfl (Zaf fun D=>Zue rfl rfl rfl rfl r4) (h:=aPT 32 rfl (h:=aPF 33 rfl (h:=Zu kr kr ?_))))))))))
 refine Zn (Zb rfl (fun g7=>?_) (fun g7=>?_))
 try simp only [sQ,ne_eq] at g7
 refine Za (xA (h:=Zd (ZA (Zl (ZM (ZA (Zl ?_)))))))
 exact eR t1 ⟨Zf (ZdE hm hs (by simp [Zcf,g1,g2,g4,g6,g7,hpe])).symm,rfl,rfl⟩
 try simp only [sQ,ne_eq] at g7
 refine ZS (ZK (Zn (Ze (xM (h:=xD (h:=xA (h:=?_)))))))
 exact ZC (g.1+1,m.user) [] so2 ⟨rfl,oz,Zbp hm hs (by rw [hpe];simp [Zcf,g2,g7];simp at g4;omega),.succ hm⟩ t2 rfl
 try simp only [sQ,ne_eq] at g6
 refine aZ 20 rfl (h:=aZ 21 rfl (h:=aZ 22 rfl (h:=aZ 23 rfl (h:=aZ 24 rfl (h:=aZ 25 rfl (h:=aZ 26 rfl (h:=aZ 27 rfl (h:=aZ 28 rfl (h:=aZ 29 rfl (h:=aZ 30 rfl (h:=aZ 31 rfl (h:=aPF 32 rfl (h:=aPF 33 rfl (h:=Zu kr kr ?_))))))))))))))
 refine Zn (Zb (t:=false) rfl (fun h=>Bool.noConfusion h) (fun _=>ZS (ZK (Zn (Ze (xM (h:=xD (h:=xA (h:=?_)))))))))
 exact ZC (g.1+1,m.user) [] so2 ⟨rfl,oz,Zbp hm hs (by rw [hp.at0 oz];simp [Zcf,g2,ZnB (ZiV g2)];simp at g4;omega),.succ hm⟩ t2 rfl
 try simp only [sQ,ne_eq] at g1
 refine ZE (ZT (ZH (Zv (Zn (Za (xM (h:=xV Tryz.underlying85 (h:=ZbJ (h:=xA (h:=Zd ?_))))))))))
 exact eR t1 ⟨Zf (by rw [ZlN (Zds hs oz),Bool.eq_iff_iff];simp;try omega),rfl,rfl⟩

theorem ZoG (q1 q2 q3:Option Addr) (c1 c2 c3:Nat) (x:DHost) (q:Option Addr) (cp:Nat) (ns:List Str) (B:Kn) (hu:SlK B q1 c1 3 Zp x.users) (hn:SlK B q cp 1 ZdF ns):Z8 (pj J) 77 [.agg #[str x.domain,.slice q1 x.users.length c1,.slice q2 x.folders.length c2,.int .i64 x.queue.next,.slice q3 x.queue.items.length c3],.slice q ns.length cp] B (.bool (Zlf x.users ns)):=by
 refine cB 20 Tryz.func77 (h:=?_)
 have hnn:=hn.len
 have hun:=hu.len
 refine Za (xBx [_,_,_,_,_] (h:=fun b1=>xA (h:=tL1 (Zc (Za (xA (h:=Zg (Zy (α:=Nat) [0,1,2] (fun k=>[(5,.int .i64 k)]) [] (fun k=>[]) (fun k Bx=>Bx=B∧k≤ns.length∧∀z,z∈ns.take k→decide (0≤Ze3 x.users z)=true) (fun k=>ns.length - k) 0 t1 rfl (⟨rfl,Nat.zero_le _,by simp⟩) (fun k B2 hle2 hI=>?_)))))))))
 obtain ⟨rfl,hk,ha⟩:=hI
 refine ZD [(0,_),(1,_),(2,_),(5,_)] [_] t4 rfl (Zc (Za (xM (h:=xM (h:=xV Tryz.underlying134 (h:=ZG (h:=Zb rfl (fun g1=>?_) (fun g1=>?_))))))))
 try simp only [sQ,ne_eq] at g1
 refine wSk (Zc (Zg (Zc (Z3 (same _ _) mo kr ⟨rfl,rfl⟩ (fun _ _=>?_)))))
 refine aW 0 rfl Zcg (h:=aT 1 rfl (Zaf fun D=>Zo rfl rfl ZjE rfl (atL 0 rfl rfl rfl) r4) (h:=aM 2 rfl (h:=aM 3 rfl (h:=?_))))
 obtain ⟨z,hz⟩:=ZX (xs:=ns) (i:=k) om
 obtain ⟨bb4,oo4,rfl⟩:=hn.base hz
 obtain ⟨_,⟨rfl,hb5⟩,hc5⟩:=hn.elem hz
 refine aIx 4 rfl Tryz.underlying134 sz9 (h:=aT 5 rfl (Zaf fun D=>Zo rfl rfl lk9 rfl (hc5 _ 0 _ rfl) r4) (h:=aT 6 rfl (Zaf fun D=>Z9 rfl rfl Zx8 rfl (Zgp _ _ _ _ _ hu) r4) (h:=Zt0 7 rfl (h:=Zu kr kr ?_))))
 refine Zn (Zb rfl (fun g2=>?_) (fun g2=>?_))
 try simp only [sQ,ne_eq] at g2
 refine Za (xA (h:=Zd (ZA (Zl (ZM (ZA (Zl ?_)))))))
 exact eR t1 ⟨Zf (ZbX hz (by simp;omega)).symm,rfl,rfl⟩
 try simp only [sQ,ne_eq] at g2
 refine ZS (ZK (Zn (Ze (xM (h:=xD (h:=xA (h:=?_)))))))
 exact ZC (k+1) [0] so2 ⟨rfl,oz,Za3 hz ha (by simp;omega)⟩ t4 rfl
 try simp only [sQ,ne_eq] at g1
 refine ZE (ZT (ZH (Zv (Zn (Za (xA (h:=Zd ?_)))))))
 exact eR t1 ⟨Zf (ZdP (Zbb oz ha)).symm,rfl,rfl⟩

theorem Zqv (q1 q2 q3:Option Addr) (c1 c2 c3:Nat) (x:DHost) (u:Str) (B:Kn) (hf:SlK B q2 c2 5 Zm x.folders):Z8 (pj J) 75 [.agg #[str x.domain,.slice q1 x.users.length c1,.slice q2 x.folders.length c2,.int .i64 x.queue.next,.slice q3 x.queue.items.length c3],str u] B (.int .i64 (ZdS x.folders u)):=by
 refine cB 32 Tryz.func75 (h:=?_)
 have hfn:=hf.len
 refine Za (xBx [_,_,_,_,_] (h:=fun b1=>xA (h:=tL1 (Za (xA (h:=Zc (Za (xA (h:=Zg (Zy (α:=Nat × Nat) [0,1,2,4] (fun g=>[(5,.int .i64 g.2),(6,.int .i64 g.1)]) [] (fun g=>[]) (fun g Bx=>Bx=B∧g.1≤x.folders.length∧g.2=ZdS (x.folders.take g.1) u∧g.2≤g.1*4000000000000) (fun g=>x.folders.length - g.1) (0,0) t2 rfl (⟨rfl,Nat.zero_le _,by simp [ZdS],oz⟩) (fun g B2 hle2 hI=>?_)))))))))))
 obtain ⟨rfl,hk,hs,hl⟩:=hI
 refine ZD [(0,_),(1,_),(2,_),(4,_),(5,_),(6,_)] [_] t6 rfl (Zc (Za (xM (h:=xW ZaA (h:=x1 ZeS 0 (h:=xV Tryz.underlying36 (h:=ZG (h:=Zb rfl (fun g1=>?_) (fun g1=>?_)))))))))
 try simp only [sQ,ne_eq] at g1
 refine wSk (Zc (Zg (Za (xW ZaA (h:=x1 ZeS 0 (h:=xM (h:=?_)))))))
 obtain ⟨m,hm⟩:=ZX (xs:=x.folders) (i:=g.1) om
 obtain ⟨bb4,oo4,rfl⟩:=hf.base hm
 obtain ⟨_,⟨qg5,cg5,qm5,cm5,rfl,hg5,hm5,hb5,hb5b⟩,hc5⟩:=hf.elem hm
 have hg5n:=hg5.len
 have hm5n:=hm5.len
 have hm5s:=Zap hm5
 refine xIx Tryz.underlying36 Zb1 (h:=xW Zcv (h:=y1 lk9 hc5 0 (h:=xM (h:=Zd0 (h:=Zb rfl (fun g2=>?_) (fun g2=>?_))))))
 try simp only [sQ,ne_eq] at g2
 refine Ze (xM (h:=xW ZaA (h:=x1 ZeS 0 (h:=xM (h:=xIx Tryz.underlying36 Zb1 (h:=xW Zbi (h:=yL [_,_] ZeQ hc5 3 (h:=xR ZAq rfl (Zqy _ _ (⟨m.next,m.mail⟩:DBox) _ hm5) (h:=xD (h:=xA (h:=ZK (Zn (Ze (xM (h:=xD (h:=xA (h:=?_)))))))))))))))))
 exact ZC (g.1+1,g.2+ZaJ m.mail) [0] so2 ⟨rfl,so,by rw [ZiM hm,← hs,if_pos g2],so⟩ t6 rfl
 try simp only [sQ,ne_eq] at g2
 refine ZS (ZK (Zn (Ze (xM (h:=xD (h:=xA (h:=?_)))))))
 exact ZC (g.1+1,g.2) [0] so2 ⟨rfl,so,by rw [ZiM hm,← hs,if_neg g2];simp only [Nat.add_zero],Nat.le_trans hl (Nat.mul_le_mul_right _ (Nat.le_succ _))⟩ t6 rfl
 try simp only [sQ,ne_eq] at g1
 refine ZE (ZT (ZH (Zv (Zn (Za (xM (h:=xA (h:=Zd ?_))))))))
 exact eR t1 ⟨ZF (by rw [← Zpx hs oz]),rfl,rfl⟩

end Go.Proofs.YtonfijmgahdgeaaGreatDoor
