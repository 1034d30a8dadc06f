/-
  Each function's contract, proved off its printed body (written by program).
-/
import Derived.Test.YtonfijmgahdgeaaGreatDoorRows
import Derived.Test.YtonfijmgahdgeaaGreatDoorL0
import Derived.KernelRfl
namespace Go.Proofs.YtonfijmgahdgeaaGreatDoor
open Go Go.BL
set_option linter.unusedVariables false
set_option linter.unusedSimpArgs false
noncomputable abbrev pj (J : JoinT) : PJ := ⟨Tryz.prog, J⟩
noncomputable abbrev wgL : Go.Conc.Lib.WgLink := { add := 176, done := 178, wait := 182, relMerge := 214, disable := 215, enable := 216, inBubble := 217, associate := 218, fatal := 219, uOr := 220, uAdd := 221, raceRead := 222, uLoad := 223, uStore := 224, disassociate := 225, semrelease := 226, acquire := 229, isAssociated := 230, uCas := 231, raceWrite := 232, semacquire := 233, orU64 := 254, addU64 := 255, loadU64 := 256, storeU64 := 257, casU64 := 261, tWg := 262, tUP := 290, tAssoc := 291, tAU := 260, tU64 := 258, tUint := 295, tU32 := 157, tNoCopy := 156, tANoCopy := 256, tAlign64 := 257, tWgP := 288, tPU32 := 296, tPAU := 348, tPU64 := 350 }
theorem ZmI : Go.Conc.Lib.WgLib Tryz.prog wgL :=
  ⟨Tryz.func176, Tryz.func178, Tryz.func182, Tryz.func214, Tryz.func215, Tryz.func216, Tryz.func217, Tryz.func218, Tryz.func219, Tryz.func220, Tryz.func221, Tryz.func222, Tryz.func223, Tryz.func224, Tryz.func225, Tryz.func226, Tryz.func229, Tryz.func230, Tryz.func231, Tryz.func232, Tryz.func233, Tryz.func254, Tryz.func255, Tryz.func256, Tryz.func257, Tryz.func261, Tryz.underlying288, Tryz.runUnderlying288, Tryz.sizeOf288, Tryz.isAgg288, Tryz.zeroValue288, Tryz.underlying290, Tryz.runUnderlying290, Tryz.sizeOf290, Tryz.isAgg290, Tryz.zeroValue290, Tryz.underlying291, Tryz.runUnderlying291, Tryz.sizeOf291, Tryz.isAgg291, Tryz.zeroValue291, Tryz.underlying262, Tryz.runUnderlying262, Tryz.sizeOf262, Tryz.isAgg262, Tryz.zeroValue262, Tryz.underlying260, Tryz.runUnderlying260, Tryz.sizeOf260, Tryz.isAgg260, Tryz.zeroValue260, Tryz.underlying258, Tryz.runUnderlying258, Tryz.sizeOf258, Tryz.isAgg258, Tryz.zeroValue258, Tryz.underlying295, Tryz.runUnderlying295, Tryz.sizeOf295, Tryz.isAgg295, Tryz.zeroValue295, Tryz.underlying157, Tryz.runUnderlying157, Tryz.sizeOf157, Tryz.isAgg157, Tryz.zeroValue157, Tryz.underlying296, Tryz.runUnderlying296, Tryz.sizeOf296, Tryz.isAgg296, Tryz.zeroValue296, Tryz.underlying348, Tryz.runUnderlying348, Tryz.sizeOf348, Tryz.isAgg348, Tryz.zeroValue348, Tryz.underlying350, Tryz.runUnderlying350, Tryz.sizeOf350, Tryz.isAgg350, Tryz.zeroValue350, Tryz.underlying0, Tryz.runUnderlying0, Tryz.sizeOf0, Tryz.isAgg0, Tryz.zeroValue0, Tryz.underlying3, Tryz.runUnderlying3, Tryz.sizeOf3, Tryz.isAgg3, Tryz.zeroValue3, Tryz.underlying4, Tryz.runUnderlying4, Tryz.sizeOf4, Tryz.isAgg4, Tryz.zeroValue4, Tryz.underlying9, Tryz.runUnderlying9, Tryz.sizeOf9, Tryz.isAgg9, Tryz.zeroValue9, Tryz.underlying20, Tryz.runUnderlying20, Tryz.sizeOf20, Tryz.isAgg20, Tryz.zeroValue20, Tryz.underlying21, Tryz.runUnderlying21, Tryz.sizeOf21, Tryz.isAgg21, Tryz.zeroValue21, (by kernel_rfl), (by kernel_rfl)⟩
abbrev muL : Go.Conc.Locks.MuLink := { lock := 144, unlock := 145, ilock := 189, iunlock := 190, lockSlow := 242, unlockSlow := 244, disable := 215, enable := 216, acquire := 229, relMerge := 214, cas32 := 241, add32 := 243, tMutex := 161, tIMutex := 159, tPMutex := 269, tPIMutex := 319, tPI32 := 321, tUP := 290, tNoCopy := 156, tU32 := 157 }
theorem ZuS : Go.Conc.Locks.MuLib Tryz.prog muL :=
  ⟨Tryz.func144, Tryz.func145, Tryz.func189, Tryz.func190, Tryz.func215, Tryz.func216, Tryz.func229, Tryz.func214, Tryz.func241, Tryz.func243, Tryz.underlying159, Tryz.runUnderlying159, Tryz.sizeOf159, Tryz.isAgg159, Tryz.zeroValue159, Tryz.underlying161, Tryz.runUnderlying161, Tryz.sizeOf161, Tryz.isAgg161, Tryz.zeroValue161, Tryz.underlying269, Tryz.runUnderlying269, Tryz.sizeOf269, Tryz.isAgg269, Tryz.zeroValue269, Tryz.underlying319, Tryz.runUnderlying319, Tryz.sizeOf319, Tryz.isAgg319, Tryz.zeroValue319, Tryz.underlying321, Tryz.runUnderlying321, Tryz.sizeOf321, Tryz.isAgg321, Tryz.zeroValue321, Tryz.underlying290, Tryz.runUnderlying290, Tryz.sizeOf290, Tryz.isAgg290, Tryz.zeroValue290, Tryz.underlying156, Tryz.runUnderlying156, Tryz.sizeOf156, Tryz.isAgg156, Tryz.zeroValue156, Tryz.underlying21, Tryz.runUnderlying21, Tryz.sizeOf21, Tryz.isAgg21, Tryz.zeroValue21, (by kernel_rfl)⟩
theorem ZmD : enters Tryz.prog 33 = true := by kernel_rfl
theorem mo : Tryz.prog.follows .mixedOrders = true := by kernel_rfl
theorem Zb6 : Zr Tryz.prog 250 1 = some 1 := by kernel_rfl
theorem lk3 : lk Tryz.prog 3 = some none := by kernel_rfl
theorem ZgY : Zr Tryz.prog 250 0 = some 0 := by kernel_rfl
theorem lk9 : lk Tryz.prog 9 = some none := by kernel_rfl
theorem ZvC : enters Tryz.prog 171 = true := by kernel_rfl
theorem sz3 : ZG Tryz.prog 3 = some 1 := by kernel_rfl
theorem ZCN : enters Tryz.prog 249 = true := by kernel_rfl
theorem ZyE : enters Tryz.prog 208 = true := by kernel_rfl
theorem ZC4 : enters Tryz.prog 209 = true := by kernel_rfl
theorem ZzE : ZaG Tryz.prog 250 = some [(0, 1), (1, 1)] := by kernel_rfl
theorem ZtH : ZZ Tryz.prog 250 = some (.agg #[.string ⟨#[]⟩, .int .i64 0]) := by kernel_rfl
theorem Zzv : ZG Tryz.prog 250 = some 2 := by kernel_rfl
theorem sz9 : ZG Tryz.prog 9 = some 1 := by kernel_rfl
theorem zo9 : ZZ Tryz.prog 9 = some (.string ⟨#[]⟩) := by kernel_rfl
theorem ZvA : ZbL Tryz.prog 134 9 1 16 = true := by kernel_rfl
theorem Zxj : (match Program.underlying Tryz.prog 134 with | some (.slice _) => true | _ => false) = true := by kernel_rfl
theorem ZD5 : enters Tryz.prog 119 = true := by kernel_rfl
theorem Zmd : enters Tryz.prog 120 = true := by kernel_rfl
theorem Zcv : ZG Tryz.prog 132 = some 3 := by kernel_rfl
theorem Zbp : Zr Tryz.prog 132 0 = some 0 := by kernel_rfl
theorem ZC6 : enters Tryz.prog 205 = true := by kernel_rfl
theorem Zsx : Zr Tryz.prog 201 0 = some 0 := by kernel_rfl
theorem ZnE : Zr Tryz.prog 201 1 = some 1 := by kernel_rfl
theorem ZgU : lk Tryz.prog 134 = some none := by kernel_rfl
theorem ZDz : enters Tryz.prog 165 = true := by kernel_rfl
theorem Zsw : Zr Tryz.prog 201 2 = some 2 := by kernel_rfl
theorem ZCA : enters Tryz.prog 281 = true := by kernel_rfl
theorem Zkz : enters Tryz.prog 180 = true := by kernel_rfl
theorem ZCM : enters Tryz.prog 250 = true := by kernel_rfl
theorem ZC3 : enters Tryz.prog 210 = true := by kernel_rfl
theorem Zc7 : Zr Tryz.prog 39 1 = some 1 := by kernel_rfl
theorem ZmC : lk Tryz.prog 37 = some none := by kernel_rfl
theorem ZcR : ZG Tryz.prog 136 = some 4 := by kernel_rfl
theorem ZfX : lk Tryz.prog 136 = some (some 4) := by kernel_rfl
theorem ZgF : ZZ Tryz.prog 136 = some (.agg #[.int .i64 0, .string ⟨#[]⟩, .string ⟨#[]⟩, .slice none 0 0]) := by kernel_rfl
theorem Ze7 : Zr Tryz.prog 136 0 = some 0 := by kernel_rfl
theorem Ze6 : Zr Tryz.prog 136 1 = some 1 := by kernel_rfl
theorem ZdV : Zr Tryz.prog 136 3 = some 3 := by kernel_rfl
theorem Zg0 : Zr Tryz.prog 136 2 = some 2 := by kernel_rfl
theorem ZzF : ZaG Tryz.prog 201 = some [(0, 1), (1, 1), (2, 1)] := by kernel_rfl
theorem ZyY : ZZ Tryz.prog 201 = some (.agg #[.string ⟨#[]⟩, .slice none 0 0, .string ⟨#[]⟩]) := by kernel_rfl
theorem ZD4 : enters Tryz.prog 121 = true := by kernel_rfl
theorem Zhw : Zr Tryz.prog 39 0 = some 0 := by kernel_rfl
theorem ZyS : ZZ Tryz.prog 39 = some (.agg #[.int .i64 0, .slice none 0 0]) := by kernel_rfl
theorem ZE6 : ZaG Tryz.prog 39 = some [(0, 1), (1, 1)] := by kernel_rfl
theorem Zzs : ZG Tryz.prog 39 = some 2 := by kernel_rfl
theorem Zzy : ZG Tryz.prog 134 = some 1 := by kernel_rfl
theorem ZEv : ZbL Tryz.prog 37 136 4 64 = true := by kernel_rfl
theorem ZE0 : (match Program.underlying Tryz.prog 37 with | some (.slice _) => true | _ => false) = true := by kernel_rfl
theorem ZEm : ZG Tryz.prog 37 = some 1 := by kernel_rfl
theorem Zqn : lk Tryz.prog 39 = some (some 2) := by kernel_rfl
theorem ZBc : ZZ Tryz.prog 267 = some (.pointer none) := by kernel_rfl
theorem ZCT : enters Tryz.prog 239 = true := by kernel_rfl
theorem ZCF : enters Tryz.prog 263 = true := by kernel_rfl
theorem ZxM : lk Tryz.prog 267 = some none := by kernel_rfl
theorem ZCS : enters Tryz.prog 240 = true := by kernel_rfl
theorem ZBL : ZaG Tryz.prog 314 = some [(0, 4), (4, 1)] := by kernel_rfl
theorem ZBb : ZZ Tryz.prog 314 = some (.agg #[.int .i64 0, .string ⟨#[]⟩, .string ⟨#[]⟩, .slice none 0 0, .pointer none]) := by kernel_rfl
theorem ZBy : ZG Tryz.prog 267 = some 1 := by kernel_rfl
theorem Zx7 : Zr Tryz.prog 314 0 = some 0 := by kernel_rfl
theorem Zx6 : Zr Tryz.prog 314 1 = some 4 := by kernel_rfl
theorem ZDj : enters Tryz.prog 188 = true := by kernel_rfl
theorem ZDk : enters Tryz.prog 187 = true := by kernel_rfl
theorem Zft : lk Tryz.prog 285 = some none := by kernel_rfl
theorem zo3 : ZZ Tryz.prog 3 = some (.int .i64 0) := by kernel_rfl
theorem ZCn : ZbL Tryz.prog 285 3 1 8 = true := by kernel_rfl
theorem ZBI : (match Program.underlying Tryz.prog 285 with | some (.slice _) => true | _ => false) = true := by kernel_rfl
theorem Zzt : ZG Tryz.prog 285 = some 1 := by kernel_rfl
theorem Zea : Zj0 Tryz.prog 284 "Less" 323 false = true := by kernel_rfl
theorem Zs5 : enters Tryz.prog 323 = true := by kernel_rfl
theorem Zd9 : Zj0 Tryz.prog 284 "Swap" 326 false = true := by kernel_rfl
theorem Zs4 : enters Tryz.prog 326 = true := by kernel_rfl
theorem ZpA : Zj0 Tryz.prog 284 "Push" 325 true = true := by kernel_rfl
theorem ZCw : enters Tryz.prog 325 = true := by kernel_rfl
theorem ZlC : Zj0 Tryz.prog 284 "Len" 322 false = true := by kernel_rfl
theorem ZAs : enters Tryz.prog 322 = true := by kernel_rfl
theorem ZCL : enters Tryz.prog 251 = true := by kernel_rfl
theorem ZCK : enters Tryz.prog 252 = true := by kernel_rfl
theorem ZrN : Zj0 Tryz.prog 284 "Pop" 324 true = true := by kernel_rfl
theorem ZCx : enters Tryz.prog 324 = true := by kernel_rfl
theorem ZC2 : enters Tryz.prog 211 = true := by kernel_rfl
theorem ZC1 : enters Tryz.prog 212 = true := by kernel_rfl
theorem ZDs : enters Tryz.prog 173 = true := by kernel_rfl
theorem ZDr : enters Tryz.prog 174 = true := by kernel_rfl
theorem Zb7 : Zr Tryz.prog 146 0 = some 0 := by kernel_rfl
theorem Ze5 : Zr Tryz.prog 146 1 = some 1 := by kernel_rfl
theorem ZFN : enters Tryz.prog 32 = true := by kernel_rfl
theorem ZdU : Zr Tryz.prog 146 2 = some 2 := by kernel_rfl
theorem ZCs : enters Tryz.prog 91 = true := by kernel_rfl
theorem ZaI : Zr Tryz.prog 82 1 = some 1 := by kernel_rfl
theorem Zfs : lk Tryz.prog 80 = some none := by kernel_rfl
theorem ZcB : ZG Tryz.prog 146 = some 3 := by kernel_rfl
theorem ZhA : lk Tryz.prog 146 = some (some 3) := by kernel_rfl
theorem ZD0 : enters Tryz.prog 126 = true := by kernel_rfl
theorem Zhv : Zr Tryz.prog 82 0 = some 0 := by kernel_rfl
theorem ZiN : ZZ Tryz.prog 146 = some (.agg #[.int .i64 0, .int .i64 0, .string ⟨#[]⟩]) := by kernel_rfl
theorem ZDN : enters Tryz.prog 148 = true := by kernel_rfl
theorem Zhm : lk Tryz.prog 82 = some (some 2) := by kernel_rfl
theorem ZCp : enters Tryz.prog 96 = true := by kernel_rfl
theorem Zg1 : Zr Tryz.prog 132 1 = some 1 := by kernel_rfl
theorem ZeA : Zr Tryz.prog 132 2 = some 2 := by kernel_rfl
theorem Zfu : lk Tryz.prog 132 = some (some 3) := by kernel_rfl
theorem Zf6 : ZZ Tryz.prog 132 = some (.agg #[.string ⟨#[]⟩, .string ⟨#[]⟩, .int .i64 0]) := by kernel_rfl
theorem ZDt : enters Tryz.prog 172 = true := by kernel_rfl
theorem ZAE : enters Tryz.prog 136 = true := by kernel_rfl
theorem ZBU : ZaG Tryz.prog 132 = some [(0, 1), (1, 1), (2, 1)] := by kernel_rfl
theorem ZCJ : enters Tryz.prog 258 = true := by kernel_rfl
theorem ZCI : enters Tryz.prog 259 = true := by kernel_rfl
theorem Zcz : Zr Tryz.prog 41 1 = some 1 := by kernel_rfl
theorem ZlN : lk Tryz.prog 35 = some none := by kernel_rfl
theorem ZAw : enters Tryz.prog 227 = true := by kernel_rfl
theorem Za5 : Zr Tryz.prog 41 2 = some 2 := by kernel_rfl
theorem ZgE : lk Tryz.prog 36 = some none := by kernel_rfl
theorem ZeO : ZG Tryz.prog 87 = some 5 := by kernel_rfl
theorem Zcy : Zr Tryz.prog 87 0 = some 0 := by kernel_rfl
theorem ZeJ : Zr Tryz.prog 87 1 = some 1 := by kernel_rfl
theorem Zj5 : lk Tryz.prog 87 = some (some 5) := by kernel_rfl
theorem ZCX : enters Tryz.prog 235 = true := by kernel_rfl
theorem ZCW : enters Tryz.prog 236 = true := by kernel_rfl
theorem ZfC : Zr Tryz.prog 41 3 = some 3 := by kernel_rfl
theorem ZvB : enters Tryz.prog 179 = true := by kernel_rfl
theorem ZeP : ZG Tryz.prog 223 = some 2 := by kernel_rfl
theorem ZcJ : Zr Tryz.prog 223 0 = some 0 := by kernel_rfl
theorem ZdT : Zr Tryz.prog 223 1 = some 1 := by kernel_rfl
theorem ZA5 : enters Tryz.prog 76 = true := by kernel_rfl
theorem Zed : Zr Tryz.prog 87 3 = some 3 := by kernel_rfl
theorem ZD1 : enters Tryz.prog 124 = true := by kernel_rfl
theorem Zqk : ZZ Tryz.prog 87 = some (.agg #[.string ⟨#[]⟩, .string ⟨#[]⟩, .slice none 0 0, .int .i64 0, .slice none 0 0]) := by kernel_rfl
theorem ZfB : Zr Tryz.prog 87 2 = some 2 := by kernel_rfl
theorem Zwt : lk Tryz.prog 85 = some none := by kernel_rfl
theorem ZD3 : enters Tryz.prog 122 = true := by kernel_rfl
theorem ZEz : enters Tryz.prog 81 = true := by kernel_rfl
theorem ZD2 : enters Tryz.prog 123 = true := by kernel_rfl
theorem Zjo : Zr Tryz.prog 41 0 = some 0 := by kernel_rfl
theorem ZFr : enters Tryz.prog 70 = true := by kernel_rfl
theorem ZFq : enters Tryz.prog 71 = true := by kernel_rfl
theorem ZFp : enters Tryz.prog 72 = true := by kernel_rfl
theorem ZgD : lk Tryz.prog 41 = some (some 5) := by kernel_rfl
theorem ZFo : enters Tryz.prog 73 = true := by kernel_rfl
theorem ZEB : enters Tryz.prog 74 = true := by kernel_rfl
theorem ZFn : enters Tryz.prog 75 = true := by kernel_rfl
theorem ZFm : enters Tryz.prog 77 = true := by kernel_rfl
theorem ZrX : lk Tryz.prog 223 = some (some 2) := by kernel_rfl
theorem Zqs : ZZ Tryz.prog 223 = some (.agg #[.string ⟨#[]⟩, .int .i64 0]) := by kernel_rfl
theorem ZCH : enters Tryz.prog 260 = true := by kernel_rfl
theorem ZAv : enters Tryz.prog 228 = true := by kernel_rfl
theorem ZAj : Extern.findNext Tryz.f253 = none := by kernel_rfl
theorem ZAk : Extern.find Tryz.f253 = some Extern.BytealgCompare.compare := by kernel_rfl
theorem ZC0 : enters Tryz.prog 213 = true := by kernel_rfl
theorem ZAB : enters Tryz.prog 175 = true := by kernel_rfl
theorem ZCG : enters Tryz.prog 262 = true := by kernel_rfl
theorem ZCV : enters Tryz.prog 237 = true := by kernel_rfl
theorem ZAA : enters Tryz.prog 184 = true := by kernel_rfl
theorem ZDm : enters Tryz.prog 185 = true := by kernel_rfl
theorem sz4 : ZG Tryz.prog 4 = some 1 := by kernel_rfl
theorem lk4 : lk Tryz.prog 4 = some none := by kernel_rfl
theorem ZCY : enters Tryz.prog 234 = true := by kernel_rfl
theorem ZDu : enters Tryz.prog 170 = true := by kernel_rfl
theorem Zz0 : lk Tryz.prog 192 = some none := by kernel_rfl
theorem ZBZ : lk Tryz.prog 98 = some none := by kernel_rfl
theorem ZDp : enters Tryz.prog 181 = true := by kernel_rfl
theorem ZBd : ZZ Tryz.prog 262 = some (.agg #[.int .u64 0, .int .u32 0]) := by kernel_rfl
theorem Zmb : ZbL Tryz.prog 192 4 1 1 = true := by kernel_rfl
theorem zo4 : ZZ Tryz.prog 4 = some (.bool false) := by kernel_rfl
theorem ZBe : ZZ Tryz.prog 192 = some (.slice none 0 0) := by kernel_rfl
theorem ZBG : ZG Tryz.prog 192 = some 1 := by kernel_rfl
theorem ZDq : enters Tryz.prog 176 = true := by kernel_rfl
theorem ZDo : enters Tryz.prog 182 = true := by kernel_rfl
theorem ZDn : enters Tryz.prog 183 = true := by kernel_rfl
theorem ZDW : enters Tryz.prog 135 = true := by kernel_rfl
theorem ZDV : enters Tryz.prog 137 = true := by kernel_rfl
theorem ZDU : enters Tryz.prog 138 = true := by kernel_rfl
theorem ZDT : enters Tryz.prog 139 = true := by kernel_rfl
theorem ZDS : enters Tryz.prog 140 = true := by kernel_rfl
theorem ZDR : enters Tryz.prog 141 = true := by kernel_rfl
theorem ZsL : Zr Tryz.prog 119 0 = some 0 := by kernel_rfl
theorem ZsK : Zr Tryz.prog 119 1 = some 1 := by kernel_rfl
theorem Zsv : Zr Tryz.prog 242 0 = some 0 := by kernel_rfl
theorem Zsu : Zr Tryz.prog 279 2 = some 2 := by kernel_rfl
theorem ZzA : ZG Tryz.prog 119 = some 3 := by kernel_rfl
theorem Zz5 : lk Tryz.prog 119 = some (some 3) := by kernel_rfl
theorem ZFu : enters Tryz.prog 67 = true := by kernel_rfl
theorem Zzw : ZG Tryz.prog 242 = some 2 := by kernel_rfl
theorem ZzY : lk Tryz.prog 242 = some (some 2) := by kernel_rfl
theorem ZDC : enters Tryz.prog 162 = true := by kernel_rfl
theorem Zzu : ZG Tryz.prog 279 = some 3 := by kernel_rfl
theorem ZzX : lk Tryz.prog 279 = some (some 3) := by kernel_rfl
theorem ZC7 : enters Tryz.prog 204 = true := by kernel_rfl
theorem ZsA : Zr Tryz.prog 197 1 = some 1 := by kernel_rfl
theorem Zsz : Zr Tryz.prog 197 2 = some 2 := by kernel_rfl
theorem Zsy : Zr Tryz.prog 197 3 = some 3 := by kernel_rfl
theorem ZDA : enters Tryz.prog 164 = true := by kernel_rfl
theorem Zzx : ZG Tryz.prog 197 = some 4 := by kernel_rfl
theorem ZzZ : lk Tryz.prog 197 = some (some 4) := by kernel_rfl
theorem ZD6 : enters Tryz.prog 118 = true := by kernel_rfl
theorem ZsJ : Zr Tryz.prog 124 1 = some 1 := by kernel_rfl
theorem Zz3 : lk Tryz.prog 122 = some none := by kernel_rfl
theorem ZDB : enters Tryz.prog 163 = true := by kernel_rfl
theorem ZwF : Zr Tryz.prog 26 1 = some 1 := by kernel_rfl
theorem ZEq : lk Tryz.prog 24 = some none := by kernel_rfl
theorem ZFs : enters Tryz.prog 69 = true := by kernel_rfl
theorem ZsI : Zr Tryz.prog 126 0 = some 0 := by kernel_rfl
theorem ZsH : Zr Tryz.prog 126 1 = some 1 := by kernel_rfl
theorem ZsG : Zr Tryz.prog 126 2 = some 2 := by kernel_rfl
theorem Zz4 : lk Tryz.prog 121 = some none := by kernel_rfl
theorem ZD8 : enters Tryz.prog 116 = true := by kernel_rfl
theorem ZsF : Zr Tryz.prog 126 3 = some 3 := by kernel_rfl
theorem Zz2 : lk Tryz.prog 124 = some (some 2) := by kernel_rfl
theorem ZD7 : enters Tryz.prog 117 = true := by kernel_rfl
theorem Zzz : ZG Tryz.prog 126 = some 5 := by kernel_rfl
theorem Zz1 : lk Tryz.prog 126 = some (some 5) := by kernel_rfl
theorem ZFt : enters Tryz.prog 68 = true := by kernel_rfl
theorem ZwE : Zr Tryz.prog 28 0 = some 0 := by kernel_rfl
theorem ZwD : Zr Tryz.prog 28 1 = some 1 := by kernel_rfl
theorem ZEs : lk Tryz.prog 22 = some none := by kernel_rfl
theorem ZFR : enters Tryz.prog 27 = true := by kernel_rfl
theorem ZwC : Zr Tryz.prog 28 2 = some 2 := by kernel_rfl
theorem ZEr : lk Tryz.prog 23 = some none := by kernel_rfl
theorem ZFQ : enters Tryz.prog 28 = true := by kernel_rfl
theorem ZwB : Zr Tryz.prog 28 3 = some 3 := by kernel_rfl
theorem ZEp : lk Tryz.prog 26 = some (some 2) := by kernel_rfl
theorem ZFP : enters Tryz.prog 29 = true := by kernel_rfl
theorem Zyl : Zr Tryz.prog 119 2 = some 2 := by kernel_rfl
theorem Zya : Zr Tryz.prog 242 1 = some 1 := by kernel_rfl
theorem Zx9 : Zr Tryz.prog 279 0 = some 0 := by kernel_rfl
theorem Zx8 : Zr Tryz.prog 279 1 = some 1 := by kernel_rfl
theorem ZEw : ZbL Tryz.prog 35 132 3 40 = true := by kernel_rfl
theorem ZFl : enters Tryz.prog 86 = true := by kernel_rfl
theorem ZEt : ZbL Tryz.prog 85 223 2 24 = true := by kernel_rfl
theorem ZDx : enters Tryz.prog 167 = true := by kernel_rfl
theorem ZyU : ZZ Tryz.prog 93 = some (.agg #[.int .i64 0, .int .i64 0]) := by kernel_rfl
theorem ZAf : Zr Tryz.prog 95 0 = some 0 := by kernel_rfl
theorem Zhu : Zr Tryz.prog 93 0 = some 0 := by kernel_rfl
theorem ZAe : Zr Tryz.prog 95 1 = some 1 := by kernel_rfl
theorem Zht : Zr Tryz.prog 93 1 = some 1 := by kernel_rfl
theorem ZyT : lk Tryz.prog 93 = some (some 2) := by kernel_rfl
theorem ZmU : ZG Tryz.prog 93 = some 2 := by kernel_rfl
theorem ZFg : ZbL Tryz.prog 47 93 2 16 = true := by kernel_rfl
theorem ZES : ZG Tryz.prog 95 = some 2 := by kernel_rfl
theorem ZFc : lk Tryz.prog 95 = some (some 2) := by kernel_rfl
theorem ZFI : enters Tryz.prog 41 = true := by kernel_rfl
theorem ZEu : ZbL Tryz.prog 80 146 3 32 = true := by kernel_rfl
theorem ZC5 : enters Tryz.prog 207 = true := by kernel_rfl
theorem Zyj : Zr Tryz.prog 197 0 = some 0 := by kernel_rfl
theorem ZDv : enters Tryz.prog 169 = true := by kernel_rfl
theorem ZDX : enters Tryz.prog 131 = true := by kernel_rfl
theorem ZAi : Zr Tryz.prog 26 0 = some 0 := by kernel_rfl
theorem ZFj : enters Tryz.prog 88 = true := by kernel_rfl
theorem ZAZ : ZZ Tryz.prog 82 = some (.agg #[.int .i64 0, .slice none 0 0]) := by kernel_rfl
theorem Zyk : Zr Tryz.prog 124 0 = some 0 := by kernel_rfl
theorem ZDw : enters Tryz.prog 168 = true := by kernel_rfl
theorem ZET : ZG Tryz.prog 80 = some 1 := by kernel_rfl
theorem ZA0 : ZG Tryz.prog 82 = some 2 := by kernel_rfl
theorem ZDZ : enters Tryz.prog 129 = true := by kernel_rfl
theorem ZEj : ZG Tryz.prog 85 = some 1 := by kernel_rfl
theorem ZDY : enters Tryz.prog 130 = true := by kernel_rfl
theorem ZCm : ZbL Tryz.prog 36 87 5 88 = true := by kernel_rfl
theorem ZFk : enters Tryz.prog 87 = true := by kernel_rfl
theorem Zqq : ZZ Tryz.prog 41 = some (.agg #[.string ⟨#[]⟩, .slice none 0 0, .slice none 0 0, .int .i64 0, .slice none 0 0]) := by kernel_rfl
theorem ZFL : enters Tryz.prog 38 = true := by kernel_rfl
theorem ZEX : ZG Tryz.prog 35 = some 1 := by kernel_rfl
theorem ZFK : enters Tryz.prog 39 = true := by kernel_rfl
theorem ZEW : ZG Tryz.prog 36 = some 1 := by kernel_rfl
theorem ZFJ : enters Tryz.prog 40 = true := by kernel_rfl
theorem Zq6 : ZG Tryz.prog 41 = some 5 := by kernel_rfl
theorem ZFE : enters Tryz.prog 51 = true := by kernel_rfl
theorem ZEe : enters Tryz.prog 101 = true := by kernel_rfl
theorem ZDg : enters Tryz.prog 194 = true := by kernel_rfl
theorem ZCQ : enters Tryz.prog 246 = true := by kernel_rfl
theorem ZDe : enters Tryz.prog 196 = true := by kernel_rfl
theorem ZDK : enters Tryz.prog 152 = true := by kernel_rfl
theorem ZEc : enters Tryz.prog 103 = true := by kernel_rfl
theorem ZDf : enters Tryz.prog 195 = true := by kernel_rfl
theorem ZDM : enters Tryz.prog 150 = true := by kernel_rfl
theorem ZDL : enters Tryz.prog 151 = true := by kernel_rfl
theorem ZEd : enters Tryz.prog 102 = true := by kernel_rfl
theorem ZFH : enters Tryz.prog 48 = true := by kernel_rfl
theorem ZFG : enters Tryz.prog 49 = true := by kernel_rfl
theorem ZFF : enters Tryz.prog 50 = true := by kernel_rfl
theorem ZEZ : (match Program.underlying Tryz.prog 80 with | some (.slice _) => true | _ => false) = true := by kernel_rfl
theorem ZE5 : ZaG Tryz.prog 82 = some [(0, 1), (1, 1)] := by kernel_rfl
theorem ZEY : (match Program.underlying Tryz.prog 85 with | some (.slice _) => true | _ => false) = true := by kernel_rfl
theorem ZCU : enters Tryz.prog 238 = true := by kernel_rfl
theorem sz5 : ZG Tryz.prog 5 = some 1 := by kernel_rfl
theorem zo5 : ZZ Tryz.prog 5 = some (.int .u8 0) := by kernel_rfl
theorem ZiT : enters Tryz.prog 104 = true := by kernel_rfl
theorem ZyF : enters Tryz.prog 206 = true := by kernel_rfl
theorem ZDy : enters Tryz.prog 166 = true := by kernel_rfl
theorem ZAG : enters Tryz.prog 125 = true := by kernel_rfl
theorem ZE2 : (match Program.underlying Tryz.prog 35 with | some (.slice _) => true | _ => false) = true := by kernel_rfl
theorem ZBK : ZaG Tryz.prog 41 = some [(0, 1), (1, 1), (2, 1), (3, 2)] := by kernel_rfl
theorem ZE1 : (match Program.underlying Tryz.prog 36 with | some (.slice _) => true | _ => false) = true := by kernel_rfl
theorem ZEF : enters Tryz.prog 31 = true := by kernel_rfl
theorem ZAF : enters Tryz.prog 128 = true := by kernel_rfl
theorem ZCl : ZbL Tryz.prog 58 3 1 8 = true := by kernel_rfl
theorem ZBH : (match Program.underlying Tryz.prog 58 with | some (.slice _) => true | _ => false) = true := by kernel_rfl
theorem Zst : Zr Tryz.prog 45 1 = some 1 := by kernel_rfl
theorem Zss : Zr Tryz.prog 45 2 = some 2 := by kernel_rfl
theorem ZoM : Zr Tryz.prog 45 0 = some 0 := by kernel_rfl
theorem ZEA : enters Tryz.prog 78 = true := by kernel_rfl
theorem ZFO : enters Tryz.prog 30 = true := by kernel_rfl
theorem ZA3 : lk Tryz.prog 45 = some (some 3) := by kernel_rfl
theorem ZFM : enters Tryz.prog 34 = true := by kernel_rfl
theorem ZCR : enters Tryz.prog 245 = true := by kernel_rfl
theorem ZwA : Zr Tryz.prog 30 0 = some 0 := by kernel_rfl
theorem Zwz : Zr Tryz.prog 30 1 = some 1 := by kernel_rfl
theorem Zwy : Zr Tryz.prog 30 2 = some 2 := by kernel_rfl
theorem ZEi : ZZ Tryz.prog 45 = some (.agg #[.string ⟨#[]⟩, .string ⟨#[]⟩, .string ⟨#[]⟩]) := by kernel_rfl
theorem ZEV : ZG Tryz.prog 45 = some 3 := by kernel_rfl
theorem ZEb : enters Tryz.prog 105 = true := by kernel_rfl
theorem ZEa : enters Tryz.prog 106 = true := by kernel_rfl
theorem ZDJ : enters Tryz.prog 153 = true := by kernel_rfl
theorem ZD9 : enters Tryz.prog 107 = true := by kernel_rfl
theorem ZFD : enters Tryz.prog 52 = true := by kernel_rfl
theorem ZFC : enters Tryz.prog 53 = true := by kernel_rfl
theorem ZFB : enters Tryz.prog 54 = true := by kernel_rfl
theorem ZEL : (Tryz.prog.info? 392).map (·.comparable) = some true := by kernel_rfl
theorem Zzr : ZG Tryz.prog 414 = some 1 := by kernel_rfl
theorem ZBa : ZZ Tryz.prog 328 = some (.nilIface) := by kernel_rfl
theorem ZA9 : ZZ Tryz.prog 331 = some (.nilIface) := by kernel_rfl
theorem ZA8 : ZZ Tryz.prog 333 = some (.nilIface) := by kernel_rfl
theorem ZDh : enters Tryz.prog 193 = true := by kernel_rfl
theorem Zno : lk Tryz.prog 100 = some none := by kernel_rfl
theorem ZvD : enters Tryz.prog 147 = true := by kernel_rfl
theorem ZAz : enters Tryz.prog 191 = true := by kernel_rfl
theorem ZDl : enters Tryz.prog 186 = true := by kernel_rfl
theorem ZDQ : enters Tryz.prog 142 = true := by kernel_rfl
theorem ZDP : enters Tryz.prog 143 = true := by kernel_rfl
theorem Zks : Zr Tryz.prog 159 0 = some 0 := by kernel_rfl
theorem Zkr : Zr Tryz.prog 161 1 = some 0 := by kernel_rfl
theorem ZB2 : lk Tryz.prog 21 = some none := by kernel_rfl
theorem ZDi : enters Tryz.prog 189 = true := by kernel_rfl
theorem ZyG : enters Tryz.prog 190 = true := by kernel_rfl
theorem ZEy : enters Tryz.prog 89 = true := by kernel_rfl
theorem ZBf : ZZ Tryz.prog 177 = some (.agg #[.bool false, .bool false, .bool false, .bool false, .bool false, .bool false, .bool false, .bool false, .bool false, .bool false, .bool false, .bool false, .bool false, .bool false, .bool false, .bool false, .bool false, .bool false, .bool false, .bool false, .bool false, .bool false, .bool false, .bool false, .bool false, .bool false, .bool false, .bool false, .bool false, .bool false, .bool false, .bool false, .bool false, .bool false, .bool false, .bool false, .bool false, .bool false, .bool false, .bool false, .bool false, .bool false, .bool false, .bool false, .bool false, .bool false, .bool false, .bool false, .bool false, .bool false, .bool false, .bool false, .bool false, .bool false, .bool false, .bool false, .bool false, .bool false, .bool false, .bool false, .bool false, .bool false, .bool false, .bool false, .bool false, .bool false, .bool false, .bool false, .bool false, .bool false, .bool false, .bool false, .bool false, .bool false, .bool false, .bool false, .bool false, .bool false, .bool false, .bool false, .bool false, .bool false, .bool false, .bool false, .bool false, .bool false, .bool false, .bool false, .bool false, .bool false, .bool false, .bool false, .bool false, .bool false, .bool false, .bool false, .bool false, .bool false, .bool false, .bool false]) := by kernel_rfl
theorem ZB3 : lk Tryz.prog 177 = some (some 100) := by kernel_rfl
theorem ZCv : enters Tryz.prog 42 = true := by kernel_rfl
theorem ZAK : enters Tryz.prog 100 = true := by kernel_rfl
theorem Ze4 : Zr Tryz.prog 165 2 = some 3 := by kernel_rfl
theorem ZlO : lk Tryz.prog 154 = some none := by kernel_rfl
theorem ZsC : Zr Tryz.prog 163 0 = some 0 := by kernel_rfl
theorem ZDO : enters Tryz.prog 144 = true := by kernel_rfl
theorem ZgZ : Zr Tryz.prog 163 1 = some 2 := by kernel_rfl
theorem ZsB : Zr Tryz.prog 165 1 = some 2 := by kernel_rfl
theorem Zkq : Zr Tryz.prog 165 0 = some 0 := by kernel_rfl
theorem ZsE : Zr Tryz.prog 153 0 = some 0 := by kernel_rfl
theorem ZsD : Zr Tryz.prog 153 1 = some 1 := by kernel_rfl
theorem ZAD : enters Tryz.prog 146 = true := by kernel_rfl
theorem ZFi : enters Tryz.prog 92 = true := by kernel_rfl
theorem ZBT : ZaG Tryz.prog 153 = some [(0, 1), (1, 1)] := by kernel_rfl
theorem ZBg : ZZ Tryz.prog 153 = some (.agg #[.string ⟨#[]⟩, .string ⟨#[]⟩]) := by kernel_rfl
theorem ZEx : enters Tryz.prog 93 = true := by kernel_rfl
theorem ZzG : ZaG Tryz.prog 163 = some [(0, 2), (2, 5)] := by kernel_rfl
theorem ZyZ : ZZ Tryz.prog 163 = some (.agg #[.int .i32 0, .int .u32 0, .string ⟨#[]⟩, .slice none 0 0, .slice none 0 0, .int .i64 0, .slice none 0 0]) := by kernel_rfl
theorem Zxt : ZaG Tryz.prog 165 = some [(0, 2), (2, 1), (3, 1)] := by kernel_rfl
theorem ZoZ : ZZ Tryz.prog 165 = some (.agg #[.string ⟨#[]⟩, .string ⟨#[]⟩, .string ⟨#[]⟩, .pointer none]) := by kernel_rfl
theorem Zxi : ZG Tryz.prog 165 = some 4 := by kernel_rfl
theorem ZCr : enters Tryz.prog 94 = true := by kernel_rfl
theorem ZCq : enters Tryz.prog 95 = true := by kernel_rfl
theorem Zj6 : lk Tryz.prog 47 = some none := by kernel_rfl
theorem ZEE : enters Tryz.prog 47 = true := by kernel_rfl
theorem ZCu : enters Tryz.prog 44 = true := by kernel_rfl
theorem ZzW : lk Tryz.prog 28 = some (some 5) := by kernel_rfl
theorem en5 : enters Tryz.prog 5 = true := by kernel_rfl
theorem ZA4 : lk Tryz.prog 30 = some (some 3) := by kernel_rfl
theorem en6 : enters Tryz.prog 6 = true := by kernel_rfl
theorem en7 : enters Tryz.prog 7 = true := by kernel_rfl
theorem en9 : enters Tryz.prog 9 = true := by kernel_rfl
theorem ZEf : enters Tryz.prog 10 = true := by kernel_rfl
theorem ZFY : enters Tryz.prog 11 = true := by kernel_rfl
theorem ZFX : enters Tryz.prog 13 = true := by kernel_rfl
theorem ZFW : enters Tryz.prog 14 = true := by kernel_rfl
theorem ZFV : enters Tryz.prog 15 = true := by kernel_rfl
theorem ZEK : enters Tryz.prog 16 = true := by kernel_rfl
theorem ZEl : ZG Tryz.prog 56 = some 5 := by kernel_rfl
theorem ZxK : lk Tryz.prog 56 = some (some 5) := by kernel_rfl
theorem ZEJ : enters Tryz.prog 18 = true := by kernel_rfl
theorem Zwx : Zr Tryz.prog 56 2 = some 2 := by kernel_rfl
theorem Zww : Zr Tryz.prog 56 3 = some 3 := by kernel_rfl
theorem ZEo : lk Tryz.prog 31 = some none := by kernel_rfl
theorem Zwv : Zr Tryz.prog 56 4 = some 4 := by kernel_rfl
theorem ZEn : lk Tryz.prog 54 = some none := by kernel_rfl
theorem ZFA : enters Tryz.prog 58 = true := by kernel_rfl
theorem ZFf : ZbL Tryz.prog 61 63 5 80 = true := by kernel_rfl
theorem ZyV : ZZ Tryz.prog 63 = some (.agg #[.int .i64 0, .int .i64 0, .string ⟨#[]⟩, .slice none 0 0, .slice none 0 0]) := by kernel_rfl
theorem ZAy : enters Tryz.prog 20 = true := by kernel_rfl
theorem Zi1 : ZG Tryz.prog 63 = some 5 := by kernel_rfl
theorem ZAh : Zr Tryz.prog 56 0 = some 0 := by kernel_rfl
theorem ZbD : Zr Tryz.prog 63 0 = some 0 := by kernel_rfl
theorem ZAg : Zr Tryz.prog 56 1 = some 1 := by kernel_rfl
theorem Ze3 : Zr Tryz.prog 63 1 = some 1 := by kernel_rfl
theorem ZeK : Zr Tryz.prog 63 2 = some 2 := by kernel_rfl
theorem Zcf : Zr Tryz.prog 63 3 = some 3 := by kernel_rfl
theorem ZBv : ZG Tryz.prog 47 = some 1 := by kernel_rfl
theorem ZFy : enters Tryz.prog 61 = true := by kernel_rfl
theorem Zbk : Zr Tryz.prog 63 4 = some 4 := by kernel_rfl
theorem ZEU : ZG Tryz.prog 61 = some 1 := by kernel_rfl
theorem ZfW : lk Tryz.prog 63 = some (some 5) := by kernel_rfl
theorem ZEH : enters Tryz.prog 23 = true := by kernel_rfl
theorem ZhF : lk Tryz.prog 61 = some none := by kernel_rfl
theorem ZFv : enters Tryz.prog 65 = true := by kernel_rfl
theorem ZEC : enters Tryz.prog 66 = true := by kernel_rfl
theorem ZAI : enters Tryz.prog 112 = true := by kernel_rfl
theorem ZDd : enters Tryz.prog 197 = true := by kernel_rfl
theorem ZDc : enters Tryz.prog 198 = true := by kernel_rfl
theorem ZAJ : enters Tryz.prog 111 = true := by kernel_rfl
theorem ZDI : enters Tryz.prog 155 = true := by kernel_rfl
theorem ZDH : enters Tryz.prog 156 = true := by kernel_rfl
theorem Zp7 : enters Tryz.prog 113 = true := by kernel_rfl
theorem ZED : enters Tryz.prog 59 = true := by kernel_rfl
theorem ZFz : enters Tryz.prog 60 = true := by kernel_rfl
theorem Zkp : Zr Tryz.prog 359 0 = some 0 := by kernel_rfl
theorem ZxL : lk Tryz.prog 357 = some none := by kernel_rfl
theorem Zxg : ZG Tryz.prog 359 = some 2 := by kernel_rfl
theorem ZBw : ZG Tryz.prog 357 = some 1 := by kernel_rfl
theorem Zc1 : Zr Tryz.prog 359 1 = some 1 := by kernel_rfl
theorem Zj7 : lk Tryz.prog 221 = some none := by kernel_rfl
theorem Zxh : ZG Tryz.prog 221 = some 1 := by kernel_rfl
theorem ZyD : enters Tryz.prog 282 = true := by kernel_rfl
theorem ZCz : enters Tryz.prog 283 = true := by kernel_rfl
theorem ZAr : ZbL Tryz.prog 221 5 1 1 = true := by kernel_rfl
theorem ZBJ : (match Program.underlying Tryz.prog 221 with | some (.slice _) => true | _ => false) = true := by kernel_rfl
theorem ZA7 : ZZ Tryz.prog 359 = some (.agg #[.pointer none, .slice none 0 0]) := by kernel_rfl
theorem ZCE : enters Tryz.prog 271 = true := by kernel_rfl
theorem ZCC : enters Tryz.prog 273 = true := by kernel_rfl
theorem ZCD : enters Tryz.prog 272 = true := by kernel_rfl
theorem ZAu : enters Tryz.prog 274 = true := by kernel_rfl
theorem ZB1 : lk Tryz.prog 338 = some (some 5) := by kernel_rfl
theorem ZCP : enters Tryz.prog 247 = true := by kernel_rfl
theorem ZCy : enters Tryz.prog 290 = true := by kernel_rfl
theorem ZAt : enters Tryz.prog 277 = true := by kernel_rfl
theorem ZCB : enters Tryz.prog 280 = true := by kernel_rfl
theorem ZCO : enters Tryz.prog 248 = true := by kernel_rfl
theorem ZC9 : enters Tryz.prog 202 = true := by kernel_rfl
theorem ZAx : enters Tryz.prog 201 = true := by kernel_rfl
theorem Zpc : ZG Tryz.prog 189 = some 1 := by kernel_rfl
theorem ZyW : ZZ Tryz.prog 337 = some (.agg #[.nilIface, .nilIface]) := by kernel_rfl
theorem ZBx : ZG Tryz.prog 337 = some 2 := by kernel_rfl
theorem ZAC : enters Tryz.prog 157 = true := by kernel_rfl
theorem ZpF : lk Tryz.prog 189 = some none := by kernel_rfl
theorem ZBN : ZaG Tryz.prog 238 = some [(0, 1)] := by kernel_rfl
theorem ZwP : ZZ Tryz.prog 238 = some (.agg #[.nilIface]) := by kernel_rfl
theorem ZBM : ZaG Tryz.prog 240 = some [(0, 1), (1, 1), (2, 1)] := by kernel_rfl
theorem ZyX : ZZ Tryz.prog 240 = some (.agg #[.bool false, .nilIface, .nilIface]) := by kernel_rfl
theorem ZDb : enters Tryz.prog 199 = true := by kernel_rfl
theorem ZBS : ZaG Tryz.prog 228 = some [] := by kernel_rfl
theorem ZkQ : ZZ Tryz.prog 228 = some (.agg #[]) := by kernel_rfl
theorem ZBR : ZaG Tryz.prog 230 = some [(0, 1)] := by kernel_rfl
theorem ZmF : ZZ Tryz.prog 230 = some (.agg #[.int .i64 0]) := by kernel_rfl
theorem ZDa : enters Tryz.prog 200 = true := by kernel_rfl
theorem ZBQ : ZaG Tryz.prog 233 = some [(0, 1)] := by kernel_rfl
theorem ZoY : ZZ Tryz.prog 233 = some (.agg #[.string ⟨#[]⟩]) := by kernel_rfl
theorem ZBP : ZaG Tryz.prog 235 = some [(0, 1)] := by kernel_rfl
theorem Zqr : ZZ Tryz.prog 235 = some (.agg #[.slice none 0 0]) := by kernel_rfl
theorem ZBO : ZaG Tryz.prog 236 = some [(0, 1)] := by kernel_rfl
theorem ZtI : ZZ Tryz.prog 236 = some (.agg #[.slice none 0 0]) := by kernel_rfl
theorem ZAH : enters Tryz.prog 114 = true := by kernel_rfl
theorem ZC8 : enters Tryz.prog 203 = true := by kernel_rfl
theorem ZBF : ZG Tryz.prog 228 = some 0 := by kernel_rfl
theorem ZBE : ZG Tryz.prog 230 = some 1 := by kernel_rfl
theorem Zyi : Zr Tryz.prog 230 0 = some 0 := by kernel_rfl
theorem ZDG : enters Tryz.prog 158 = true := by kernel_rfl
theorem ZBD : ZG Tryz.prog 233 = some 1 := by kernel_rfl
theorem Zyh : Zr Tryz.prog 233 0 = some 0 := by kernel_rfl
theorem ZDF : enters Tryz.prog 159 = true := by kernel_rfl
theorem ZBC : ZG Tryz.prog 235 = some 1 := by kernel_rfl
theorem Zyg : Zr Tryz.prog 235 0 = some 0 := by kernel_rfl
theorem ZBB : ZG Tryz.prog 236 = some 1 := by kernel_rfl
theorem Zyf : Zr Tryz.prog 236 0 = some 0 := by kernel_rfl
theorem ZDE : enters Tryz.prog 160 = true := by kernel_rfl
theorem ZDD : enters Tryz.prog 161 = true := by kernel_rfl
theorem ZBA : ZG Tryz.prog 238 = some 1 := by kernel_rfl
theorem Zye : Zr Tryz.prog 238 0 = some 0 := by kernel_rfl
theorem ZvE : enters Tryz.prog 115 = true := by kernel_rfl
theorem ZBz : ZG Tryz.prog 240 = some 3 := by kernel_rfl
theorem Zyc : Zr Tryz.prog 240 1 = some 1 := by kernel_rfl
theorem Zyb : Zr Tryz.prog 240 2 = some 2 := by kernel_rfl
theorem Zyd : Zr Tryz.prog 240 0 = some 0 := by kernel_rfl
theorem ZFw : enters Tryz.prog 64 = true := by kernel_rfl
theorem ZEk : ZG Tryz.prog 58 = some 1 := by kernel_rfl
theorem ZEP : ZZ Tryz.prog 58 = some (.slice none 0 0) := by kernel_rfl
theorem ZFx : enters Tryz.prog 62 = true := by kernel_rfl
theorem ZCt : enters Tryz.prog 63 = true := by kernel_rfl
theorem ZB0 : lk Tryz.prog 58 = some none := by kernel_rfl
theorem ZFU : enters Tryz.prog 19 = true := by kernel_rfl
theorem ZEI : enters Tryz.prog 21 = true := by kernel_rfl
theorem ZCZ : enters Tryz.prog 22 = true := by kernel_rfl
theorem ZFT : enters Tryz.prog 24 = true := by kernel_rfl
theorem ZFS : enters Tryz.prog 25 = true := by kernel_rfl
theorem ZEG : enters Tryz.prog 26 = true := by kernel_rfl
set_option maxRecDepth 4000
set_option maxHeartbeats 6400000
variable {J : JoinT}
abbrev cur (b : Nat) (l : List UInt8) (i : Nat) : Cells := ZP b [str l, .int .i64 i] 250
theorem Zc6 (n lo hi:Int) (B:Kn):Z1 (pj J) 33 [.int .i64 n,.int .i64 lo,.int .i64 hi] B (.bool (decide (lo≤n) && decide (n≤hi))):=by
 refine cB 15 Tryz.func33 (h:=?_)
 refine Za (xA (h:=Z0 [(0,_),(1,_),(2,_),(6,_)] t4 (Za (xM (h:=xM (h:=Zc9 (h:=xM (h:=Zq (d:=10) rfl (fun g1=>?_) (fun g1=>?_)))))))))
 try simp only [sQ,ne_eq] at g1
 refine xM (h:=xM (h:=Zbd (h:=xT (h:=xA (h:=Z0 [(0,_),(1,_),(2,_),(6,_)] t4 (Zf ?_))))))
 exact eR t1 ⟨by exact Zc (by rw [Bool.eq_iff_iff];simp [];omega),rfl,rfl⟩
 try simp only [sQ,ne_eq] at g1
 refine xP (h:=xP (h:=xP (h:=xF (h:=xA (h:=Z0 [(0,_),(1,_),(2,_),(6,_)] t4 (Zf ?_))))))
 exact eR t1 ⟨by exact Zc (by rw [Bool.eq_iff_iff];simp [];omega),rfl,rfl⟩

theorem Zpz (c:UInt8) (B:Kn):Z1 (pj J) 249 [.int .u8 c.toNat] B (.bool (Zbo c)):=by
 refine cB 17 Tryz.func249 (h:=?_)
 refine Za (xA (h:=Z0 [(0,_),(2,_)] t2 (Za (xM (h:=Zc9 (h:=xM (h:=Zq (d:=5) rfl (fun g1=>?_) (fun g1=>?_))))))))
 try simp only [sQ,ne_eq] at g1
 refine xM (h:=Zbd (h:=xT (h:=xM (h:=Zq (d:=9) rfl (fun g2=>?_) (fun g2=>?_)))))
 try simp only [sQ,ne_eq] at g2
 refine xP (h:=xP (h:=xP (h:=xP (h:=xP (h:=xP (h:=xT (h:=xA (h:=Z0 [(0,_),(2,_)] t2 (Zf ?_)))))))))
 exact eR t1 ⟨by exact Zc (by rw [Bool.eq_iff_iff];simp [Zbo];omega),rfl,rfl⟩
 try simp only [sQ,ne_eq] at g2
 refine xM (h:=Zc9 (h:=xM (h:=Zq (d:=12) rfl (fun g3=>?_) (fun g3=>?_))))
 try simp only [sQ,ne_eq] at g3
 refine xM (h:=Zbd (h:=xT (h:=xF (h:=xA (h:=Z0 [(0,_),(2,_)] t2 (Zf ?_))))))
 exact eR t1 ⟨by exact Zc (by rw [Bool.eq_iff_iff];simp [Zbo];omega),rfl,rfl⟩
 try simp only [sQ,ne_eq] at g3
 refine xP (h:=xP (h:=xF (h:=xF (h:=xA (h:=Z0 [(0,_),(2,_)] t2 (Zf ?_))))))
 exact eR t1 ⟨by exact Zc (by rw [Bool.eq_iff_iff];simp [Zbo];omega),rfl,rfl⟩
 try simp only [sQ,ne_eq] at g1
 refine xP (h:=xP (h:=xF (h:=xM (h:=xM (h:=Zc9 (h:=xM (h:=Zq (d:=12) rfl (fun g4=>?_) (fun g4=>?_))))))))
 try simp only [sQ,ne_eq] at g4
 refine xM (h:=Zbd (h:=xT (h:=xF (h:=xA (h:=Z0 [(0,_),(2,_)] t2 (Zf ?_))))))
 exact eR t1 ⟨by exact Zc (by rw [Bool.eq_iff_iff];simp [Zbo];omega),rfl,rfl⟩
 try simp only [sQ,ne_eq] at g4
 refine xP (h:=xP (h:=xF (h:=xF (h:=xA (h:=Z0 [(0,_),(2,_)] t2 (Zf ?_))))))
 exact eR t1 ⟨by exact Zc (by rw [Bool.eq_iff_iff];simp [Zbo];omega),rfl,rfl⟩

theorem Zca (l:List UInt8) (hl:l.length≤2000000) (B:Kn):Z1 (pj J) 120 [str l] B (.bool (Zaj l)):=by
 refine cB 37 Tryz.func120 (h:=?_)
 refine Za (xA (h:=Z0 [(0,_),(2,_)] t2 (Ze (Za (xA (h:=Z0 [(0,_),(2,_),(3,_)] t3 (Zg (ZkW (α:=Nat) (fun k=>[(0,str l),(3,.int .i64 k)]) (fun k=>[]) (fun k Bx=>Bx=B∧k≤l.length∧(l.take k).all Zbo=true) (fun k=>l.length - k) 0 t2 rfl (⟨rfl,Nat.zero_le _,by simp⟩) (fun k B1 hle1 hI=>?_)))))))))
 obtain ⟨rfl,hk,ha⟩:=hI
 refine Ze (Za (xM (h:=xM (h:=xVs Tryz.underlying9 (h:=ZC (h:=Z0 [(0,_),(3,_),(7,_)] t3 (Zb rfl (fun g1=>?_) (fun g1=>?_))))))))
 try simp only [sQ,ne_eq] at g1
 obtain ⟨c,hc⟩ :∃c,l[k]? = some c:=⟨_,List.getElem?_eq_getElem oz⟩
 refine wSk (Ze (Zg (Zo3 33 (!(Zbo c)) [0,3,7] ?_ ?_)))
 refine xM (h:=xM (h:=Zh (Zba rfl rfl Tryz.underlying9 rfl rfl oz (by simpa using hc) ?_)))
 refine Zc9 (h:=xM (h:=Zq (d:=14) rfl (fun g1=>?_) (fun g1=>?_)))
 try simp only [sQ,ne_eq] at g1
 refine xM (h:=xM (h:=Zh (Zba rfl rfl Tryz.underlying9 rfl rfl oz (by simpa using hc) ?_)))
 refine Zbd (h:=xT (h:=xN (h:=xM (h:=Zq (d:=21) rfl (fun g2=>?_) (fun g2=>?_)))))
 try simp only [sQ,ne_eq] at g2
 refine xM (h:=xM (h:=Zh (Zba rfl rfl Tryz.underlying9 rfl rfl oz (by simpa using hc) ?_)))
 refine Zc9 (h:=xM (h:=Zq (d:=26) rfl (fun g3=>?_) (fun g3=>?_)))
 try simp only [sQ,ne_eq] at g3
 refine xM (h:=xM (h:=Zh (Zba rfl rfl Tryz.underlying9 rfl rfl oz (by simpa using hc) ?_)))
 refine Zbd (h:=xT (h:=xN (h:=xT (h:=?_))))
 exact ⟨rfl,rfl,rfl,Zj9 rfl (by rw [Bool.eq_iff_iff];simp [Zbo,];omega),t3⟩
 try simp only [sQ,ne_eq] at g3
 refine xP (h:=xP (h:=xP (h:=xP (h:=xF (h:=xN (h:=xT (h:=?_)))))))
 exact ⟨rfl,rfl,rfl,Zj9 rfl (by rw [Bool.eq_iff_iff];simp [Zbo,];omega),t3⟩
 try simp only [sQ,ne_eq] at g2
 refine xP (h:=xP (h:=xP (h:=xP (h:=xP (h:=xP (h:=xP (h:=xP (h:=xP (h:=xP (h:=xP (h:=xF (h:=?_))))))))))))
 exact ⟨rfl,rfl,rfl,Zj9 rfl (by rw [Bool.eq_iff_iff];simp [Zbo,];omega),t3⟩
 try simp only [sQ,ne_eq] at g1
 refine xP (h:=xP (h:=xP (h:=xP (h:=xF (h:=xN (h:=xM (h:=xM (h:=xM (h:=Zh (Zba rfl rfl Tryz.underlying9 rfl rfl oz (by simpa using hc) ?_))))))))))
 refine Zc9 (h:=xM (h:=Zq (d:=26) rfl (fun g4=>?_) (fun g4=>?_)))
 try simp only [sQ,ne_eq] at g4
 refine xM (h:=xM (h:=Zh (Zba rfl rfl Tryz.underlying9 rfl rfl oz (by simpa using hc) ?_)))
 refine Zbd (h:=xT (h:=xN (h:=xT (h:=?_))))
 exact ⟨rfl,rfl,rfl,Zj9 rfl (by rw [Bool.eq_iff_iff];simp [Zbo,];omega),t3⟩
 try simp only [sQ,ne_eq] at g4
 refine xP (h:=xP (h:=xP (h:=xP (h:=xF (h:=xN (h:=xT (h:=?_)))))))
 exact ⟨rfl,rfl,rfl,Zj9 rfl (by rw [Bool.eq_iff_iff];simp [Zbo,];omega),t3⟩
 refine Z0 [(0,_),(3,_),(7,_),(33,_)] t4 (Zb rfl (fun g9=>?_) (fun g9=>?_))
 try simp only [sQ,ne_eq] at g9
 refine Za (xA (h:=Z0 [(0,_),(2,_),(3,_),(7,_),(33,_)] t5 (Zf (Zt (Zj (Zxp (Zt (Zj ?_))))))))
 exact eR t1 ⟨Zc (by simp [Zaj,ZvX hc g9]),rfl,rfl⟩
 try simp only [sQ,ne_eq] at g9
 refine ZK (ZD (Zm (Zd (xM (h:=Zh (ZeM rfl rfl rfl rfl (by first | exact Zb2 oz oz | rfl) ?_))))))
 refine xA (h:=?_)
 exact Zpm (k+1) oz ⟨rfl,oz,ZoV hc g9 ha⟩ t2 rfl
 try simp only [sQ,ne_eq] at g1
 refine ZA (ZQ (Zpl (Zs (Zm (Za (xM (h:=xVs Tryz.underlying9 (h:=xR ZmD rfl (Zc6 _ _ _ _) (h:=xA (h:=Z0 [(0,_),(2,_),(3,_),(7,_)] t4 (Zf ?_)))))))))))
 exact eR t1 ⟨Zc (by (obtain rfl:k=l.length:=oz);rw [List.take_length] at ha;rw [Bool.eq_iff_iff];simp [Zaj,ha];omega),rfl,rfl⟩

theorem ZoR (b:Nat) (l:List UInt8) (i:Nat) (hi:i≤l.length) (hl:l.length≤2000000) (B:Kn):ZwN (pj J) 171 [ptr ⟨b,0,none⟩] B (cur b l i) (.bool (decide (i=l.length))) (cur b l i):=by
 refine cB 13 Tryz.func171 (h:=?_)
 refine Za (xA (h:=Z0 [(0,_),(2,_)] t2 (Ze (ZW (same _ _) mo kr ⟨rfl,rfl⟩ (fun _ _=>?_)))))
 refine aM 0 rfl (h:=aNc 1 rfl (h:=aW 2 rfl Zb6 (h:=aT 3 rfl (Z3 fun D=>Zn rfl rfl lk3 rfl (atL 0 rfl rfl rfl) r4) (h:=aM 4 rfl (h:=aNc 5 rfl (h:=aW 6 rfl ZgY (h:=aT 7 rfl (Z3 fun D=>Zn rfl rfl lk9 rfl (atL 0 rfl rfl rfl) r4) (h:=aT 8 rfl (Z3 fun D=>Zwf rfl rfl Tryz.underlying9 rfl r4) (h:=ZtB 9 rfl (h:=aA 10 rfl (h:=Zy kr kr ?_)))))))))))
 refine Zm (Z0 [(0,_),(2,_)] t2 (Zf ?_))
 exact e1 0 rfl t1 ⟨Zc (by rw [Bool.eq_iff_iff];simp;omega),rfl,rfl⟩

theorem Zzo (b:Nat) (l:List UInt8) (i:Nat) (hi:i≤l.length) (hl:l.length≤2000000) (x:UInt8) (B:Kn):ZwN (pj J) 209 [ptr ⟨b,0,none⟩,.int .u8 x.toNat] B (cur b l i) (.bool (decide (l[i]? = some x))) (cur b l (if l[i]? = some x then i+1 else i)):=by
 refine cB 27 Tryz.func209 (h:=?_)
 refine Za (xA (h:=Z0 [(0,_),(1,_),(4,_)] t3 (Ze (ZhQ 19 (decide (l[i]?≠some x)) [0,1,4] (same _ _) mo kr ⟨rfl,rfl⟩ (fun _ _=>?_) ?_))))
 refine aM 0 rfl (h:=aT 1 rfl (Z3 fun D=>Zfw 0 rfl rfl rfl ZvC rfl (ZoR _ _ _ oz oz _) r4) (h:=?_))
 refine aM 2 rfl (h:=Zax (d:=7) rfl (fun g1=>?_) (fun g1=>?_))
 try simp only [sQ,ne_eq] at g1
 refine aZ 3 rfl (h:=aZ 4 rfl (h:=aZ 5 rfl (h:=aZ 6 rfl (h:=aZ 7 rfl (h:=aZ 8 rfl (h:=aZ 9 rfl (h:=aZ 10 rfl (h:=aZ 11 rfl (h:=aZ 12 rfl (h:=aZ 13 rfl (h:=aPT 14 rfl (h:=Zy kr kr ?_))))))))))))
 exact ⟨rfl,rfl,rfl,Zj9 rfl (by first | (simp [g1];done) | (rw [Bool.eq_iff_iff];simp [hc,← UInt8.toNat_inj];omega)),t3⟩
 try simp only [sQ,ne_eq] at g1
 obtain ⟨c,hc⟩ :∃c,l[i]? = some c:=⟨_,List.getElem?_eq_getElem oz⟩
 refine aM 3 rfl (h:=aNc 4 rfl (h:=aW 5 rfl ZgY (h:=aT 6 rfl (Z3 fun D=>Zn rfl rfl lk9 rfl (atL 0 rfl rfl rfl) r4) (h:=aM 7 rfl (h:=aNc 8 rfl (h:=aW 9 rfl Zb6 (h:=aT 10 rfl (Z3 fun D=>Zn rfl rfl lk3 rfl (atL 0 rfl rfl rfl) r4) (h:=aT 11 rfl (Z3 fun D=>Zba rfl rfl Tryz.underlying9 rfl rfl oz (by simpa using hc) r4) (h:=?_)))))))))
 refine aM 12 rfl (h:=ZwM 13 rfl (h:=aPF 14 rfl (h:=Zy kr kr ?_)))
 exact ⟨rfl,rfl,rfl,Zj9 rfl (by first | (simp [g1];done) | (rw [Bool.eq_iff_iff];simp [hc,← UInt8.toNat_inj];omega)),t3⟩
 refine Z0 [(0,_),(1,_),(4,_),(19,_)] t4 (Zb rfl (fun g2=>?_) (fun g2=>?_))
 try simp only [sQ,ne_eq] at g2
 refine Za (xA (h:=Z0 [(0,_),(1,_),(4,_),(19,_)] t4 (Zf (Zj ?_))))
 exact e1 0 rfl t1 ⟨Zc (by simp [g2]),rfl,by rw [if_neg g2]⟩
 try simp only [sQ,ne_eq] at g2
 refine wSk (Za (xM (h:=xNc (h:=xW Zb6 (h:=x1 lk3 0 (h:=Zh (ZeM rfl rfl rfl rfl (by first | exact Zb2 oz oz | rfl) ?_)))))))
 refine xNc (h:=xW Zb6 (h:=xS [_] 0 [_,_] sz3 (h:=Zz [(0,_),(1,_),(4,_),(19,_)] [_] t4 rfl (Za (xA (h:=Z0 [(0,_),(1,_),(4,_),(19,_)] t4 (Zf ?_)))))))
 exact e1 0 rfl t1 ⟨Zc (by simp [g2]),rfl,by rw [if_pos g2];rfl⟩

theorem ZrK (b:Nat) (l:List UInt8) (i:Nat) (hi:i≤l.length) (hl:l.length≤2000000) (B:Kn):ZwN (pj J) 208 [ptr ⟨b,0,none⟩] B (cur b l i) (.tuple #[str (word l i),.bool (ZdG (word l i))]) (cur b l (i+(word l i).length)):=by
 refine cB 54 Tryz.func208 (h:=?_)
 refine Za (xA (h:=xA (h:=Z0 [(0,_),(2,_),(3,_)] t3 (Za (xM (h:=xNc (h:=xW Zb6 (h:=x1 lk3 0 (h:=xA (h:=Z0 [(0,_),(2,_),(3,_),(4,_)] t4 (Ze (Zg (ZkW (α:=Nat) (fun k=>[(0,ptr ⟨b,0,none⟩),(4,.int .i64 i)]) (fun k=>[cur b l (i+k)]) (fun k Bx=>Bx=B∧i+k≤l.length∧((l.drop i).take k).all Zbo=true) (fun k=>l.length - i - k) 0 t2 rfl (⟨rfl,oz,by simp⟩) (fun k B1 hle1 hI=>?_))))))))))))))
 obtain ⟨rfl,hk,ha⟩:=hI
 refine Ze (ZhQ 24 (match l[i+k]? with | some c=>Zbo c | none=>false) [0,4] (same _ _) mo kr ⟨rfl,rfl⟩ (fun _ _=>?_) ?_)
 refine aM 0 rfl (h:=aT 1 rfl (Z3 fun D=>Zfw 0 rfl rfl rfl ZvC rfl (ZoR _ _ _ oz oz _) r4) (h:=?_))
 refine aN 2 rfl (h:=aM 3 rfl (h:=Zax (d:=13) rfl (fun g1=>?_) (fun g1=>?_)))
 try simp only [sQ,ne_eq] at g1
 obtain ⟨c,hc⟩ :∃c,l[i+k]? = some c:=⟨_,List.getElem?_eq_getElem oz⟩
 refine aM 4 rfl (h:=aNc 5 rfl (h:=aW 6 rfl ZgY (h:=aT 7 rfl (Z3 fun D=>Zn rfl rfl lk9 rfl (atL 0 rfl rfl rfl) r4) (h:=aM 8 rfl (h:=aNc 9 rfl (h:=aW 10 rfl Zb6 (h:=aT 11 rfl (Z3 fun D=>Zn rfl rfl lk3 rfl (atL 0 rfl rfl rfl) r4) (h:=aT 12 rfl (Z3 fun D=>Zba rfl rfl Tryz.underlying9 rfl rfl oz hc r4) (h:=?_)))))))))
 refine aT 13 rfl (Z3 fun D=>Z5 rfl rfl ZCN rfl (Zpz _ _) r4) (h:=aPT 14 rfl (h:=Zy kr kr ?_))
 exact ⟨rfl,rfl,rfl,Zj9 rfl (by first | (rw [hc];done) | (rw [List.getElem?_eq_none oz])),t2⟩
 try simp only [sQ,ne_eq] at g1
 refine aZ 4 rfl (h:=aZ 5 rfl (h:=aZ 6 rfl (h:=aZ 7 rfl (h:=aZ 8 rfl (h:=aZ 9 rfl (h:=aZ 10 rfl (h:=aZ 11 rfl (h:=aZ 12 rfl (h:=aZ 13 rfl (h:=aPF 14 rfl (h:=Zy kr kr ?_)))))))))))
 exact ⟨rfl,rfl,rfl,Zj9 rfl (by first | (rw [hc];done) | (rw [List.getElem?_eq_none oz])),t2⟩
 refine Z0 [(0,_),(4,_),(24,_)] t3 (Zb rfl (fun g2=>?_) (fun g2=>?_))
 try simp only [sQ,ne_eq] at g2
 refine wSk (Zg (Zd (xM (h:=xNc (h:=xW Zb6 (h:=x1 lk3 0 (h:=Zh (ZeM rfl rfl rfl rfl (by first | exact Zb2 oz oz | rfl) ?_))))))))
 refine xNc (h:=xW Zb6 (h:=xS [_] 0 [_,_] sz3 (h:=ZD ?_)))
 obtain ⟨c,hc,hn⟩:=Zre g2
 exact Zpm (k+1) (by have:=ZbV hc;omega) ⟨rfl,by have:=ZbV hc;omega,ZoV (by simpa using hc) hn ha⟩ t2 rfl
 try simp only [sQ,ne_eq] at g2
 have hw:word l i=(l.drop i).take k:=ZtW ha (fun c hc=>by rw [hc] at g2;exact g2)
 have hwl:(word l i).length=k:=by rw [hw,List.length_take,List.length_drop];omega
 refine ZA (ZQ (Zpl (Zs (Zm (Za (xM (h:=xNc (h:=xW Zb6 (h:=x1 lk3 0 (h:=xM (h:=Zh (ZiO rfl rfl rfl rfl (by first | exact Zb2 oz oz | rfl) ?_))))))))))))
 refine xA (h:=Z0 [(0,_),(4,_),(5,_),(24,_)] t4 (Ze (ZW (same _ _) mo kr ⟨rfl,rfl⟩ (fun _ _=>?_))))
 refine aM 0 rfl (h:=aNc 1 rfl (h:=aW 2 rfl ZgY (h:=aT 3 rfl (Z3 fun D=>Zn rfl rfl lk9 rfl (atL 0 rfl rfl rfl) r4) (h:=aM 4 rfl (h:=aM 5 rfl (h:=aNc 6 rfl (h:=aW 7 rfl Zb6 (h:=aT 8 rfl (Z3 fun D=>Zn rfl rfl lk3 rfl (atL 0 rfl rfl rfl) r4) (h:=aT 9 rfl (Z3 fun D=>ZbX rfl rfl Tryz.underlying9 rfl (a:=i) (b:=i+k) ⟨_,_,rfl,rfl⟩ ⟨_,_,rfl,oz⟩ oz oz r4) (h:=?_))))))))))
 refine aM 10 rfl (h:=ZEh 11 rfl (h:=aM 12 rfl (h:=Zax (d:=50) rfl (fun g1=>?_) (fun g1=>?_))))
 try simp only [sQ,ne_eq] at g1
 refine aM 13 rfl (h:=ZyP 14 rfl (h:=aPT 15 rfl (h:=aA 16 rfl (h:=aA 17 rfl (h:=Zy kr kr ?_)))))
 refine Zm (Z0 [(0,_),(2,_),(3,_),(4,_),(5,_),(24,_)] t6 (Zf ?_))
 exact ZyC .ret (.inl rfl) [_,_] 0 rfl t2 ⟨Zi0 (by rw [ZfE,hw]) (Zc (by rw [Bool.eq_iff_iff];simp [ZdG,hwl];omega)),rfl,by rw [hwl]⟩
 try simp only [sQ,ne_eq] at g1
 refine aZ 13 rfl (h:=aZ 14 rfl (h:=aPF 15 rfl (h:=aA 16 rfl (h:=aA 17 rfl (h:=Zy kr kr ?_)))))
 refine Zm (Z0 [(0,_),(2,_),(3,_),(4,_),(5,_),(24,_)] t6 (Zf ?_))
 exact ZyC .ret (.inl rfl) [_,_] 0 rfl t2 ⟨Zi0 (by rw [ZfE,hw]) (Zc (by rw [Bool.eq_iff_iff];simp [ZdG,hwl];omega)),rfl,by rw [hwl]⟩

theorem ZvF (b:Nat) (l:List UInt8) (i:Nat) (hi:i≤l.length) (hl:l.length≤2000000) (B:Kn):ZwN (pj J) 170 [ptr ⟨b,0,none⟩] B (cur b l i) (.tuple #[str (ZiB l i),.bool (ZnK l i)]) (cur b l (dom l i).2):=by
 refine cB 53 Tryz.func170 (h:=?_)
 refine Za (xA (h:=xA (h:=Z0 [(0,_),(2,_),(3,_)] t3 (Za (xM (h:=xNc (h:=xW Zb6 (h:=x1 lk3 0 (h:=xA (h:=Z0 [(0,_),(2,_),(3,_),(4,_)] t4 (Ze (Za (xM (h:=Zh (ZiX 0 rfl rfl rfl ZyE rfl (ZrK _ _ _ oz oz _) ?_)))))))))))))))
 refine xM (h:=xE (h:=xE (h:=xA (h:=xA (h:=Zz [(0,_),(2,_),(3,_),(4,_),(6,_)] [_] t5 rfl (Za (xM (h:=xN (h:=Z0 [(0,_),(2,_),(3,_),(4,_),(6,_),(20,_)] t6 (Zb rfl (fun g1=>?_) (fun g1=>?_)))))))))))
 try simp only [sQ,ne_eq] at g1
 refine Za (xA (h:=xA (h:=Z0 [(0,_),(2,_),(3,_),(4,_),(6,_),(20,_)] t6 (Zf (Zj ?_)))))
 exact ZyC .ret (.inl rfl) [_,_] 0 rfl t2 ⟨Zi0 (by simp [ZiB,ZnJ g1]) (Zc (by simp [ZnK,ZnJ g1])),rfl,by rw [ZnJ g1]⟩
 try simp only [sQ,ne_eq] at g1
 refine wSk (Ze (Za (xA (h:=Z0 [(0,_),(2,_),(3,_),(4,_),(6,_),(7,_),(20,_)] t7 (Zg (ZkW (α:=Nat × Nat) (fun x=>[(0,ptr ⟨b,0,none⟩),(4,.int .i64 i),(7,.int .i64 x.1)]) (fun x=>[cur b l x.2]) (fun x Bx=>Bx=B∧1≤x.1∧x.1≤3∧i≤x.2∧x.2≤l.length∧dom l i=more (3 - x.1) l x.2) (fun x=>3 - x.1) (1,i+(word l i).length) t3 rfl (⟨rfl,oz,oz,oz,ZhO hi,ZvG g1⟩) (fun x B1 hle1 hI=>?_)))))))
 obtain ⟨rfl,hk1,hk3,hix,hxl,hd⟩:=hI
 refine Ze (Za (xM (h:=ZC (h:=xM (h:=Zq (d:=23) rfl (fun g2=>?_) (fun g2=>?_))))))
 try simp only [sQ,ne_eq] at g2
 refine xM (h:=Zh (ZiX 0 rfl rfl rfl ZC4 rfl (Zzo _ _ _ oz oz 46 _) ?_))
 refine xT (h:=Zz [(0,_),(4,_),(7,_),(26,_)] [_] t4 rfl (Zb rfl (fun g3=>?_) (fun g3=>?_)))
 try simp only [sQ,ne_eq] at g3
 rw [if_pos g3]
 have hx2:=ZbV g3
 refine wSk (Ze (Zg (Za (xM (h:=Zh (ZiX 0 rfl rfl rfl ZyE rfl (ZrK _ _ _ oz oz _) ?_))))))
 refine xM (h:=xE (h:=xE (h:=xA (h:=xA (h:=Zz [(0,_),(4,_),(7,_),(9,_),(26,_)] [_] t5 rfl (Za (xM (h:=xN (h:=Z0 [(0,_),(4,_),(7,_),(9,_),(26,_),(35,_)] t6 (Zb rfl (fun g4=>?_) (fun g4=>?_)))))))))))
 try simp only [sQ,ne_eq] at g4
 refine Za (xA (h:=xA (h:=Z0 [(0,_),(2,_),(3,_),(4,_),(7,_),(9,_),(26,_),(35,_)] t8 (Zf (Zt (Zj (Zxp (Zt (Zj ?_)))))))))
 have hdd:=hd.trans (ZuV oz g3 g4)
 exact ZyC .ret (.inl rfl) [_,_] 0 rfl t2 ⟨Zi0 (by simp [ZiB,hdd]) (Zc (by simp [ZnK,hdd])),rfl,by rw [hdd]⟩
 try simp only [sQ,ne_eq] at g4
 refine ZK (ZD (Zm (Zd (xM (h:=Zh (ZeM rfl rfl rfl rfl (by first | exact Zb2 oz oz | rfl) ?_))))))
 refine xA (h:=?_)
 exact Zpm (x.1+1,x.2+1+(word l (x.2+1)).length) (so) ⟨rfl,so,so,so,ZhO oz,by rw [hd,ZrP oz g3 g4];rw [show 3 - (x.1+1)=3 - x.1 - 1 from by omega]⟩ t3 rfl
 try simp only [sQ,ne_eq] at g3
 rw [if_neg g3]
 replace hd:=hd.trans (Zh9 g3)
 refine ZA (ZQ (Zpl (Zs (Zm (Ze (ZW (same _ _) mo kr ⟨rfl,rfl⟩ (fun _ _=>?_)))))))
 refine aM 0 rfl (h:=aNc 1 rfl (h:=aW 2 rfl ZgY (h:=aT 3 rfl (Z3 fun D=>Zn rfl rfl lk9 rfl (atL 0 rfl rfl rfl) r4) (h:=aM 4 rfl (h:=aM 5 rfl (h:=aNc 6 rfl (h:=aW 7 rfl Zb6 (h:=aT 8 rfl (Z3 fun D=>Zn rfl rfl lk3 rfl (atL 0 rfl rfl rfl) r4) (h:=aT 9 rfl (Z3 fun D=>ZbX rfl rfl Tryz.underlying9 rfl (a:=i) (b:=x.2) ⟨_,_,rfl,rfl⟩ ⟨_,_,rfl,rfl⟩ oz oz r4) (h:=?_))))))))))
 refine aM 10 rfl (h:=aNc 11 rfl (h:=aW 12 rfl Zb6 (h:=aT 13 rfl (Z3 fun D=>Zn rfl rfl lk3 rfl (atL 0 rfl rfl rfl) r4) (h:=aM 14 rfl (h:=aT 15 rfl (Z3 fun D=>ZiO rfl rfl rfl rfl (by first | exact Zb2 oz oz | rfl) r4) (h:=?_))))))
 refine ZyP 16 rfl (h:=aA 17 rfl (h:=aA 18 rfl (h:=Zy kr kr ?_)))
 refine Zm (Z0 [(0,_),(2,_),(3,_),(4,_),(7,_),(26,_)] t6 (Zf ?_))
 exact ZyC .ret (.inl rfl) [_,_] 0 rfl t2 ⟨Zi0 (by simp [ZiB,hd]) (Zc (by rw [Bool.eq_iff_iff];simp [ZnK,hd];omega)),rfl,by rw [hd]⟩
 try simp only [sQ,ne_eq] at g2
 replace hd:dom l i=(true,x.2):=hd.trans (by rw [show 3 - x.1=0 from by omega];rfl)
 refine xP (h:=xP (h:=xF (h:=Z0 [(0,_),(4,_),(7,_),(26,_)] t4 (Zb (t:=false) rfl (fun h=>Bool.noConfusion h) (fun _=>ZA (ZQ (Zpl (Zs (Zm (Ze (ZW (same _ _) mo kr ⟨rfl,rfl⟩ (fun _ _=>?_))))))))))))
 refine aM 0 rfl (h:=aNc 1 rfl (h:=aW 2 rfl ZgY (h:=aT 3 rfl (Z3 fun D=>Zn rfl rfl lk9 rfl (atL 0 rfl rfl rfl) r4) (h:=aM 4 rfl (h:=aM 5 rfl (h:=aNc 6 rfl (h:=aW 7 rfl Zb6 (h:=aT 8 rfl (Z3 fun D=>Zn rfl rfl lk3 rfl (atL 0 rfl rfl rfl) r4) (h:=aT 9 rfl (Z3 fun D=>ZbX rfl rfl Tryz.underlying9 rfl (a:=i) (b:=x.2) ⟨_,_,rfl,rfl⟩ ⟨_,_,rfl,rfl⟩ oz oz r4) (h:=?_))))))))))
 refine aM 10 rfl (h:=aNc 11 rfl (h:=aW 12 rfl Zb6 (h:=aT 13 rfl (Z3 fun D=>Zn rfl rfl lk3 rfl (atL 0 rfl rfl rfl) r4) (h:=aM 14 rfl (h:=aT 15 rfl (Z3 fun D=>ZiO rfl rfl rfl rfl (by first | exact Zb2 oz oz | rfl) r4) (h:=?_))))))
 refine ZyP 16 rfl (h:=aA 17 rfl (h:=aA 18 rfl (h:=Zy kr kr ?_)))
 refine Zm (Z0 [(0,_),(2,_),(3,_),(4,_),(7,_),(26,_)] t6 (Zf ?_))
 exact ZyC .ret (.inl rfl) [_,_] 0 rfl t2 ⟨Zi0 (by simp [ZiB,hd]) (Zc (by rw [Bool.eq_iff_iff];simp [ZnK,hd];omega)),rfl,by rw [hd]⟩

theorem ZbI (l:List UInt8) (hl:l.length≤2000000) (B:Kn):Z1 (pj J) 180 [str l] B (.bool (Zaj l)):=by
 refine cB 16 Tryz.func180 (h:=?_)
 refine Za (xA (h:=Z0 [(0,_),(2,_)] t2 (Za (xM (h:=xB [(0,_)] [_,_] [_,_] ZzE ZtH (h:=xAl [_,_] ZtH (h:=fun b0=>xS [_,_] 0 [_,_] Zzv (h:=Zz [(0,_),(2,_),(3,_)] [_] t3 rfl (Za (Zh (ZiX 0 rfl rfl rfl ZyE rfl (ZrK _ _ 0 oz hl _) ?_)))))))))))
 refine xM (h:=xE (h:=xE (h:=xA (h:=xA (h:=Zz [(0,_),(2,_),(3,_),(5,_)] [_] t4 rfl (Za (xM (h:=xM (h:=Zq (d:=13) rfl (fun g1=>?_) (fun g1=>?_))))))))))
 refine Zh (Zfw 0 rfl rfl rfl ZvC rfl (ZoR _ _ (0+(word l 0).length) (ZhO (Nat.zero_le _)) oz _) ?_)
 refine xT (h:=xA (h:=Z0 [(0,_),(2,_),(3,_),(5,_)] t4 (Zf ?_)))
 exact eR t1 ⟨Zc (by rw [Zdt];simp [g1];try omega),rfl,rfl⟩
 refine xP (h:=xF (h:=xA (h:=Z0 [(0,_),(2,_),(3,_),(5,_)] t4 (Zf ?_))))
 exact eR t1 ⟨Zc (by rw [Zdt];simp [g1];try omega),rfl,rfl⟩

abbrev ZA6 (s : Cells) (q : Option Addr) (m cp : Nat) (ls : List (List UInt8)) : Prop := ZgC s q m cp 9 1 (ls.map str)
theorem Zk0 {s:Cells} {q:Option Addr} {m cp:Nat} {ls:List (List UInt8)} {a:List UInt8} (h:ZgC s q m cp 9 1 (ls.map str ++ [str a])):ZA6 s q m cp (ls ++ [a]):=by
 unfold ZA6
 rw [List.map_append]
 exact h
theorem ZxO (l:List UInt8) (hl:l.length≤2000000) (x0:UInt8) (B:Kn):ZEO (pj J) 119 [str l,.int .u8 x0.toNat] B (fun v s=>∃q cp,v = .slice q (cut x0 l).length cp∧ZA6 s q (cut x0 l).length cp (cut x0 l)):=by
 refine cB 35 Tryz.func119 (h:=?_)
 refine Za (xA (h:=Z0 [(0,_),(1,_),(4,_)] t3 (Za (xBs [] [] Tryz.underlying134 sz9 zo9 (h:=fun b0=>xA (h:=Zz [(0,_),(1,_),(4,_),(5,_)] [_] t4 rfl (Za (xA (h:=Z0 [(0,_),(1,_),(4,_),(5,_),(6,_)] t5 (Ze (Za (xA (h:=Z0 [(0,_),(1,_),(4,_),(5,_),(6,_),(7,_)] t6 (Zg (ZkW (α:=CutSt) (fun x=>[(0,str l),(1,.int .u8 x0.toNat),(5,.slice x.q x.m x.cp),(6,.int .i64 x.f),(7,.int .i64 x.i)]) (fun x=>[x.s]) (fun x Bx=>Bx=B∧x.f≤x.i∧x.i≤l.length∧x.m≤x.i∧x.m=x.ps.length∧ZA6 x.s x.q x.m x.cp x.ps∧cut x0 l=x.ps ++ glue ((l.take x.i).drop x.f) (cut x0 (l.drop x.i))) (fun x=>l.length - x.i) ⟨0,0,0,[],some ⟨b0,0,none⟩,0,ZP b0 [] 9⟩ t5 rfl (⟨rfl,Nat.le_refl _,Nat.zero_le _,Nat.le_refl _,rfl,ZgC.lit rfl,by simp [ZoK (ZoU x0 l)]⟩) (fun x B1 hle1 hI=>?_))))))))))))))))
 obtain ⟨rfl,hf,hi,hn,hm,hv,hc⟩:=hI
 refine Ze (Za (xM (h:=xM (h:=xVs Tryz.underlying9 (h:=ZC (h:=Z0 [(0,_),(1,_),(5,_),(6,_),(7,_),(12,_)] t6 (Zb rfl (fun g1=>?_) (fun g1=>?_))))))))
 try simp only [sQ,ne_eq] at g1
 obtain ⟨c,hx⟩ :∃c,l[x.i]? = some c:=⟨_,List.getElem?_eq_getElem oz⟩
 refine wSk (Ze (Zg (Za (xM (h:=xM (h:=Zh (Zba rfl rfl Tryz.underlying9 rfl rfl oz hx ?_)))))))
 refine xM (h:=Z2 (h:=Z0 [(0,_),(1,_),(5,_),(6,_),(7,_),(12,_),(19,_)] t7 (Zb rfl (fun g2=>?_) (fun g2=>?_))))
 try simp only [sQ,ne_eq] at g2
 refine Za (xM (h:=xM (h:=xM (h:=xM (h:=Zh (ZbX rfl rfl Tryz.underlying9 rfl (a:=x.f) (b:=x.i) ⟨_,_,rfl,rfl⟩ ⟨_,_,rfl,rfl⟩ oz oz ?_))))))
 refine xBs [(0,_)] [_] Tryz.underlying134 sz9 zo9 (h:=fun b1=>Zh (Zfc 0 rfl (hv) rfl rfl ZvA Zxj rfl rfl (ZcX.box 1 rfl) rfl rfl oz (fun l1 p1 c1 hv1=>?_)))
 refine xA (h:=Zz [(0,_),(1,_),(5,_),(6,_),(7,_),(12,_),(19,_)] [_,_] t7 rfl (ZmJ [0] rfl (Zd (xM (h:=Zh (ZeM rfl rfl rfl rfl (by first | exact Zb2 oz oz | rfl) ?_))))))
 refine xA (h:=ZD (Zm (Zd (xM (h:=Zh (ZeM rfl rfl rfl rfl (by first | exact Zb2 oz oz | rfl) ?_))))))
 refine xA (h:=?_)
 exact Zpm ⟨x.i+1,x.i+1,x.m+1,x.ps ++ [(l.take x.i).drop x.f],p1,c1,l1⟩ (so) ⟨rfl,Nat.le_refl _,so,so,by simp [hm],Zk0 hv1,by rw [hc,ZyJ hx (ZBp g2),List.append_assoc];simp [Zvp,ZoK (ZoU x0 _)]⟩ t5 rfl
 try simp only [sQ,ne_eq] at g2
 refine ZK (ZD (Zm (Zd (xM (h:=Zh (ZeM rfl rfl rfl rfl (by first | exact Zb2 oz oz | rfl) ?_))))))
 refine xA (h:=?_)
 exact Zpm ⟨x.i+1,x.f,x.m,x.ps,x.q,x.cp,x.s⟩ (so) ⟨rfl,so,so,so,hm,hv,by rw [hc,ZvI hx (ZBo g2),Zsp,ZqX hx hf]⟩ t5 rfl
 try simp only [sQ,ne_eq] at g1
 obtain hie:x.i=l.length:=by omega
 rw [hie,List.take_length,List.drop_length] at hc
 refine ZA (ZQ (Zpl (Zs (Zm (Za (xM (h:=xM (h:=xM (h:=Zh (ZbX rfl rfl Tryz.underlying9 rfl (a:=x.f) (b:=l.length) ⟨_,_,rfl,rfl⟩ rfl oz oz ?_))))))))))
 refine xBs [(0,_)] [_] Tryz.underlying134 sz9 zo9 (h:=fun b1=>Zh (Zfc 0 rfl (hv) rfl rfl ZvA Zxj rfl rfl (ZcX.box 1 rfl) rfl rfl oz (fun l2 p2 c2 hv2=>?_)))
 refine xA (h:=Zz [(0,_),(1,_),(4,_),(5,_),(6,_),(7,_),(12,_)] [_,_] t7 rfl (Zf ?_))
 have he:cut x0 l=x.ps ++ [l.drop x.f]:=by rw [hc];simp [cut,glue]
 have hlen:(cut x0 l).length=x.m+1:=by rw [he];simp [hm]
 exact Zdh .ret (.inl rfl) [_] [0] rfl ⟨rfl,trivial⟩ ⟨rfl,_,rfl,p2,c2,by rw [hlen];rfl,by rw [hlen,he];rw [List.take_length] at hv2;exact Zk0 hv2⟩

theorem Zlj (l:List UInt8) (hl:l.length≤2000000) (B:Kn):Z1 (pj J) 70 [str l] B (.bool (ZcY l)):=by
 refine cB 27 Tryz.func70 (h:=?_)
 refine Za (xA (h:=Z0 [(0,_),(2,_)] t2 (Za (xM (h:=Zh (Zy6 rfl rfl ZD5 rfl (ZxO _ hl 46 _) ?_))))))
 rintro _ s ⟨q,cp,rfl,hv⟩
 refine xA (h:=Zz [(0,_),(2,_),(3,_)] [_] t3 rfl (Ze (Za (xA (h:=Z0 [(0,_),(2,_),(3,_),(4,_)] t4 (Zg (ZkW (α:=Nat) (fun k=>[(0,str l),(3,.slice q (cut 46 l).length cp),(4,.int .i64 k)]) (fun k=>[s]) (fun k Bx=>Bx=B∧k≤(cut 46 l).length∧((cut 46 l).take k).all Zaj=true) (fun k=>(cut 46 l).length - k) 0 t3 rfl (⟨rfl,Nat.zero_le _,by simp⟩) (fun k B1 hle1 hI=>?_))))))))
 obtain ⟨rfl,hk,ha⟩:=hI
 have hcc:=Zmh 46 l
 refine Ze (Za (xM (h:=xM (h:=xV Tryz.underlying134 (h:=ZC (h:=Z0 [(0,_),(3,_),(4,_),(10,_)] t4 (Zb rfl (fun g1=>?_) (fun g1=>?_))))))))
 try simp only [sQ,ne_eq] at g1
 obtain ⟨y,hy⟩ :∃y,(cut 46 l)[k]? = some y:=⟨_,List.getElem?_eq_getElem oz⟩
 have hyl:=ZnL 46 l y (List.mem_of_getElem? hy)
 obtain ⟨a,rfl,hsp,hat⟩:=hv.at (B:=B1) (L:=[s]) (i:=k) (v:=str y) 0 rfl (by rw [List.getElem?_map,hy];rfl)
 refine wSk (Ze (Zg (Za (xM (h:=xM (h:=Zh (Zb3 rfl rfl Tryz.underlying134 sz9 rfl rfl oz oz ?_)))))))
 refine Zh (Zn rfl rfl lk9 rfl (ZAS hat) (xR Zmd rfl (Zca _ oz _) (h:=?_)))
 refine xN (h:=Z0 [(0,_),(3,_),(4,_),(10,_),(18,_)] t5 (Zb rfl (fun g2=>?_) (fun g2=>?_)))
 try simp only [sQ,ne_eq] at g2
 refine Za (xA (h:=Z0 [(0,_),(2,_),(3,_),(4,_),(10,_),(18,_)] t6 (Zf (Zt (Zj (Zxp (Zt (Zj ?_))))))))
 exact eR t1 ⟨Zc (by simp [ZcY,Zmx hy g2]),rfl,rfl⟩
 try simp only [sQ,ne_eq] at g2
 refine ZK (ZD (Zm (Zd (xM (h:=Zh (ZeM rfl rfl rfl rfl (by first | exact Zb2 oz oz | rfl) ?_))))))
 refine xA (h:=?_)
 exact Zpm (k+1) oz ⟨rfl,oz,ZiI hy g2 ha⟩ t3 rfl
 try simp only [sQ,ne_eq] at g1
 obtain hke:k=(cut 46 l).length:=by omega
 rw [hke,List.take_length] at ha
 refine ZA (ZQ (Zpl (Zs (Zm (Za (xM (h:=xV Tryz.underlying134 (h:=Zbd (h:=xM (h:=Zq (d:=22) rfl (fun g3=>?_) (fun g3=>?_)))))))))))
 try simp only [sQ,ne_eq] at g3
 refine xM (h:=xVs Tryz.underlying9 (h:=Zbd (h:=xT (h:=xA (h:=Z0 [(0,_),(2,_),(3,_),(4,_),(10,_)] t5 (Zf ?_))))))
 exact eR t1 ⟨Zc (by rw [Bool.eq_iff_iff];simp [ZcY,ha];omega),rfl,rfl⟩
 try simp only [sQ,ne_eq] at g3
 refine xP (h:=xP (h:=xP (h:=xF (h:=xA (h:=Z0 [(0,_),(2,_),(3,_),(4,_),(10,_)] t5 (Zf ?_))))))
 exact eR t1 ⟨Zc (by rw [Bool.eq_iff_iff];simp [ZcY,ha];omega),rfl,rfl⟩

theorem Zgq (q:Option Addr) (cp:Nat) (us:List DUser) (u:Str) (B:Kn) (hu:SlK B q cp 3 ZL us):Z1 (pj J) 76 [.slice q us.length cp,str u] B (.int .i64 (Zhn us u)):=by
 refine cB 20 Tryz.func76 (h:=?_)
 have hun:=hu.len
 refine Za (xA (h:=Ze (Za (xA (h:=Zg (Zv (α:=Nat) [0,1] (fun k=>[(5,.int .i64 k)]) [] (fun k=>[]) (fun k Bx=>Bx=B∧k≤us.length∧∀x,x∈us.take k→x.name≠u) (fun k=>us.length - k) 0 t1 rfl (⟨rfl,Nat.zero_le _,by simp⟩) (fun k B1 hle1 hI=>?_)))))))
 obtain ⟨rfl,hk,ha⟩:=hI
 refine Zz [(0,_),(1,_),(5,_)] [] t3 rfl (Ze (Za (xM (h:=xM (h:=xV Tryz.underlying35 (h:=ZC (h:=Zb rfl (fun g1=>?_) (fun g1=>?_))))))))
 try simp only [sQ,ne_eq] at g1
 refine wSk (Ze (Zg (Za (xM (h:=xM (h:=?_))))))
 obtain ⟨x,hx⟩:=ZM (xs:=us) (i:=k) om
 obtain ⟨bb3,oo3,rfl⟩:=hu.base hx
 obtain ⟨_,⟨rfl,hb4,hb4b⟩,hc4⟩:=hu.elem hx
 refine xIx Tryz.underlying35 Zcv (h:=xW Zbp (h:=y1 lk9 hc4 0 (h:=xM (h:=Zcj (h:=Zb rfl (fun g2=>?_) (fun g2=>?_))))))
 try simp only [sQ,ne_eq] at g2
 refine Za (xM (h:=xA (h:=Zf (Zt (Zj (ZJ (Zt (Zj ?_))))))))
 exact eR t1 ⟨ZH (Zu7 hx g2 ha).symm,rfl,rfl⟩
 try simp only [sQ,ne_eq] at g2
 refine ZK (ZD (Zm (Zd (xM (h:=xD (h:=xA (h:=?_)))))))
 exact Zx (k+1) [] so2 ⟨rfl,oz,ZaW hx ha g2⟩ t3 rfl
 try simp only [sQ,ne_eq] at g1
 refine ZA (ZQ (ZB (Zs (Zm (Za (xA (h:=Zf ?_)))))))
 exact eR t1 ⟨ZH (Zsf (Za0 oz ha)).symm,rfl,rfl⟩

theorem ZnH (q q':Option Addr) (cp cp':Nat) (xs ys:List Str) (B:Kn) (ha:SlK B q cp 1 Zel xs) (hb:SlK B q' cp' 1 Zel ys):Z1 (pj J) 196 [.slice q xs.length cp,.slice q' ys.length cp'] B (.bool (decide (xs=ys))):=by
 refine cB 26 Tryz.func196 (h:=?_)
 have han:=ha.len
 have hbn:=hb.len
 refine Za (xA (h:=Ze (Za (xM (h:=xV Tryz.underlying134 (h:=xM (h:=xV Tryz.underlying134 (h:=Zaa (h:=Zb rfl (fun g1=>?_) (fun g1=>?_))))))))))
 try simp only [sQ,ne_eq] at g1
 refine Za (xA (h:=Zf (Zj ?_)))
 exact eR t1 ⟨Zc (ZeC g1),rfl,rfl⟩
 try simp only [sQ,ne_eq] at g1
 refine wSk (Ze (Za (xA (h:=Zg (Zv (α:=Nat) [0,1,10] (fun k=>[(5,.int .i64 k)]) [] (fun k=>[]) (fun k Bx=>Bx=B∧k≤xs.length∧xs.take k=ys.take k) (fun k=>xs.length - k) 0 t1 rfl (⟨rfl,Nat.zero_le _,by simp⟩) (fun k B1 hle1 hI=>?_))))))
 obtain ⟨rfl,hk,he⟩:=hI
 refine Zz [(0,_),(1,_),(5,_),(10,_)] [] t4 rfl (Ze (Za (xM (h:=xM (h:=xV Tryz.underlying134 (h:=ZC (h:=Zb rfl (fun g2=>?_) (fun g2=>?_))))))))
 try simp only [sQ,ne_eq] at g2
 refine wSk (Ze (Zg (Ze (ZW (same _ _) mo kr ⟨rfl,rfl⟩ (fun _ _=>?_)))))
 refine aM 0 rfl (h:=aM 1 rfl (h:=?_))
 obtain ⟨x,hx⟩:=ZM (xs:=xs) (i:=k) om
 obtain ⟨bb3,oo3,rfl⟩:=ha.base hx
 obtain ⟨_,⟨rfl,hb4⟩,hc4⟩:=ha.elem hx
 refine aIx 2 rfl Tryz.underlying134 sz9 (h:=aT 3 rfl (Z3 fun D=>Zn rfl rfl lk9 rfl (hc4 _ 0 _ rfl) r4) (h:=aM 4 rfl (h:=aM 5 rfl (h:=?_))))
 obtain ⟨y,hy⟩:=ZM (xs:=ys) (i:=k) om
 obtain ⟨bb6,oo6,rfl⟩:=hb.base hy
 obtain ⟨_,⟨rfl,hb7⟩,hc7⟩:=hb.elem hy
 refine aIx 6 rfl Tryz.underlying134 sz9 (h:=aT 7 rfl (Z3 fun D=>Zn rfl rfl lk9 rfl (hc7 _ 0 _ rfl) r4) (h:=ZwL 8 rfl (h:=Zy kr kr ?_)))
 refine Zm (Zb rfl (fun g3=>?_) (fun g3=>?_))
 try simp only [sQ,ne_eq] at g3
 refine Za (xA (h:=Zf (Zt (Zj (ZJ (Zt (Zj ?_)))))))
 exact eR t1 ⟨Zc (Zdg hx hy g3),rfl,rfl⟩
 try simp only [sQ,ne_eq] at g3
 refine ZK (ZD (Zm (Zd (xM (h:=xD (h:=xA (h:=?_)))))))
 exact Zx (k+1) [] so2 ⟨rfl,oz,ZaZ hx hy g3 he⟩ t4 rfl
 try simp only [sQ,ne_eq] at g2
 refine ZA (ZQ (ZB (Zs (Zm (Za (xA (h:=Zf ?_)))))))
 exact eR t1 ⟨Zc (eqT oz oz he),rfl,rfl⟩

theorem Zu0 (q:Option Addr) (cp:Nat) (xs:List Str) (u:Str) (B:Kn) (ha:SlK B q cp 1 Zel xs):Z1 (pj J) 205 [.slice q xs.length cp,str u] B (.bool (decide (u∈xs))):=by
 refine cB 18 Tryz.func205 (h:=?_)
 have han:=ha.len
 refine Za (xA (h:=Ze (Za (xA (h:=Zg (Zv (α:=Nat) [0,1] (fun k=>[(5,.int .i64 k)]) [] (fun k=>[]) (fun k Bx=>Bx=B∧k≤xs.length∧∀x,x∈xs.take k→x≠u) (fun k=>xs.length - k) 0 t1 rfl (⟨rfl,Nat.zero_le _,by simp⟩) (fun k B1 hle1 hI=>?_)))))))
 obtain ⟨rfl,hk,hn⟩:=hI
 refine Zz [(0,_),(1,_),(5,_)] [] t3 rfl (Ze (Za (xM (h:=xM (h:=xV Tryz.underlying134 (h:=ZC (h:=Zb rfl (fun g1=>?_) (fun g1=>?_))))))))
 try simp only [sQ,ne_eq] at g1
 refine wSk (Ze (Zg (Za (xM (h:=xM (h:=?_))))))
 obtain ⟨x,hx⟩:=ZM (xs:=xs) (i:=k) om
 obtain ⟨bb3,oo3,rfl⟩:=ha.base hx
 obtain ⟨_,⟨rfl,hb4⟩,hc4⟩:=ha.elem hx
 refine xIx Tryz.underlying134 sz9 (h:=y1 lk9 hc4 0 (h:=xM (h:=Zcj (h:=Zb rfl (fun g2=>?_) (fun g2=>?_)))))
 try simp only [sQ,ne_eq] at g2
 refine Za (xA (h:=Zf (Zt (Zj (ZJ (Zt (Zj ?_)))))))
 exact eR t1 ⟨Zc (ZFa hx g2),rfl,rfl⟩
 try simp only [sQ,ne_eq] at g2
 refine ZK (ZD (Zm (Zd (xM (h:=xD (h:=xA (h:=?_)))))))
 exact Zx (k+1) [] so2 ⟨rfl,oz,ZaW hx hn g2⟩ t3 rfl
 try simp only [sQ,ne_eq] at g1
 refine ZA (ZQ (ZB (Zs (Zm (Za (xA (h:=Zf ?_)))))))
 exact eR t1 ⟨Zc (ZFb (Za0 oz hn)),rfl,rfl⟩

theorem ZpK (q:Option Addr) (cp:Nat) (xs:List Str) (B:Kn) (ha:SlK B q cp 1 Zel xs):Z1 (pj J) 165 [.slice q xs.length cp] B (.bool (Zds xs)):=by
 refine cB 29 Tryz.func165 (h:=?_)
 have han:=ha.len
 refine Za (xA (h:=Ze (Za (xA (h:=Zg (Zv (α:=Nat) [0] (fun k=>[(3,.int .i64 k)]) [] (fun k=>[]) (fun k Bx=>Bx=B∧k≤xs.length∧(xs.take k).all Zaj=true∧(xs.take k).Nodup) (fun k=>xs.length - k) 0 t1 rfl (⟨rfl,Nat.zero_le _,by simp,by simp⟩) (fun k B1 hle1 hI=>?_)))))))
 obtain ⟨rfl,hk,hv,hn⟩:=hI
 refine Zz [(0,_),(3,_)] [] t2 rfl (Ze (Za (xM (h:=xM (h:=xV Tryz.underlying134 (h:=ZC (h:=Zb rfl (fun g1=>?_) (fun g1=>?_))))))))
 try simp only [sQ,ne_eq] at g1
 refine wSk (Ze (Zg (Ze (ZW (same _ _) mo kr ⟨rfl,rfl⟩ (fun _ _=>?_)))))
 refine aM 0 rfl (h:=aM 1 rfl (h:=?_))
 obtain ⟨x,hx⟩:=ZM (xs:=xs) (i:=k) om
 obtain ⟨bb3,oo3,rfl⟩:=ha.base hx
 obtain ⟨_,⟨rfl,hb4⟩,hc4⟩:=ha.elem hx
 refine aIx 2 rfl Tryz.underlying134 sz9 (h:=aT 3 rfl (Z3 fun D=>Zn rfl rfl lk9 rfl (hc4 _ 0 _ rfl) r4) (h:=aT 4 rfl (Z3 fun D=>Z5 rfl rfl Zmd rfl (Zca _ om2 _) r4) (h:=?_)))
 refine aN 5 rfl (h:=aM 6 rfl (h:=Zax (d:=16) rfl (fun g2=>?_) (fun g2=>?_)))
 try simp only [sQ,ne_eq] at g2
 refine aZ 7 rfl (h:=aZ 8 rfl (h:=aZ 9 rfl (h:=aZ 10 rfl (h:=aZ 11 rfl (h:=aZ 12 rfl (h:=aZ 13 rfl (h:=aZ 14 rfl (h:=aPT 15 rfl (h:=Zy kr kr ?_)))))))))
 refine Zm (Zb (t:=true) rfl (fun _=>Za (xA (h:=Zf (Zt (Zj (ZJ (Zt (Zj ?_)))))))) (fun h=>Bool.noConfusion h))
 exact eR t1 ⟨Zc (Zhl hx g2),rfl,rfl⟩
 try simp only [sQ,ne_eq] at g2
 refine aM 7 rfl (h:=aM 8 rfl (h:=?_))
 obtain ⟨hq6,q6,cp6,hv6,hr6⟩:=ha.cutE 0 k om om
 have hr6n:=hr6.len
 refine aT 9 rfl (Z3 fun D=>Zn7 (a:=0) (b:=k) hv6 om hq6 rfl rfl Tryz.underlying134 sz9 rfl rfl ⟨_,_,rfl,by first | omega | (simp;done) | (simp;omega)⟩ r4) (h:=?_)
 refine aM 10 rfl (h:=aM 11 rfl (h:=aIx 12 rfl Tryz.underlying134 sz9 (h:=aT 13 rfl (Z3 fun D=>Zn rfl rfl lk9 rfl (hc4 _ 0 _ rfl) r4) (h:=aT 14 rfl (Z3 fun D=>Z5 rfl rfl ZC6 rfl (Zu0 _ _ _ _ _ hr6) r4) (h:=aPF 15 rfl (h:=Zy kr kr ?_))))))
 refine Zm (Zb rfl (fun g3=>?_) (fun g3=>?_))
 try simp only [sQ,ne_eq] at g3
 refine Za (xA (h:=Zf (Zt (Zj (ZJ (Zt (Zj ?_)))))))
 exact eR t1 ⟨Zc (Zhk hx (by simpa using g3)),rfl,rfl⟩
 try simp only [sQ,ne_eq] at g3
 refine ZK (ZD (Zm (Zd (xM (h:=xD (h:=xA (h:=?_)))))))
 exact Zx (k+1) [] so2 ⟨rfl,oz,ZiI hx g2 hv,ZrI hx hn (by simpa using g3)⟩ t2 rfl
 try simp only [sQ,ne_eq] at g1
 refine ZA (ZQ (ZB (Zs (Zm (Za (xM (h:=xV Tryz.underlying134 (h:=Zbd (h:=xA (h:=Zf ?_))))))))))
 exact eR t1 ⟨Zc (Zh8 oz hv hn),rfl,rfl⟩

theorem Zlh (q:Option Addr) (cp:Nat) (x:DLetter) (B:Kn) (ha:SlK B q cp 1 Zel x.to_) (h1:x.fr.length≤2000000) (h2:x.text.length≤2000000):Z1 (pj J) 121 [.agg #[str x.fr,.slice q x.to_.length cp,str x.text]] B (.bool (Zdd x)):=by
 refine cB 23 Tryz.func121 (h:=?_)
 refine Za (xBx [_,_,_] (h:=fun b1=>xA (h:=tL1 (Za (xW Zsx (h:=x1 lk9 0 (h:=xR Zmd rfl (Zca _ om2 _) (h:=?_))))))))
 refine xM (h:=Zq (d:=6) rfl (fun g1=>?_) (fun g1=>?_))
 try simp only [sQ,ne_eq] at g1
 refine xW ZnE (h:=x1 ZgU 0 (h:=xR ZDz rfl (ZpK _ _ _ _ ha) (h:=xT (h:=xM (h:=Zq (d:=11) rfl (fun g2=>?_) (fun g2=>?_))))))
 try simp only [sQ,ne_eq] at g2
 refine xW ZnE (h:=x1 ZgU 0 (h:=xV Tryz.underlying134 (h:=Zc8 (h:=xT (h:=xM (h:=Zq (d:=17) rfl (fun g3=>?_) (fun g3=>?_)))))))
 try simp only [sQ,ne_eq] at g3
 refine xW Zsw (h:=x1 lk9 0 (h:=xVs Tryz.underlying9 (h:=Zbd (h:=xT (h:=xA (h:=Zf ?_))))))
 exact eR t1 ⟨Zc (by rw [Bool.eq_iff_iff];simp [Zdd,g1,g2,g3];try omega),rfl,rfl⟩
 try simp only [sQ,ne_eq] at g3
 refine xP (h:=xP (h:=xP (h:=xP (h:=xF (h:=xA (h:=Zf ?_))))))
 exact eR t1 ⟨Zc (by rw [Bool.eq_iff_iff];simp [Zdd,g1,g2,g3];try omega),rfl,rfl⟩
 try simp only [sQ,ne_eq] at g2
 refine xP (h:=xP (h:=xP (h:=xP (h:=xF (h:=xM (h:=xP (h:=xP (h:=xP (h:=xP (h:=xF (h:=xA (h:=Zf ?_))))))))))))
 exact eR t1 ⟨Zc (by rw [Bool.eq_iff_iff];simp [Zdd,g1,g2];try omega),rfl,rfl⟩
 try simp only [sQ,ne_eq] at g1
 refine xP (h:=xP (h:=xP (h:=xF (h:=xM (h:=xP (h:=xP (h:=xP (h:=xP (h:=xF (h:=xM (h:=xP (h:=xP (h:=xP (h:=xP (h:=xF (h:=xA (h:=Zf ?_)))))))))))))))))
 exact eR t1 ⟨Zc (by rw [Bool.eq_iff_iff];simp [Zdd,g1];try omega),rfl,rfl⟩

theorem ZxU (q:Option Addr) (cp:Nat) (xs:List Str) (v:Str) (B:Kn) (ha:SlK B q cp 1 Zel xs):Z1 (pj J) 281 [.slice q xs.length cp,str v] B (.int .i64 (ZCh xs v)):=by
 refine cB 19 Tryz.func281 (h:=?_)
 have han:=ha.len
 refine Za (xA (h:=Ze (Za (xM (h:=xV Tryz.underlying134 (h:=xM (h:=Zg (Zv (α:=Nat) [0,1,7] (fun k=>[(8,.int .i64 k)]) [] (fun k=>[]) (fun k Bx=>Bx=B∧k≤xs.length∧∀x,x∈xs.take k→decide (x=v)=false) (fun k=>xs.length - k) 0 t1 rfl (⟨rfl,Nat.zero_le _,by simp⟩) (fun k B1 hle1 hI=>?_)))))))))
 obtain ⟨rfl,hk,hn⟩:=hI
 refine Zz [(0,_),(1,_),(7,_),(8,_)] [] t4 rfl (Za (ZC (h:=Ze (Zb rfl (fun g1=>?_) (fun g1=>?_)))))
 try simp only [sQ,ne_eq] at g1
 refine wSk (Ze (Zg (Za (xM (h:=xA (h:=Za (xM (h:=xM (h:=xM (h:=?_))))))))))
 obtain ⟨x,hx⟩:=ZM (xs:=xs) (i:=k) om
 obtain ⟨bb3,oo3,rfl⟩:=ha.base hx
 obtain ⟨_,⟨rfl,hb4⟩,hc4⟩:=ha.elem hx
 refine xIx Tryz.underlying134 sz9 (h:=y1 lk9 hc4 0 (h:=Zcj (h:=Zb rfl (fun g2=>?_) (fun g2=>?_))))
 try simp only [sQ,ne_eq] at g2
 refine Za (xM (h:=xA (h:=Zf (Zt (Zj (ZJ (Zt (Zj ?_))))))))
 exact eR t1 ⟨ZH (Zgs hx (by simp [g2]) hn).symm,rfl,rfl⟩
 try simp only [sQ,ne_eq] at g2
 refine ZK (ZD (Zm (Zd (xD (h:=xM (h:=?_))))))
 exact Zx (k+1) [] so2 ⟨rfl,oz,ZaW hx hn (by simp [Ne.symm g2])⟩ t4 rfl
 try simp only [sQ,ne_eq] at g1
 refine ZA (ZQ (ZB (Zs (Zm (Za (xA (h:=Zf ?_)))))))
 exact eR t1 ⟨ZH (Zec (Za0 oz hn)).symm,rfl,rfl⟩

theorem Zqa (q:Option Addr) (cp:Nat) (xs:List Str) (v:Str) (B:Kn) (ha:SlK B q cp 1 Zel xs):Z1 (pj J) 250 [.slice q xs.length cp,str v] B (.bool (decide (v∈xs))):=by
 refine cB 9 Tryz.func250 (h:=?_)
 refine Za (xA (h:=Za (xM (h:=xM (h:=xR ZCA rfl (ZxU _ _ _ _ _ ha) (h:=Zc9 (h:=xA (h:=Zf ?_))))))))
 exact eR t1 ⟨Zc (by rw [Bool.eq_iff_iff];simp [Zu9]),rfl,rfl⟩

theorem Zm6 (q:Option Addr) (cp:Nat) (xs:List Str) (B:Kn) (ha:SlK B q cp 1 Zel xs):Z1 (pj J) 210 [.slice q xs.length cp] B (.bool (decide (1≤xs.length) && Zds xs)):=by
 refine cB 31 Tryz.func210 (h:=?_)
 have han:=ha.len
 refine Za (xA (h:=Ze (Za (xM (h:=xV Tryz.underlying134 (h:=ZC (h:=xM (h:=Zq (d:=8) rfl (fun g1=>?_) (fun g1=>?_)))))))))
 try simp only [sQ,ne_eq] at g1
 refine xP (h:=xP (h:=xP (h:=xT (h:=Zb (t:=true) rfl (fun _=>Za (xA (h:=Zf (Zj ?_)))) (fun h=>Bool.noConfusion h)))))
 exact eR t1 ⟨Zc (by simp;omega),rfl,rfl⟩
 try simp only [sQ,ne_eq] at g1
 refine xM (h:=xV Tryz.underlying134 (h:=Zc8 (h:=xF (h:=Zb rfl (fun g2=>?_) (fun g2=>?_)))))
 try simp only [sQ,ne_eq] at g2
 refine Za (xA (h:=Zf (Zj ?_)))
 exact eR t1 ⟨Zc (by simp [Zds];omega),rfl,rfl⟩
 try simp only [sQ,ne_eq] at g2
 refine wSk (Ze (Za (xM (h:=xV Tryz.underlying134 (h:=xM (h:=Zg (Zv (α:=Nat) [0,12,13,14] (fun k=>[(15,.int .i64 k)]) [] (fun k=>[]) (fun k Bx=>Bx=B∧k≤xs.length∧(xs.take k).all Zaj=true∧(xs.take k).Nodup) (fun k=>xs.length - k) 0 t1 rfl (⟨rfl,Nat.zero_le _,by simp,by simp⟩) (fun k B1 hle1 hI=>?_))))))))
 obtain ⟨rfl,hk,hv,hn⟩:=hI
 refine Zz [(0,_),(12,_),(13,_),(14,_),(15,_)] [] t5 rfl (Za (ZC (h:=Ze (Zb rfl (fun g3=>?_) (fun g3=>?_)))))
 try simp only [sQ,ne_eq] at g3
 refine wSk (Ze (Zg (Za (xM (h:=?_)))))
 obtain ⟨x,hx⟩:=ZM (xs:=xs) (i:=k) om
 obtain ⟨bb3,oo3,rfl⟩:=ha.base hx
 obtain ⟨_,⟨rfl,hb4⟩,hc4⟩:=ha.elem hx
 refine xIx Tryz.underlying134 sz9 (h:=y1 lk9 hc4 0 (h:=xA (h:=xA (h:=Za (xM (h:=xR Zkz rfl (ZbI _ om2 _) (h:=?_)))))))
 refine xN (h:=xM (h:=Zq (d:=23) rfl (fun g4=>?_) (fun g4=>?_)))
 try simp only [sQ,ne_eq] at g4
 refine xP (h:=xP (h:=xP (h:=xP (h:=xP (h:=xT (h:=Zb (t:=true) rfl (fun _=>Za (xA (h:=Zf (Zt (Zj (ZJ (Zt (Zj ?_)))))))) (fun h=>Bool.noConfusion h)))))))
 exact eR t1 ⟨Zc (by rw [← Zhl hx g4,Bool.and_false]),rfl,rfl⟩
 try simp only [sQ,ne_eq] at g4
 refine xM (h:=xM (h:=?_))
 obtain ⟨hq6,q6,cp6,hv6,hr6⟩:=ha.cutE 0 k om om
 have hr6n:=hr6.len
 refine Zh (Zn7 (a:=0) (b:=k) hv6 om hq6 rfl rfl Tryz.underlying134 sz9 rfl rfl ⟨_,_,rfl,by first | omega | (simp;done) | (simp;omega)⟩ ?_)
 refine xM (h:=xR ZCM rfl (Zqa _ _ _ _ _ hr6) (h:=xF (h:=Zb rfl (fun g5=>?_) (fun g5=>?_))))
 try simp only [sQ,ne_eq] at g5
 refine Za (xA (h:=Zf (Zt (Zj (ZJ (Zt (Zj ?_)))))))
 exact eR t1 ⟨Zc (by rw [← Zhk hx (by simpa using g5),Bool.and_false]),rfl,rfl⟩
 try simp only [sQ,ne_eq] at g5
 refine ZK (ZD (Zm (Zd (xD (h:=xM (h:=?_))))))
 exact Zx (k+1) [] so2 ⟨rfl,oz,ZiI hx g4 hv,ZrI hx hn (by simpa using g5)⟩ t5 rfl
 try simp only [sQ,ne_eq] at g3
 refine ZA (ZQ (ZB (Zs (Zm (Za (xA (h:=Zf ?_)))))))
 exact eR t1 ⟨Zc (by rw [← Zh8 oz hv hn];simp;omega),rfl,rfl⟩

theorem ZlZ (q:Option Addr) (cp:Nat) (x:DLetter) (B:Kn) (ha:SlK B q cp 1 Zel x.to_) (h1:x.fr.length≤2000000) (h2:x.text.length≤2000000):Z1 (pj J) 173 [.agg #[str x.fr,.slice q x.to_.length cp,str x.text]] B (.bool (Zdd x)):=by
 refine cB 17 Tryz.func173 (h:=?_)
 refine Za (xBx [_,_,_] (h:=fun b1=>xA (h:=tL1 (Za (xW Zsx (h:=x1 lk9 0 (h:=xR Zkz rfl (ZbI _ om2 _) (h:=?_))))))))
 refine xM (h:=Zq (d:=6) rfl (fun g1=>?_) (fun g1=>?_))
 refine xW ZnE (h:=x1 ZgU 0 (h:=xR ZC3 rfl (Zm6 _ _ _ _ ha) (h:=xT (h:=xM (h:=Zq (d:=11) rfl (fun g2=>?_) (fun g2=>?_))))))
 refine xW Zsw (h:=x1 lk9 0 (h:=xVs Tryz.underlying9 (h:=Zbd (h:=xT (h:=xA (h:=Zf ?_))))))
 exact eR t1 ⟨Zc (by rw [ZeY];simp [g1,g2]),rfl,rfl⟩
 refine xP (h:=xP (h:=xP (h:=xP (h:=xF (h:=xA (h:=Zf ?_))))))
 exact eR t1 ⟨Zc (by rw [ZeY];simp [g1,g2]),rfl,rfl⟩
 refine xP (h:=xP (h:=xP (h:=xF (h:=xM (h:=xP (h:=xP (h:=xP (h:=xP (h:=xF (h:=xA (h:=Zf ?_)))))))))))
 exact eR t1 ⟨Zc (by rw [ZeY];simp [g1]),rfl,rfl⟩

theorem Zm0 (aq:Option Addr) (cq:Nat) (q:DQueue) (B:Kn) (hq:SlK B aq cq 4 Zar q.items):Z1 (pj J) 72 [.agg #[.int .i64 q.next,.slice aq q.items.length cq]] B (.bool (Zbg q)):=by
 refine cB 48 Tryz.func72 (h:=?_)
 have hqn:=hq.len
 refine Za (xBx [_,_] (h:=fun b1=>xA (h:=tL1 (Za (xA (h:=Ze (Za (xA (h:=Zg (Zv (α:=Nat × Int) [0,1] (fun p=>[(3,.int .i64 p.2),(4,.int .i64 p.1)]) [] (fun p=>[]) (fun p Bx=>Bx=B∧p.1≤q.items.length∧Zd5 0 q.items=Zd5 p.2 (q.items.drop p.1)∧0≤p.2∧p.2≤99) (fun p=>q.items.length - p.1) (0,0) t2 rfl (⟨rfl,Nat.zero_le _,rfl,by decide,by decide⟩) (fun p B2 hle2 hI=>?_)))))))))))
 obtain ⟨rfl,hk,hs,hl0,hl1⟩:=hI
 refine Zz [(0,_),(1,_),(3,_),(4,_)] [_] t4 rfl (Ze (Za (xM (h:=xW Zc7 (h:=x1 ZmC 0 (h:=xV Tryz.underlying37 (h:=ZC (h:=Zb rfl (fun g1=>?_) (fun g1=>?_)))))))))
 try simp only [sQ,ne_eq] at g1
 refine wSk (Ze (Zg (Za (xW Zc7 (h:=x1 ZmC 0 (h:=xM (h:=?_)))))))
 obtain ⟨x,hx⟩:=ZM (xs:=q.items) (i:=p.1) om
 obtain ⟨bb4,oo4,rfl⟩:=hq.base hx
 obtain ⟨_,⟨qi5,ci5,rfl,hi5,hb5,hb5b⟩,hc5⟩:=hq.elem hx
 have hi5n:=hi5.len
 refine xIx Tryz.underlying37 ZcR (h:=?_)
 replace hs:=Zrj hs hx
 refine yL [_,_,_,_] ZfX hc5 0 (h:=xAl [_,_,_,_] ZgF (h:=fun b6=>xS [_,_,_,_] 1 [_,_,_,_] ZcR (h:=tL2 (Ze (Za (xW Ze7 (h:=x1 lk3 1 (h:=xM (h:=xD (h:=xR ZmD rfl (Zc6 _ _ _ _) (h:=xN (h:=xM (h:=Zq (d:=24) rfl (fun g2=>?_) (fun g2=>?_))))))))))))))
 try simp only [sQ,ne_eq] at g2
 refine xP (h:=xP (h:=xP (h:=xP (h:=xP (h:=xP (h:=xP (h:=xP (h:=xP (h:=xT (h:=Zb (t:=true) rfl (fun _=>Za (xA (h:=Zf (Zj (Zt (Zj (ZJ (Zt (Zj ?_))))))))) (fun h=>Bool.noConfusion h)))))))))))
 exact eR t1 ⟨Zc (Zom (by rw [hs,if_neg];intro h;simp [h.1] at g2)),rfl,rfl⟩
 try simp only [sQ,ne_eq] at g2
 simp only [Bool.and_eq_true,decide_eq_true_eq] at g2
 refine xW Ze6 (h:=x1 lk9 1 (h:=xW ZdV (h:=x1 ZgU 1 (h:=xW Zg0 (h:=x1 lk9 1 (h:=xB [(0,_),(1,_),(2,_)] [_,_,_] [_,_,_] ZzF ZyY (h:=xR ZD4 rfl (Zlh _ _ ⟨x.fr,x.left,x.text⟩ _ hi5 oa oa) (h:=?_))))))))
 refine xN (h:=xF (h:=Zb rfl (fun g3=>?_) (fun g3=>?_)))
 try simp only [sQ,ne_eq] at g3
 refine Za (xA (h:=Zf (Zj (Zt (Zj (ZJ (Zt (Zj ?_))))))))
 exact eR t1 ⟨Zc (Zom (by rw [hs,if_neg];intro h;rw [Zgr,g3] at h;cases h.2)),rfl,rfl⟩
 try simp only [sQ,ne_eq] at g3
 refine wSk (Zd (xW Ze7 (h:=x1 lk3 1 (h:=xA (h:=ZD (Zm (Zd (xM (h:=xD (h:=xA (h:=?_)))))))))))
 exact Zx (p.1+1,x.id) [0] so2 ⟨rfl,so,by rw [hs,if_pos ⟨g2,g3⟩],so,so⟩ t4 rfl
 try simp only [sQ,ne_eq] at g1
 rw [Zs8 oz,Zd5] at hs
 refine ZA (ZQ (ZB (Zs (Zm (Za (xW Zhw (h:=x1 lk3 0 (h:=xM (h:=xD (h:=xR ZmD rfl (Zc6 _ _ _ _) (h:=xM (h:=Zq (d:=42) rfl (fun g1=>?_) (fun g1=>?_)))))))))))))
 try simp only [sQ,ne_eq] at g1
 refine xW Zc7 (h:=x1 ZmC 0 (h:=xV Tryz.underlying37 (h:=Zbd (h:=xT (h:=xA (h:=Zf ?_))))))
 exact eR t1 ⟨Zc (by rw [← Zol hs,Bool.eq_iff_iff];simp [g1,g1];try omega),rfl,rfl⟩
 try simp only [sQ,ne_eq] at g1
 refine xP (h:=xP (h:=xP (h:=xP (h:=xF (h:=xA (h:=Zf ?_))))))
 exact eR t1 ⟨Zc (by rw [← Zol hs,Bool.eq_iff_iff];simp [g1,g1];try omega),rfl,rfl⟩

theorem Znw (q:Option Addr) (cp:Nat) (x:DItem) (B:Kn) (hx:SlK B q cp 1 Zel x.left):Zu (pj J) 240 [.agg #[.int .i64 x.id,str x.fr,str x.text,.slice q x.left.length cp]] B [] (fun v B' Ls=>B'=B∧∃ins a c,Ls=[ins]∧v = .agg #[.int .i64 x.id,str x.fr,str x.text,.slice a x.left.length c]∧ZtC 9 ins a c x.left):=by
 refine cB 9 Tryz.func240 (h:=?_)
 have hxn:=hx.len
 refine Za (xBx [_,_,_,_] (h:=fun b1=>xAl [_,_,_,_] ZgF (h:=fun b2=>tL2 (Za (xBs [] [] Tryz.underlying134 sz9 zo9 (h:=fun b3=>xW ZdV (h:=x1 ZgU 0 (h:=Zh (Zn8 (R:=Zel) 2 rfl (ZR.lit0 (R:=Zel)) rfl rfl rfl ZvA Zxj rfl rfl rfl hx.rows Zel.one rfl om (fun l4 p4 c4 hv4=>?_))))))))))
 refine xW ZdV (h:=xS [_] 0 [_,_,_,_] Zzy (h:=tL3 (Za (xL [_,_,_,_] ZfX 0 (h:=xS [_,_,_,_] 1 [_,_,_,_] ZcR (h:=tL3 (Zf ?_)))))))
 exact eN [2] rfl ⟨⟨_,rfl,.inr ⟨[_,_,_,_],ZfX,ZbZ 1 rfl rfl rfl,rfl⟩⟩,trivial⟩ ⟨rfl,_,_,_,rfl,rfl,(hv4).anyK Zel.any⟩

theorem Zqf (q:Option Addr) (m cp:Nat) (B:Kn):Zu (pj J) 239 [.slice q m cp] B [] (fun v B' Ls=>B'=B∧∃b,Ls=[ZP b [.slice q m cp] 37]∧v = .func (.func 263) #[] #[ptr ⟨b,0,none⟩]):=by
 refine cB 4 Tryz.func239 (h:=?_)
 refine Za (xBx [_] (h:=fun b1=>xA (h:=tL1 (Za (Zh (Zdj (xs:=[]) (ys:=[_]) rfl rfl rfl rfl (xA (h:=Zf ?_))))))))
 exact eN [0] rfl t1 ⟨rfl,_,rfl,rfl⟩

theorem ZyM (l bc:Nat) (q:Option Addr) (cp:Nat) (xs:List DItem) (Inv:Nat→Kn→Cells→Prop) (s0:Cells) (B:Kn) (hq:SlK B q cp 4 Zar xs) (hcc:Zam B bc 0 [.slice q xs.length cp]) (h0:Inv xs.length B s0) (hround :∀(j:Nat) (i:Int) (x:DItem) (row:List Value) (B':Kn) (s:Cells),B.le B'→Inv (j+1) B' s→xs[j]? = some x→Zar B' row x→∃lp,(l,Obj.loop lp)∈s∧lp.params.size=2∧ZtE (pj J) l lp.fn (Zmv lp.params lp.tmps [.int .i64 i,.agg row.toArray]) lp.assign lp.body B' s (fun B'' s'=>Inv j B'' s')):Zu (pj J) 263 [.func (.yield l) #[] #[],ptr ⟨bc,0,none⟩] B [s0] (fun v B' Ls=>∃s,Ls=[s]∧Inv 0 B' s):=by
 refine cB 19 Tryz.func263 (h:=?_)
 have hqn:=hq.len
 refine Za (Zh (Zn rfl rfl ZmC rfl (hcc _ 0 _ rfl) (xV Tryz.underlying37 (h:=xU (h:=xA (h:=Zg (Zv (α:=Int × Cells) [0,1] (fun g=>[(3,.int .i64 g.1)]) [0] (fun g=>[g.2]) (fun g Bx=>-1≤g.1∧g.1<xs.length∧Inv (g.1+1).toNat Bx g.2) (fun g=>(g.1+1).toNat) ((xs.length:Int) - 1,s0) t1 rfl (⟨so,so,by rw [show ((xs.length:Int) - 1+1).toNat=xs.length from by omega];exact h0⟩) (fun g B1 hle1 hI=>?_))))))))
 obtain ⟨hk1,hk,hI⟩:=hI
 replace hq:=up1 hle1 hq
 replace hcc:=hcc.mono hle1
 refine Zz [(0,_),(1,_),(3,_)] [_] t3 rfl (Ze (Za (xM (h:=Zc9 (h:=Zb rfl (fun g1=>?_) (fun g1=>?_))))))
 try simp only [sQ,ne_eq] at g1
 refine wSk (Ze (Zg (Za (xM (h:=xM (h:=Zh (Zn rfl rfl ZmC rfl (hcc _ 0 _ rfl) (xM (h:=?_)))))))))
 obtain ⟨x,hx⟩:=Zvq (xs:=xs) (i:=g.1) om om
 obtain ⟨bb3,oo3,rfl⟩:=hq.base hx
 obtain ⟨_,⟨qi4,ci4,rfl,hi4,hb4,hb4b⟩,hc4⟩:=hq.elem hx
 have hi4n:=hi4.len
 refine xIx Tryz.underlying37 ZcR (h:=?_)
 obtain ⟨lp,hl,hs,hr⟩:=hround g.1.toNat g.1 x _ _ g.2 (oy) (by rw [show g.1.toNat+1=(g.1+1).toNat from by omega];exact hI) hx ⟨_,_,rfl,oy,oy,oy⟩
 refine yL [_,_,_,_] ZfX hc4 0 (h:=Zh (Zw0 (j:=0) rfl hl rfl rfl rfl rfl hs.symm hr (fun Bc sc hlec hIc=>xN (h:=tL1 (Zb rfl (fun g2=>by cases g2) (fun g2=>?_))))))
 try simp only [sQ,ne_eq] at g2
 refine ZK (ZD (Zm (Zd (xM (h:=xU (h:=xA (h:=?_)))))))
 exact Zx (g.1 - 1,sc) [0] so2 ⟨so,so,by simp only [];rw [show (g.1 - 1+1).toNat=g.1.toNat from by omega];exact hIc⟩ t3 rfl
 try simp only [sQ,ne_eq] at g1
 refine ZA (ZQ (ZB (Zs ?_)))
 exact Zdh .normal (.inr rfl) [] [0] rfl trivial ⟨_,rfl,by rw [show (g.1+1).toNat=0 from by omega] at hI;exact hI⟩

theorem Zm9 (q:Option Addr) (cp:Nat) (x:DQueue) (B:Kn) (hx:SlK B q cp 4 Zar x.items):Zu (pj J) 188 [.agg #[.int .i64 x.next,.slice q x.items.length cp]] B [] (fun v B' Ls=>∃s,Ls=[s]∧Zg7 9 314 v x.items s):=by
 refine Zmn 17 Tryz.func188 rfl rfl rfl (Nat.le_of_ble_eq_true rfl) ?_
 refine ZeS (xBx [_,_] (h:=fun b1=>xA (h:=ZqY [(0,_),(1,_),(2,_)] [_] t3 rfl (ZeS (xAl [_] ZBc (h:=fun b2=>ZqY [(0,_),(1,_),(2,_),(3,_)] [_,_] t4 rfl (Zzp (ZeS (xW Zc7 (h:=x1 ZmC 0 (h:=xC ZCT rfl (Zqf _ _ _ _) (h:=?_))))))))))))
 rintro _ B3 _ hle3 ⟨rfl,b3,rfl,rfl⟩
 refine ZqY [(0,_),(1,_),(2,_),(3,_),(8,_)] [_,_,_] t5 rfl (Zxd (ZBu 2 rfl (fun B4 hle4 hm4=>?_)))
 replace hx:=up1 hle4 hx
 have hcc:=ZbA hm4
 refine ZBt [1] rfl (Zuf (J:=fun B' L'=>∃v s,L'=[ZP b2 [v] 267,s]∧Zg7 9 314 v x.items s) (cap:=[_]) rfl ZCF (fun lp l hTn hTS hps hasg hbd hst hlp=>?_) (fun r B9 L9 hle9 hJ=>?_))
 refine Zu.mono (ZyM l _ _ _ x.items (fun j B9 s9=>∃v cells,s9.Perm ((l,Obj.loop lp) :: (ZP b2 [v] 267 ++ cells))∧Zg7 9 314 v (x.items.drop j) cells) _ _ hx hcc ⟨.pointer none,[],by simp,by rw [List.drop_length];exact ⟨rfl,rfl⟩⟩ ?_) ?_
 rintro j i y row B9 s9 hle9 ⟨v,cells,hp,hl⟩ hy hrow
 obtain ⟨qy,cy,rfl,hy5,hy6,hy7⟩:=hrow
 have hy5n:=hy5.len
 obtain ⟨p9,rfl⟩:=hl.ptr
 obtain ⟨hA,hN⟩:=Zv0 (a:=9) (b:=10) (x:=.int .i64 i) (y:=.agg #[.int .i64 y.id,str y.fr,str y.text,.slice qy y.left.length cy]) hTS hTn rfl rfl
 refine ⟨lp,hp.mem_iff.2 (List.mem_cons_self ..),by rw [hps];rfl,?_⟩
 rw [hps,hasg,hbd]
 refine Zrl (L:=[ZP b2 [.pointer p9] 267,cells]) (lp:=lp) hN [(3,_),(9,_),(10,_)] (hA.sub t3) (by simpa using hp) hst ?_
 refine Zd (xAl [_,_,_,_] ZgF (h:=fun b4=>xS [_,_,_,_] 3 [_,_,_,_] ZcR (h:=⟨rfl,rfl,rfl,(tL4 (Zg (ZW (keeps _ [1,3] _) mo kr ⟨Kn.le.refl _,ZaH.refl _ _⟩ (fun _ _=>?_))))⟩)))
 refine aT 0 rfl (ZO fun D B L hI=>ZI [_,_,_,_] rfl rfl ZfX rfl (ZbZ 3 (hI.2.2.1.trans rfl) rfl rfl) r4) (h:=aT 2 rfl (ZO fun D B L hI=>Zn rfl rfl ZxM rfl (atL 1 (hI.2.1.trans rfl) rfl rfl) r4) (h:=ZV 1 kr rfl kr (Zb9 rfl rfl ZCS rfl (Znw _ _ y _ hy5) ?_)))
 rintro _ B5 _ hle5 ⟨rfl,ins5,a5,c5,rfl,rfl,hs5⟩
 refine ⟨⟨Kn.le.refl _,t2⟩,(aT 3 rfl (ZO fun D B L hI=>Zcl (parts:=[(0,_),(1,_)]) [_,_,_,_,_] [_,_,_,_,_] rfl rfl ZBL ZBb rfl rfl rfl r4) (h:=ZV 4 kr rfl kr (ZqJ (l:=[_,_,_,_,_]) rfl rfl rfl rfl (fun b6=>?_))))⟩
 refine ⟨⟨Kn.le.refl _,t2⟩,(Zb8 5 kr rfl kr kr kr (Zav [_] 1 [_] rfl rfl ZBy rfl rfl rfl rfl rfl rfl rfl rfl ?_))⟩
 refine ZD (⟨rfl,rfl,(l,Obj.loop lp) :: (ZP b2 [ptr ⟨b6,0,none⟩] 267 ++ (ZP b6 ([.int .i64 y.id,str y.fr,str y.text,.slice a5 y.left.length c5] ++ [.pointer p9]) 314 ++ (ins5 ++ cells))),ZP b4 [.int .i64 y.id,str y.fr,str y.text,.slice qy y.left.length cy] 136,?_,_,_,.refl _,?_⟩)
 refine (Zau [0,1,5,4,2] _ _ _ rfl).trans ?_
 rw [hlp]
 simp [ZP]
 rw [Zs7 hy]
 exact ⟨_,_,_,_,_,rfl,.refl _,⟨_,_,rfl,hs5,oy,oy,oy⟩,hl⟩
 rintro _ B9 _ hle9 ⟨s9,rfl,v,cells,hp,hl⟩
 exact ⟨[ZP b2 [v] 267,cells],_,rfl,by simpa using hp,v,cells,rfl,by simpa using hl⟩
 obtain ⟨v,s9,rfl,hl⟩:=hJ
 refine ZD (Zm (Za (x1 ZxM 0 (h:=xA (h:=tL3 (Zf ?_))))))
 exact ⟨.inl rfl,r,2,rfl,rfl,[_],[_],t1,⟨_,List.perm_append_comm⟩,_,rfl,hl⟩

theorem Zrq (nx:Int) (v:Value) (xs:List DItem) (cells:Cells) (B:Kn) (hn:xs.length≤2000000) (hv:Zg7 9 314 v xs cells):Zu (pj J) 187 [.int .i64 nx,v] B [cells] (fun v B' Ls=>B'=B∧∃l q c,Ls=[l]∧v = .agg #[.int .i64 nx,.slice q xs.length c]∧ZaM l q c 136 4 (ZbE 9) xs):=by
 refine cB 27 Tryz.func187 (h:=?_)
 obtain ⟨p,rfl⟩:=hv.ptr
 refine Za (xAl [_,_] ZyS (h:=fun b1=>tL2 (Za (xM (h:=xBs [] [] Tryz.underlying37 ZcR ZgF (h:=fun b2=>xB [(0,_),(1,_)] [_,_] [_,_] ZE6 ZyS (h:=xAl [_,_] ZyS (h:=fun b3=>xS [_,_] 3 [_,_] Zzs (h:=tL4 (Ze (Za (xM (h:=xA (h:=Zg (Zv (α:=QOf) [0,1,4,5] (fun g=>[(6,.pointer g.p)]) [0,2,3] (fun g=>[g.cells,g.l,ZP b3 [.int .i64 nx,.slice g.q g.ys.length g.c] 39]) (fun g Bx=>Bx=B∧g.ys ++ g.xs=xs∧ZaM g.l g.q g.c 136 4 (ZbE 9) g.ys∧Zg7 9 314 (.pointer g.p) g.xs g.cells) (fun g=>g.xs.length) ⟨p,[],xs,_,_,_,_⟩ t1 rfl (⟨rfl,rfl,.lit0,hv⟩) (fun g B4 hle4 hI=>?_))))))))))))))))
 obtain ⟨rfl,hxs,hvd,hl⟩:=hI
 refine Zz [(0,_),(1,_),(4,_),(5,_),(6,_)] [_,_,_,_] t5 rfl (Ze (Za (xM (h:=Zh (Zwc rfl rfl rfl rfl rfl (Zkx Tryz.underlying267) (Zb rfl (fun g1=>?_) (fun g1=>?_)))))))
 obtain ⟨y,ys,b8,q8,c8,np,ins8,rest8,hp8,hrest,hperm,hy5,hy6,hy7,hy8,hl8⟩:=hl.more (by simpa using g1)
 rw [hp8]
 have hlen:=congrArg List.length hxs
 rw [List.length_append,hrest,List.length_cons] at hlen
 replace hlen:g.ys.length+1≤2000000:=by omega
 refine ZgH 0 rfl hperm (tL6 (wSk (Ze (Zg (ZW (keeps _ [0,3] _) mo kr ⟨Kn.le.refl _,ZaH.refl _ _⟩ (fun _ _=>?_))))))
 refine aW 0 rfl Zc7 (h:=aT 1 rfl (ZO fun D B L hI=>Zn rfl rfl ZmC rfl (atL 3 (hI.2.2.1.trans rfl) rfl rfl) r4) (h:=aM 2 rfl (h:=aNc 3 rfl (h:=aW 4 rfl Zx7 (h:=aT 5 rfl (ZO fun D B L hI=>ZI [_,_,_,_] rfl rfl ZfX rfl (ZbZ 0 (hI.2.1.trans rfl) rfl rfl) r4) (h:=ZV 6 kr rfl kr (ZcP (parts:=[(0,_)]) [_,_,_,_] rfl rfl Tryz.underlying37 ZcR ZgF rfl rfl rfl rfl rfl (fun b5=>?_))))))))
 refine ⟨⟨Kn.le.refl _,t2⟩,(ZV 7 kr rfl kr (Zzj (R:=ZbE 9) (z:=y) 2 4 rfl rfl rfl hvd rfl rfl rfl ZEv ZE0 rfl rfl (ZcX.box 6 rfl) rfl rfl ⟨_,_,rfl,hy5,hy6,hy7,hy8⟩ oz (fun l9 q9 c9 hv9=>?_)))⟩
 refine ⟨⟨Kn.le.refl _,t2⟩,(aW 8 rfl Zc7 (h:=Zb8 9 kr rfl kr kr kr (Zav [_] 3 [_,_] rfl rfl ZEm rfl rfl rfl rfl rfl rfl rfl rfl ?_)))⟩
 refine ZD (Zm (Zd (xM (h:=xNc (h:=xW Zx6 (h:=x1 ZxM 0 (h:=xA (h:=?_))))))))
 exact Zx ⟨np,g.ys ++ [y],ys,l9,q9,c9,rest8⟩ [5,1,2,3] (by rw [hrest];simp) ⟨rfl,by rw [← hxs,hrest];simp,hv9,hl8⟩ t5 rfl
 rw [hl.done (by simpa using g1),List.append_nil] at hxs
 subst hxs
 refine ZA (ZQ (ZB (Zs (Zm (Za (xL [_,_] Zqn 3 (h:=xS [_,_] 1 [_,_] Zzs (h:=tL4 (Zf ?_)))))))))
 exact eN [2] rfl ⟨⟨_,rfl,.inr ⟨[_,_],Zqn,ZbZ 1 rfl rfl rfl,rfl⟩⟩,trivial⟩ ⟨rfl,_,_,_,rfl,rfl,hvd⟩

theorem Zlp (q:Option Addr) (cp:Nat) (x:DQueue) (B:Kn) (hx:SlK B q cp 4 Zar x.items):Zu (pj J) 143 [.agg #[.int .i64 x.next,.slice q x.items.length cp]] B [] (fun v B' Ls=>∃l q c,Ls=[l]∧v = .agg #[.int .i64 x.next,.slice q x.items.length c]∧ZaM l q c 136 4 (ZbE 9) x.items):=by
 refine cB 8 Tryz.func143 (h:=?_)
 have hxn:=hx.len
 refine Za (xBx [_,_] (h:=fun b1=>xAl [_,_] ZyS (h:=fun b2=>tL2 (Ze (ZW (keeps _ [0] _) mo kr ⟨Kn.le.refl _,ZaH.refl _ _⟩ (fun _ _=>?_))))))
 refine aW 0 rfl Zhw (h:=aT 1 rfl (ZO fun D B L hI=>Zn rfl rfl lk3 rfl (atL 0 (hI.2.1.trans rfl) rfl rfl) r4) (h:=aT 2 rfl (ZO fun D B L hI=>ZI [_,_] rfl rfl Zqn rfl (ZbZ 0 (hI.2.1.trans rfl) rfl rfl) r4) (h:=ZV 3 kr rfl kr (Zb9 rfl rfl ZDj rfl (Zm9 _ _ x _ hx) ?_))))
 rintro _ B3 _ hle3 ⟨sl3,rfl,hl3⟩
 refine ⟨⟨hle3,t1⟩,(ZV 4 kr rfl kr (Zbx [2] rfl rfl rfl rfl ZDk rfl (Zrq _ _ _ _ _ oa hl3) ?_))⟩
 rintro _ B4 _ hle4 ⟨rfl,ld4,ad4,cd4,rfl,rfl,hd4⟩
 refine ⟨⟨hle3,t1⟩,(Zb8 5 kr rfl kr kr kr (Zav [_,_] 1 [_,_] rfl rfl Zzs rfl rfl rfl rfl rfl rfl rfl rfl ?_))⟩
 refine Zm (tL3 (Zf ?_))
 exact eN [2] rfl ⟨⟨_,rfl,.inr ⟨[_,_],Zqn,ZbZ 1 rfl rfl rfl,rfl⟩⟩,trivial⟩ ⟨_,_,_,rfl,rfl,hd4⟩

theorem Zsh (q:Option Addr) (m cp:Nat) (B:Kn):Z1 (pj J) 322 [.slice q m cp] B (.int .i64 m):=by
 refine cB 5 Tryz.func322 (h:=?_)
 refine Za (xA (h:=Za (xM (h:=xV Tryz.underlying285 (h:=xA (h:=Zf ?_))))))
 exact eR t1 ⟨rfl,rfl,rfl⟩

theorem Zgu (q:Option Addr) (cp:Nat) (xs:List Int) (i j:Nat) (a b:Int) (hi:xs[i]? = some a) (hj:xs[j]? = some b) (B:Kn) (hx:SlK B q cp 1 Z9 xs):Z1 (pj J) 323 [.slice q xs.length cp,.int .i64 i,.int .i64 j] B (.bool (decide (a<b))):=by
 refine cB 16 Tryz.func323 (h:=?_)
 have hil:=ZbV hi
 have hjl:=ZbV hj
 refine Za (xA (h:=Ze (ZW (same _ _) mo kr ⟨rfl,rfl⟩ (fun _ _=>?_))))
 refine aM 0 rfl (h:=aM 1 rfl (h:=?_))
 obtain ⟨z,hz⟩:=ZM (xs:=xs) (i:=i) om
 obtain ⟨bb2,oo2,rfl⟩:=hx.base hz
 obtain ⟨_,rfl,hc3⟩:=hx.elem hz
 refine aIx 2 rfl Tryz.underlying58 sz3 (h:=aT 3 rfl (Z3 fun D=>Zn rfl rfl lk3 rfl (hc3 _ 0 _ rfl) r4) (h:=aM 4 rfl (h:=aM 5 rfl (h:=?_))))
 obtain ⟨w,hw⟩:=ZM (xs:=xs) (i:=j) om
 obtain ⟨_,rfl,hc5⟩:=hx.elem hw
 refine aIx 6 rfl Tryz.underlying58 sz3 (h:=?_)
 rw [hi] at hz
 cases hz
 rw [hj] at hw
 cases hw
 refine aT 7 rfl (Z3 fun D=>Zn rfl rfl lk3 rfl (hc5 _ 0 _ rfl) r4) (h:=Zty 8 rfl (h:=aA 9 rfl (h:=Zy kr kr ?_)))
 refine Zm (Zf ?_)
 exact eR t1 ⟨rfl,rfl,rfl⟩

theorem Zva (b:Nat) (q:Option Addr) (cp:Nat) (xs:List Int) (l:Cells) (z:Int) (hn:xs.length≤2000000) (B:Kn) (hv:ZR B l q cp 3 1 Z9 xs):Zu (pj J) 325 [ptr ⟨b,0,none⟩,.iface 3 (.int .i64 z)] B [ZP b [.slice q xs.length cp] 285,l] (fun v B' Ls=>B'=B∧∃q' c' l',Ls=[ZP b [.slice q' (xs ++ [z]).length c'] 285,l']∧ZR B l' q' c' 3 1 Z9 (xs ++ [z])):=by
 refine cB 13 Tryz.func325 (h:=?_)
 refine ZW (keeps _ [0] _) mo kr ⟨Kn.le.refl _,ZaH.refl _ _⟩ (fun _ _=>?_)
 refine aM 0 rfl (h:=aM 1 rfl (h:=aNc 2 rfl (h:=aT 3 rfl (ZO fun D B L hI=>Zn rfl rfl Zft rfl (atL 0 (hI.2.1.trans rfl) rfl rfl) r4) (h:=aM 4 rfl (h:=aT 5 rfl (ZO fun D B L hI=>ZkY rfl rfl Tryz.underlying3 rfl rfl r4) (h:=ZV 6 kr rfl kr (ZcP (parts:=[(0,_)]) [_] rfl rfl Tryz.underlying58 sz3 zo3 rfl rfl rfl rfl rfl (fun b1=>?_))))))))
 refine ⟨⟨Kn.le.refl _,t1⟩,(ZV 7 kr rfl kr (ZkZ (z:=z) (R:=Z9) 1 rfl hv rfl rfl rfl ZCn ZBI rfl rfl (ZcX.box 2 rfl) rfl rfl (rfl) om (fun l2 p2 c2 hv2=>?_)))⟩
 refine ⟨⟨Kn.le.refl _,t1⟩,(aNc 8 rfl (h:=Zb8 9 kr rfl kr kr kr (Zav [_] 0 [_] rfl rfl Zzt rfl rfl rfl rfl rfl rfl rfl rfl ?_)))⟩
 exact Zdh .normal (.inr rfl) [] [0,1] rfl trivial ⟨rfl,_,_,_,rfl,hv2⟩

theorem ZxY (b:Nat) (q:Option Addr) (cp:Nat) (xs:List Int) (l:Cells) (z:Int) (hz:xs[xs.length - 1]? = some z) (hn:xs.length≤2000000) (B:Kn) (hv:ZR B l q cp 3 1 Z9 xs):Zu (pj J) 324 [ptr ⟨b,0,none⟩] B [ZP b [.slice q xs.length cp] 285,l] (fun v B' Ls=>B'=B∧v = .iface 3 (.int .i64 z)∧Ls=[ZP b [.slice q (xs.length - 1) cp] 285,l]∧ZR B l q cp 3 1 Z9 (xs.take (xs.length - 1))):=by
 refine cB 25 Tryz.func324 (h:=?_)
 have hl1:=ZbV hz
 have hcp:=hv.cap
 have hv9:=hv.take (k:=xs.length - 1) oz
 have hs0:=hv.slice0 (sz:=1)
 refine Za (xA (h:=Za (xM (h:=xNc (h:=x1 Zft 0 (h:=xV Tryz.underlying285 (h:=Zh (ZiO (r:=((xs.length - 1:Nat):Int)) rfl rfl rfl rfl (by rw [show ((xs.length:Int) - 1)=((xs.length - 1:Nat):Int) from by omega];exact Zb2 oz oz) ?_))))))))
 refine xA (h:=Za (xM (h:=xNc (h:=x1 Zft 0 (h:=xM (h:=?_))))))
 obtain ⟨w,hw⟩:=ZM (xs:=xs) (i:=(xs.length - 1)) om
 obtain ⟨bb2,_,hp2,rfl,hw2,hc2⟩:=hv.row hw
 refine xIp hp2 Tryz.underlying58 sz3 (h:=?_)
 rw [hz] at hw
 cases hw
 refine Zh (Zn rfl rfl lk3 rfl (hc2 _ 1 rfl 0 _ rfl) (xA (h:=Za (xM (h:=xM (h:=xNc (h:=x1 Zft 0 (h:=xM (h:=Zh (Zn1 rfl rfl Tryz.underlying58 sz3 rfl (a:=0) (b:=xs.length - 1) rfl ⟨_,_,rfl,rfl⟩ oz oz ?_))))))))))
 rw [hs0]
 refine xNc (h:=xS [_] 0 [_] Zzt (h:=tL2 (Za (xM (h:=Zh (ZaU rfl rfl Tryz.underlying3 rfl rfl (xA (h:=Zf ?_))))))))
 exact eN [0,1] rfl t1 ⟨rfl,rfl,rfl,hv9⟩

theorem Zgt (q:Option Addr) (cp:Nat) (xs:List Int) (l:Cells) (i j:Nat) (a b:Int) (hi:xs[i]? = some a) (hj:xs[j]? = some b) (hn:xs.length≤2000000) (B:Kn) (hv:ZR B l q cp 3 1 Z9 xs):Zu (pj J) 326 [.slice q xs.length cp,.int .i64 i,.int .i64 j] B [l] (fun v B' Ls=>B'=B∧∃l',Ls=[l']∧ZR B l' q cp 3 1 Z9 ((xs.set i b).set j a)):=by
 refine cB 20 Tryz.func326 (h:=?_)
 have hil:=ZbV hi
 have hjl:=ZbV hj
 refine ZW (keeps _ [0] _) mo kr ⟨Kn.le.refl _,ZaH.refl _ _⟩ (fun _ _=>?_)
 refine aM 0 rfl (h:=aM 1 rfl (h:=aM 2 rfl (h:=aM 3 rfl (h:=aM 4 rfl (h:=aM 5 rfl (h:=?_))))))
 obtain ⟨y,hy⟩:=ZM (xs:=xs) (i:=j) om
 obtain ⟨bb2,_,hp2,rfl,hw2,hc2⟩:=hv.row hy
 refine aT 6 rfl (ZO fun D B L hI=>ZgI hp2 rfl rfl Tryz.underlying58 sz3 rfl rfl om om r4) (h:=?_)
 refine aT 7 rfl (ZO fun D B L hI=>Zn rfl rfl lk3 rfl (hc2 _ 0 (hI.2.1.trans rfl) 0 _ rfl) r4) (h:=aM 8 rfl (h:=aM 9 rfl (h:=?_)))
 obtain ⟨x,hx⟩:=ZM (xs:=xs) (i:=i) om
 obtain ⟨bb4,_,hp4,rfl,hw4,hc4⟩:=hv.row hx
 refine aT 10 rfl (ZO fun D B L hI=>ZgI hp4 rfl rfl Tryz.underlying58 sz3 rfl rfl om om r4) (h:=?_)
 refine aT 11 rfl (ZO fun D B L hI=>Zn rfl rfl lk3 rfl (hc4 _ 0 (hI.2.1.trans rfl) 0 _ rfl) r4) (h:=?_)
 obtain ⟨bb5,_,hp5,rfl,hw5,hc5⟩:=hv.row hx
 refine aT 12 rfl (ZO fun D B L hI=>ZgI hp5 rfl rfl Tryz.underlying58 sz3 rfl rfl om om r4) (h:=?_)
 refine Zf4 13 kr rfl kr kr (Zf9 (k:=i) (off:=0) (y) [_] 0 hv hp5 hx rfl rfl sz3 rfl rfl rfl rfl rfl rfl ((fun row h=>by cases h;rfl)) (fun l6 hv6=>?_))
 obtain ⟨w,hw⟩:=ZM (xs:=(xs.set i (y))) (i:=j) om
 obtain ⟨bb8,_,hp8,rfl,hw8,hc8⟩:=hv6.row hw
 refine aT 14 rfl (ZO fun D B L hI=>ZgI hp8 rfl rfl Tryz.underlying58 sz3 rfl rfl om om r4) (h:=?_)
 refine Zb8 15 kr rfl kr kr kr (Zf9 (k:=j) (off:=0) (x) [_] 0 hv6 hp8 hw rfl rfl sz3 rfl rfl rfl rfl rfl rfl ((fun row h=>by cases h;rfl)) (fun l9 hv9=>?_))
 rw [hi] at hx
 cases hx
 rw [hj] at hy
 cases hy
 exact Zdh .normal (.inr rfl) [] [0] rfl trivial ⟨rfl,_,rfl,hv9⟩

theorem Zvg (b:Nat) (q:Option Addr) (cp:Nat) (xs:List Int) (l:Cells) (j:Nat) (hj:j<xs.length) (hn:xs.length≤2000000) (hh:Zf5 xs j) (B:Kn) (hv:ZR B l q cp 3 1 Z9 xs):Zu (pj J) 251 [.iface 284 (ptr ⟨b,0,none⟩),.int .i64 j] B [ZP b [.slice q xs.length cp] 285,l] (fun v B' Ls=>B'=B∧∃ys l',Ls=[ZP b [.slice q ys.length cp] 285,l']∧ZR B l' q cp 3 1 Z9 ys∧ys.Perm xs∧ZdD ys):=by
 refine cB 23 Tryz.func251 (h:=?_)
 refine Zg (Zv (α:=Nat × List Int × Cells) [0] (fun g=>[(1,.int .i64 g.1)]) [0,1] (fun g=>[ZP b [.slice q g.2.1.length cp] 285,g.2.2]) (fun g Bx=>Bx=B∧g.1<g.2.1.length∧g.2.1.Perm xs∧Zf5 g.2.1 g.1∧ZR B g.2.2 q cp 3 1 Z9 g.2.1) (fun g=>g.1) (j,xs,l) t1 rfl (⟨rfl,hj,.refl _,hh,hv⟩) (fun g B1 hle1 hI=>?_))
 obtain ⟨rfl,hk,hp,hb,hv⟩:=hI
 have hpl:=hp.length_eq
 refine Zz [(0,_),(1,_)] [_,_] t2 rfl (Zg (Za (xM (h:=Zh (ZiO rfl rfl rfl rfl (Zb2 oz oz) ?_)))))
 refine Zh (Zo4 (r:=(((g.1 - 1) / 2:Nat):Int)) rfl rfl rfl rfl oz (by rw [show Int.tdiv ((g.1:Int) - 1) 2=(((g.1 - 1) / 2:Nat):Int) from ZBq g.1];exact Zb2 oz oz) ?_)
 refine xA (h:=Ze (Za (xM (h:=xM (h:=Z2 (h:=xM (h:=Zq (d:=11) rfl (fun g1=>?_) (fun g1=>?_))))))))
 try simp only [sQ,ne_eq] at g1
 refine xP (h:=xP (h:=xP (h:=xP (h:=xP (h:=xT (h:=Zb (t:=true) rfl (fun _=>ZA (ZQ (Zfh rfl (ZB (Zs ?_))))) (fun h=>Bool.noConfusion h)))))))
 exact Zdh .normal (.inr rfl) [] [0,1] rfl trivial ⟨rfl,_,_,rfl,hv,hp,Zw4 (by rw [show g.1=0 from by omega] at hb;exact hb)⟩
 try simp only [sQ,ne_eq] at g1
 refine xM (h:=xM (h:=xM (h:=Zh (ZfI 1 rfl rfl rfl Zs5 rfl rfl (Zbj Zea Tryz.underlying284 Zft (atL 0 rfl rfl rfl)) (Z1.borrow fun hm2=>Zgu _ _ _ _ _ _ _ (ZaV oz) (ZaV oz) _ (hv.lend Z9.mono hm2 om)) ?_))))
 refine xN (h:=xF (h:=Zb rfl (fun g2=>?_) (fun g2=>?_)))
 try simp only [sQ,ne_eq] at g2
 refine ZA (ZQ (Zfh rfl (ZB (Zs ?_))))
 exact Zdh .normal (.inr rfl) [] [0,1] rfl trivial ⟨rfl,_,_,rfl,hv,hp,Zw6 hb (by simpa using g2)⟩
 try simp only [sQ,ne_eq] at g2
 refine wSk (Za (xM (h:=xM (h:=xM (h:=Zh (Zhe [1] rfl rfl rfl rfl Zs4 rfl rfl (Zbj Zd9 Tryz.underlying284 Zft (atL 0 rfl rfl rfl)) (Zgt _ _ _ _ _ _ _ _ (ZaV oz) (ZaV oz) oz _ hv) ?_))))))
 rintro _ B3 _ hle3 ⟨rfl,l3,rfl,hv3⟩
 refine tL2 (Zd (xM (h:=xA (h:=ZD ?_))))
 rw [← Zdp g.2.1 ((g.1 - 1) / 2) g.1]
 exact Zx ((g.1 - 1) / 2,(swp g.2.1 ((g.1 - 1) / 2) g.1),l3) [0,1] (so) ⟨rfl,by have:=Zdp g.2.1 ((g.1 - 1) / 2) g.1;simp only [];omega,(Zgf oz oz).trans hp,Zw5 oz oz hb (by simpa using g2),hv3⟩ t2 rfl

theorem ZpW (b:Nat) (q:Option Addr) (cp:Nat) (xs:List Int) (l:Cells) (z:Int) (hn:xs.length<2000000) (hh:ZdD xs) (B:Kn) (hv:ZR B l q cp 3 1 Z9 xs):Zu (pj J) 211 [.iface 284 (ptr ⟨b,0,none⟩),.iface 3 (.int .i64 z)] B [ZP b [.slice q xs.length cp] 285,l] (fun v B' Ls=>B'=B∧∃q' c' ys l',Ls=[ZP b [.slice q' ys.length c'] 285,l']∧ZR B l' q' c' 3 1 Z9 ys∧ys.Perm (xs ++ [z])∧ZdD ys):=by
 refine cB 12 Tryz.func211 (h:=?_)
 refine Za (xM (h:=xM (h:=Zh (Zhe [0,1] rfl rfl rfl rfl ZCw rfl rfl (Zl6 ZpA Tryz.underlying284) (Zva _ _ _ _ _ _ oz _ hv) ?_))))
 rintro _ B1 _ hle1 ⟨rfl,q1,c1,l1,rfl,hv1⟩
 refine tL2 (Zd (xM (h:=xM (h:=Zh (ZfI 1 rfl rfl rfl ZAs rfl rfl (Zbj ZlC Tryz.underlying284 Zft (atL 0 rfl rfl rfl)) (Z1.borrow fun hm2=>Zsh _ _ _ _) (Zh (ZiO (r:=((xs.length:Nat):Int)) rfl rfl rfl rfl ((congrArg _ (show _=((xs.length:Nat):Int) from by rw [List.length_append,List.length_singleton];omega)).trans (Zb2 oz oz)) ?_)))))))
 refine xK [0,1] rfl ZCL rfl (Zvg _ _ _ _ _ _ (by simp) (by simp;omega) (Zuv hh) _ hv1) (h:=?_)
 rintro _ Bu _ hleu ⟨rfl,ysu,lu,rfl,hvu,hpu,hhu⟩
 exact Zdh .normal (.inr rfl) [] [0,1] rfl trivial ⟨rfl,_,_,_,_,rfl,hvu,hpu,hhu⟩

theorem ZpY (b:Nat) (q:Option Addr) (cp:Nat) (xs:List Int) (l:Cells) (m:Nat) (hm:m≤xs.length) (hm0:0<xs.length) (hn:xs.length≤2000000) (hh:Zfb xs m 0) (B:Kn) (hv:ZR B l q cp 3 1 Z9 xs):Zu (pj J) 252 [.iface 284 (ptr ⟨b,0,none⟩),.int .i64 0,.int .i64 m] B [ZP b [.slice q xs.length cp] 285,l] (fun v B' Ls=>B'=B∧∃ys l',Ls=[ZP b [.slice q ys.length cp] 285,l']∧ZR B l' q cp 3 1 Z9 ys∧ys.Perm xs∧Zv6 ys m∧(∀k,m≤k→hat ys k=hat xs k)):=by
 refine cB 48 Tryz.func252 (h:=?_)
 refine Za (xA (h:=Za (xM (h:=xA (h:=Ze (Zg (Zv (α:=Nat × List Int × Cells) [0,1,2,6] (fun g=>[(7,.int .i64 g.1)]) [0,1] (fun g=>[ZP b [.slice q g.2.1.length cp] 285,g.2.2]) (fun g Bx=>Bx=B∧g.1<g.2.1.length∧g.2.1.Perm xs∧Zfb g.2.1 m g.1∧(∀k,m≤k→hat g.2.1 k=hat xs k)∧ZR B g.2.2 q cp 3 1 Z9 g.2.1) (fun g=>xs.length - g.1) (0,xs,l) t1 rfl (⟨rfl,hm0,.refl _,hh,fun _ _=>rfl,hv⟩) (fun g B1 hle1 hI=>?_))))))))
 obtain ⟨rfl,hk,hp,hb,hs,hv⟩:=hI
 have hpl:=hp.length_eq
 refine Zz [(0,_),(1,_),(2,_),(6,_),(7,_)] [_,_] t5 rfl (Zg (Za (xM (h:=Zh (ZjF (r:=((2*g.1:Nat):Int)) rfl rfl rfl rfl ((congrArg _ (show _=((2*g.1:Nat):Int) from by omega)).trans (Zb2 oz oz)) ?_)))))
 refine Zh (ZeM (r:=((2*g.1+1:Nat):Int)) rfl rfl rfl rfl ((congrArg _ (show _=((2*g.1+1:Nat):Int) from by omega)).trans (Zb2 oz oz)) ?_)
 refine xA (h:=Ze (Za (xM (h:=xM (h:=Zc9 (h:=xM (h:=Zq (d:=18) rfl (fun g1=>?_) (fun g1=>?_))))))))
 try simp only [sQ,ne_eq] at g1
 refine xP (h:=xP (h:=xT (h:=Zb (t:=true) rfl (fun _=>ZA (ZQ (Zfh rfl (ZB (Zs (Zm (Za (xM (h:=xM (h:=Zc8 (h:=xA (h:=Zf ?_)))))))))))) (fun h=>Bool.noConfusion h))))
 exact eN [0,1] rfl t1 ⟨rfl,_,_,rfl,hv,hp,Zs9 hb oz,hs⟩
 try simp only [sQ,ne_eq] at g1
 refine xM (h:=ZC (h:=xF (h:=Zb rfl (fun g2=>by have:=of_decide_eq_true g2;omega) (fun g2=>?_))))
 try simp only [sQ,ne_eq] at g2
 refine wSk (Za (xM (h:=xA (h:=Ze (Za (xM (h:=Zh (ZeM (r:=((2*g.1+1+1:Nat):Int)) rfl rfl rfl rfl ((congrArg _ (show _=((2*g.1+1+1:Nat):Int) from by omega)).trans (Zb2 oz oz)) ?_))))))))
 refine xA (h:=Za (xM (h:=xM (h:=ZC (h:=xM (h:=Zq (d:=28) rfl (fun g3=>?_) (fun g3=>?_)))))))
 try simp only [sQ,ne_eq] at g3
 refine xM (h:=xM (h:=xM (h:=Zh (ZfI 1 rfl rfl rfl Zs5 rfl rfl (Zbj Zea Tryz.underlying284 Zft (atL 0 rfl rfl rfl)) (Z1.borrow fun hm2=>Zgu _ _ _ _ _ _ _ (ZaV oz) (ZaV oz) _ (hv.lend Z9.mono hm2 om)) ?_))))
 refine xT (h:=Zb rfl (fun g4=>?_) (fun g4=>?_))
 try simp only [sQ,ne_eq] at g4
 refine Zd (xM (h:=xA (h:=Zm (Ze (Za (xM (h:=xM (h:=xM (h:=Zh (ZfI 1 rfl rfl rfl Zs5 rfl rfl (Zbj Zea Tryz.underlying284 Zft (atL 0 rfl rfl rfl)) (Z1.borrow fun hm3=>Zgu _ _ _ _ _ _ _ (ZaV oz) (ZaV oz) _ (hv.lend Z9.mono hm3 om)) ?_))))))))))
 refine xN (h:=Zb rfl (fun g5=>?_) (fun g5=>?_))
 try simp only [sQ,ne_eq] at g5
 refine ZA (ZQ (Zfh rfl (ZB (Zs (Zm (Za (xM (h:=xM (h:=Zc8 (h:=xA (h:=Zf ?_)))))))))))
 exact eN [0,1] rfl t1 ⟨rfl,_,_,rfl,hv,hp,ZiA hb (by intro k h0 hk he;(try simp only [decide_eq_true_eq,decide_eq_false_iff_not,Bool.not_eq_true',Bool.not_eq_false',Int.not_lt] at *);rcases (show k=2*g.1+1∨k=2*g.1+1+1 from by omega) with rfl | rfl <;> omega),hs⟩
 try simp only [sQ,ne_eq] at g5
 refine wSk (Za (xM (h:=xM (h:=xM (h:=Zh (Zhe [1] rfl rfl rfl rfl Zs4 rfl rfl (Zbj Zd9 Tryz.underlying284 Zft (atL 0 rfl rfl rfl)) (Zgt _ _ _ _ _ _ _ _ (ZaV oz) (ZaV oz) oz _ hv) ?_))))))
 rintro _ B4 _ hle4 ⟨rfl,l4,rfl,hv4⟩
 refine tL2 (Zd (xM (h:=xA (h:=ZD ?_))))
 rw [← Zdp g.2.1 g.1 (2*g.1+1+1)]
 have h5:hat g.2.1 (2*g.1+1+1)<hat g.2.1 g.1:=by simpa using g5
 exact Zx (2*g.1+1+1,(swp g.2.1 g.1 (2*g.1+1+1)),l4) [0,1] (so) ⟨rfl,by have:=Zdp g.2.1 g.1 (2*g.1+1+1);simp only [];omega,(Zgf oz oz).trans hp,Ziz oz oz oz oz hb (by intro k h0 hk he;(try simp only [decide_eq_true_eq,decide_eq_false_iff_not,Bool.not_eq_true',Bool.not_eq_false',Int.not_lt] at *);rcases (show k=2*g.1+1∨k=2*g.1+1+1 from by omega) with rfl | rfl <;> omega) h5,(fun k hk=>by rw [Ze1 oz oz,if_neg oz,if_neg oz];exact hs k hk),hv4⟩ t5 rfl
 try simp only [sQ,ne_eq] at g4
 refine wSk (Ze (Za (xM (h:=xM (h:=xM (h:=Zh (ZfI 1 rfl rfl rfl Zs5 rfl rfl (Zbj Zea Tryz.underlying284 Zft (atL 0 rfl rfl rfl)) (Z1.borrow fun hm5=>Zgu _ _ _ _ _ _ _ (ZaV oz) (ZaV oz) _ (hv.lend Z9.mono hm5 om)) ?_)))))))
 refine xN (h:=Zb rfl (fun g5=>?_) (fun g5=>?_))
 try simp only [sQ,ne_eq] at g5
 refine ZA (ZQ (Zfh rfl (ZB (Zs (Zm (Za (xM (h:=xM (h:=Zc8 (h:=xA (h:=Zf ?_)))))))))))
 exact eN [0,1] rfl t1 ⟨rfl,_,_,rfl,hv,hp,ZiA hb (by intro k h0 hk he;(try simp only [decide_eq_true_eq,decide_eq_false_iff_not,Bool.not_eq_true',Bool.not_eq_false',Int.not_lt] at *);rcases (show k=2*g.1+1∨k=2*g.1+1+1 from by omega) with rfl | rfl <;> omega),hs⟩
 try simp only [sQ,ne_eq] at g5
 refine wSk (Za (xM (h:=xM (h:=xM (h:=Zh (Zhe [1] rfl rfl rfl rfl Zs4 rfl rfl (Zbj Zd9 Tryz.underlying284 Zft (atL 0 rfl rfl rfl)) (Zgt _ _ _ _ _ _ _ _ (ZaV oz) (ZaV oz) oz _ hv) ?_))))))
 rintro _ B6 _ hle6 ⟨rfl,l6,rfl,hv6⟩
 refine tL2 (Zd (xM (h:=xA (h:=ZD ?_))))
 rw [← Zdp g.2.1 g.1 (2*g.1+1)]
 have h5:hat g.2.1 (2*g.1+1)<hat g.2.1 g.1:=by simpa using g5
 exact Zx (2*g.1+1,(swp g.2.1 g.1 (2*g.1+1)),l6) [0,1] (so) ⟨rfl,by have:=Zdp g.2.1 g.1 (2*g.1+1);simp only [];omega,(Zgf oz oz).trans hp,Ziz oz oz oz oz hb (by intro k h0 hk he;(try simp only [decide_eq_true_eq,decide_eq_false_iff_not,Bool.not_eq_true',Bool.not_eq_false',Int.not_lt] at *);rcases (show k=2*g.1+1∨k=2*g.1+1+1 from by omega) with rfl | rfl <;> omega) h5,(fun k hk=>by rw [Ze1 oz oz,if_neg oz,if_neg oz];exact hs k hk),hv6⟩ t5 rfl
 try simp only [sQ,ne_eq] at g3
 refine xP (h:=xP (h:=xP (h:=xP (h:=xF (h:=Zb (t:=false) rfl (fun h=>Bool.noConfusion h) (fun _=>wSk (Ze (Za (xM (h:=xM (h:=xM (h:=Zh (ZfI 1 rfl rfl rfl Zs5 rfl rfl (Zbj Zea Tryz.underlying284 Zft (atL 0 rfl rfl rfl)) (Z1.borrow fun hm7=>Zgu _ _ _ _ _ _ _ (ZaV oz) (ZaV oz) _ (hv.lend Z9.mono hm7 om)) ?_)))))))))))))
 refine xN (h:=Zb rfl (fun g5=>?_) (fun g5=>?_))
 try simp only [sQ,ne_eq] at g5
 refine ZA (ZQ (Zfh rfl (ZB (Zs (Zm (Za (xM (h:=xM (h:=Zc8 (h:=xA (h:=Zf ?_)))))))))))
 exact eN [0,1] rfl t1 ⟨rfl,_,_,rfl,hv,hp,ZiA hb (by intro k h0 hk he;(try simp only [decide_eq_true_eq,decide_eq_false_iff_not,Bool.not_eq_true',Bool.not_eq_false',Int.not_lt] at *);rcases (show k=2*g.1+1∨k=2*g.1+1+1 from by omega) with rfl | rfl <;> omega),hs⟩
 try simp only [sQ,ne_eq] at g5
 refine wSk (Za (xM (h:=xM (h:=xM (h:=Zh (Zhe [1] rfl rfl rfl rfl Zs4 rfl rfl (Zbj Zd9 Tryz.underlying284 Zft (atL 0 rfl rfl rfl)) (Zgt _ _ _ _ _ _ _ _ (ZaV oz) (ZaV oz) oz _ hv) ?_))))))
 rintro _ B8 _ hle8 ⟨rfl,l8,rfl,hv8⟩
 refine tL2 (Zd (xM (h:=xA (h:=ZD ?_))))
 rw [← Zdp g.2.1 g.1 (2*g.1+1)]
 have h5:hat g.2.1 (2*g.1+1)<hat g.2.1 g.1:=by simpa using g5
 exact Zx (2*g.1+1,(swp g.2.1 g.1 (2*g.1+1)),l8) [0,1] (so) ⟨rfl,by have:=Zdp g.2.1 g.1 (2*g.1+1);simp only [];omega,(Zgf oz oz).trans hp,Ziz oz oz oz oz hb (by intro k h0 hk he;(try simp only [decide_eq_true_eq,decide_eq_false_iff_not,Bool.not_eq_true',Bool.not_eq_false',Int.not_lt] at *);rcases (show k=2*g.1+1∨k=2*g.1+1+1 from by omega) with rfl | rfl <;> omega) h5,(fun k hk=>by rw [Ze1 oz oz,if_neg oz,if_neg oz];exact hs k hk),hv8⟩ t5 rfl

theorem Zsk (b:Nat) (q:Option Addr) (cp:Nat) (xs:List Int) (l:Cells) (hm0:0<xs.length) (hn:xs.length≤2000000) (hh:ZdD xs) (B:Kn) (hv:ZR B l q cp 3 1 Z9 xs):Zu (pj J) 212 [.iface 284 (ptr ⟨b,0,none⟩)] B [ZP b [.slice q xs.length cp] 285,l] (fun v B' Ls=>B'=B∧v = .iface 3 (.int .i64 (hat xs 0))∧∃ys l',Ls=[ZP b [.slice q ys.length cp] 285,l']∧ZR B l' q cp 3 1 Z9 ys∧(hat xs 0 :: ys).Perm xs∧ZdD ys):=by
 refine cB 15 Tryz.func212 (h:=?_)
 refine Za (xA (h:=Za (xM (h:=Zh (ZfI 1 rfl rfl rfl ZAs rfl rfl (Zbj ZlC Tryz.underlying284 Zft (atL 0 rfl rfl rfl)) (Z1.borrow fun hm1=>Zsh _ _ _ _) (Zh (ZiO (r:=((xs.length - 1:Nat):Int)) rfl rfl rfl rfl ((congrArg _ (show _=((xs.length - 1:Nat):Int) from by omega)).trans (Zb2 oz oz)) ?_)))))))
 refine xA (h:=Za (xM (h:=xM (h:=Zh (Zhe [1] rfl rfl rfl rfl Zs4 rfl rfl (Zbj Zd9 Tryz.underlying284 Zft (atL 0 rfl rfl rfl)) (Zgt _ _ _ _ _ _ _ _ (ZaV oz) (ZaV oz) oz _ hv) ?_)))))
 rintro _ Bs _ hles ⟨rfl,ls,rfl,hvs⟩
 refine tL2 ?_
 obtain ⟨zs,hzs,hzl⟩ :∃zs,zs=swp xs 0 (xs.length - 1)∧zs.length=xs.length:=⟨_,rfl,Zdp _ _ _⟩
 have hzz:=hvs
 change ZR _ _ _ _ _ _ _ (swp xs 0 (xs.length - 1)) at hzz
 rw [← hzs] at hzz
 have hdb:Zfb zs (zs.length - 1) 0:=by rw [hzl,hzs];exact Zxs hh hm0
 have hlz:hat zs (zs.length - 1)=hat xs 0:=by rw [hzl,hzs];exact Zum hm0
 have hpz:zs.Perm xs:=hzs ▸ Zgf hm0 oz
 rw [← hzl]
 refine Za (xM (h:=xM (h:=xK [0,1] rfl ZCK rfl (ZpY _ _ _ _ _ _ oz oz oz hdb _ hzz) (h:=?_))))
 rintro _ Bd _ hled ⟨rfl,ysd,ld,rfl,hvd,hpd,hhd,hsd⟩
 refine tL2 ?_
 have hdl:=hpd.length_eq
 refine Za (xM (h:=Zh (Zhe [0,1] rfl rfl rfl rfl ZCx rfl rfl (Zl6 ZrN Tryz.underlying284) (ZxY _ _ _ _ _ _ (ZaV oz) oz _ hvd) ?_)))
 rintro _ Bo _ hleo ⟨rfl,rfl,rfl,hvo⟩
 refine xA (h:=tL2 (Zf ?_))
 have hz9:hat ysd (ysd.length - 1)=hat xs 0:=by rw [hsd _ oz,hdl];exact hlz
 exact Zdh .ret (.inl rfl) [_] [0,1] rfl ⟨rfl,trivial⟩ ⟨rfl,by rw [hz9];rfl,_,_,by rw [show (ysd.take (ysd.length - 1)).length=ysd.length - 1 from by simp],hvo,ZuA (by omega) (hpd.trans hpz) hz9,ZpX (by rw [hdl];exact hhd) (by omega)⟩

theorem Znz (q:Option Addr) (cp:Nat) (xs:List DItem) (last:Int) (B:Kn) (ha:SlK B q cp 4 Zar xs):Z1 (pj J) 174 [.slice q xs.length cp,.int .i64 last] B (.bool (asc 0 last (xs.map (·.id)))):=by
 refine cB 53 Tryz.func174 (h:=?_)
 have hxn:=ha.len
 refine Za (xA (h:=Za (xBs [] [] Tryz.underlying58 sz3 zo3 (h:=fun b1=>xBx [_] (h:=fun b2=>xA (h:=tL2 (Ze (Za (xM (h:=xV Tryz.underlying37 (h:=xM (h:=Zg (Zv (α:=Gh Int) [0,1,4,5,14,15] (fun g=>[(16,.int .i64 g.k)]) [0,1] (fun g=>[g.l,ZP b2 [.slice g.a g.xs.length g.c] 285]) (fun g Bx=>Bx=B∧g.k≤xs.length∧g.xs.Perm ((xs.take g.k).map (·.id))∧ZdD g.xs∧ZR Bx g.l g.a g.c 3 1 Z9 g.xs) (fun g=>xs.length - g.k) ⟨0,0,_,_,_,[]⟩ t1 rfl (⟨rfl,Nat.zero_le _,.refl _,Zve,.lit0⟩) (fun g B3 hle3 hI=>?_))))))))))))))
 obtain ⟨rfl,hk,hp,hh,hv⟩:=hI
 have hpl:=hp.length_eq
 rw [List.length_map,List.length_take] at hpl
 refine Zz [(0,_),(1,_),(4,_),(5,_),(14,_),(15,_),(16,_)] [_,_] t7 rfl (Za (ZC (h:=Ze (Zb rfl (fun g1=>?_) (fun g1=>?_)))))
 try simp only [sQ,ne_eq] at g1
 refine wSk (Ze (Zg (Za ?_)))
 obtain ⟨x,hx⟩:=ZM (xs:=xs) (i:=g.k) om
 obtain ⟨bb5,oo5,rfl⟩:=ha.base hx
 obtain ⟨_,⟨qi6,ci6,rfl,hi6,hb6,hb6b⟩,hc6⟩:=ha.elem hx
 have hi6n:=hi6.len
 refine xIx Tryz.underlying37 ZcR (h:=yL [_,_,_,_] ZfX hc6 0 (h:=xAl [_,_,_,_] ZgF (h:=fun b7=>xS [_,_,_,_] 2 [_,_,_,_] ZcR (h:=tL3 (Zd (xM (h:=Zh (ZaU rfl rfl Tryz.underlying284 rfl rfl (xW Ze7 (h:=x1 lk3 2 (h:=Zh (ZaU rfl rfl Tryz.underlying3 rfl rfl (xK [1,0] rfl ZC2 rfl (ZpW _ _ _ _ _ _ oz hh _ hv) (h:=?_))))))))))))))
 rintro _ Bp _ hlep ⟨rfl,qp,cp,ysp,lp,rfl,hvp,hpp,hhp⟩
 refine ZD (Zm (Zd (xD (h:=xM (h:=?_)))))
 exact Zx ⟨g.k+1,0,lp,_,_,ysp⟩ [0,1] so2 ⟨rfl,so,by simp only [];rw [ZbP hx,List.map_append];exact hpp.trans (hp.append_right _),hhp,hvp⟩ t7 rfl
 try simp only [sQ,ne_eq] at g1
 have hxe:xs.take g.k=xs:=List.take_of_length_le oz
 rw [hxe] at hp
 refine ZA (ZQ (ZB (Zs (Zm (Za (xA (h:=Ze (Za (xM (h:=xV Tryz.underlying37 (h:=xM (h:=Zg (Zv (α:=Gh2 Int Int) [0,1,5,14,15,16,17,27,28] (fun h=>[(8,.int .i64 h.e),(29,.int .i64 h.k)]) [0,1] (fun h=>[h.l,ZP b2 [.slice h.a h.xs.length h.c] 285]) (fun h Bx=>Bx=B3∧h.k≤xs.length∧h.xs.Perm ((xs.drop h.k).map (·.id))∧ZdD h.xs∧asc 0 last (xs.map (·.id))=asc h.e last ((xs.drop h.k).map (·.id))∧ZR Bx h.l h.a h.c 3 1 Z9 h.xs) (fun h=>xs.length - h.k) ⟨0,0,g.l,g.a,g.c,g.xs,0⟩ t2 rfl (⟨rfl,Nat.zero_le _,hp,hh,rfl,hv⟩) (fun h B9 hle9 hI=>?_))))))))))))))
 clear hv hp hpl hh
 obtain ⟨rfl,hk,hp,hh,hs,hv⟩:=hI
 have hpl:=hp.length_eq
 rw [List.length_map,List.length_drop] at hpl
 refine Zz [(0,_),(1,_),(5,_),(8,_),(14,_),(15,_),(16,_),(17,_),(27,_),(28,_),(29,_)] [_,_] t11 rfl (Za (ZC (h:=Ze (Zb rfl (fun g2=>?_) (fun g2=>?_)))))
 try simp only [sQ,ne_eq] at g2
 refine wSk (Ze (Zg (Za ?_)))
 obtain ⟨x,hx⟩:=ZM (xs:=xs) (i:=h.k) om
 obtain ⟨bb11,oo11,rfl⟩:=ha.base hx
 obtain ⟨_,⟨qi12,ci12,rfl,hi12,hb12,hb12b⟩,hc12⟩:=ha.elem hx
 have hi12n:=hi12.len
 refine xIx Tryz.underlying37 ZcR (h:=?_)
 rw [ZkC hx,List.map_cons] at hp hs
 refine yL [_,_,_,_] ZfX hc12 0 (h:=xAl [_,_,_,_] ZgF (h:=fun b13=>xS [_,_,_,_] 2 [_,_,_,_] ZcR (h:=tL3 (Za (xM (h:=Zh (ZaU rfl rfl Tryz.underlying284 rfl rfl (xK [1,0] rfl ZC1 rfl (Zsk _ _ _ _ _ oz oz hh _ hv) (h:=?_)))))))))
 rintro _ Bo _ hleo ⟨rfl,rfl,yso,lo,rfl,hvo,hpo,hho⟩
 refine Zh (ZkY rfl rfl Tryz.underlying3 rfl rfl (xA (h:=tL3 (Ze (Za (xM (h:=xW Ze7 (h:=x1 lk3 2 (h:=Zaa (h:=xM (h:=Zq (d:=41) rfl (fun g3=>?_) (fun g3=>?_))))))))))))
 try simp only [sQ,ne_eq] at g3
 refine xP (h:=xP (h:=xP (h:=xT (h:=xM (h:=xP (h:=xP (h:=xP (h:=xT (h:=Zb (t:=true) rfl (fun _=>Za (xA (h:=Zf (Zj (Zt (Zj (ZJ (Zt (Zj ?_))))))))) (fun h=>Bool.noConfusion h))))))))))
 exact eR t1 ⟨Zc (by rw [hs];exact ZvU hp hh (by simpa using g3)),rfl,rfl⟩
 try simp only [sQ,ne_eq] at g3
 refine xM (h:=xM (h:=Zbd (h:=xF (h:=xM (h:=Zq (d:=46) rfl (fun g4=>?_) (fun g4=>?_))))))
 try simp only [sQ,ne_eq] at g4
 refine xP (h:=xP (h:=xP (h:=xT (h:=Zb (t:=true) rfl (fun _=>Za (xA (h:=Zf (Zj (Zt (Zj (ZJ (Zt (Zj ?_))))))))) (fun h=>Bool.noConfusion h)))))
 exact eR t1 ⟨Zc (by rw [hs];exact ZvT (by rw [← g3];simpa using g4)),rfl,rfl⟩
 try simp only [sQ,ne_eq] at g4
 refine xM (h:=xM (h:=Zc8 (h:=xF (h:=Zb rfl (fun g5=>?_) (fun g5=>?_)))))
 try simp only [sQ,ne_eq] at g5
 refine Za (xA (h:=Zf (Zj (Zt (Zj (ZJ (Zt (Zj ?_))))))))
 exact eR t1 ⟨Zc (by rw [hs];exact ZvS (by rw [← g3];simpa using g5)),rfl,rfl⟩
 try simp only [sQ,ne_eq] at g5
 refine wSk (Zd (xM (h:=xA (h:=ZD (Zm (Zd (xD (h:=xM (h:=?_)))))))))
 exact Zx ⟨h.k+1,0,lo,_,_,yso,hat h.xs 0⟩ [0,1] so2 ⟨rfl,so,List.Perm.cons_inv ((show (x.id :: yso).Perm (hat h.xs 0 :: yso) from by rw [g3]).trans (hpo.trans hp)),hho,by simp only [];rw [hs,g3];exact ZAT (by rw [← g3];simpa using g4) (by rw [← g3];simpa using g5),hvo⟩ t11 rfl
 try simp only [sQ,ne_eq] at g2
 rw [Zs8 oz,List.map_nil,asc] at hs
 refine ZA (ZQ (ZB (Zs (Zm (Za (xA (h:=Zf ?_)))))))
 exact eR t1 ⟨Zc hs.symm,rfl,rfl⟩

theorem Znx (aq:Option Addr) (cq:Nat) (q:DQueue) (B:Kn) (hq:SlK B aq cq 4 Zar q.items):Z1 (pj J) 137 [.agg #[.int .i64 q.next,.slice aq q.items.length cq]] B (.bool (Zbg q)):=by
 refine cB 42 Tryz.func137 (h:=?_)
 have hqn:=hq.len
 refine Za (xBx [_,_] (h:=fun b1=>xA (h:=tL1 (Ze (Za (xW Zc7 (h:=x1 ZmC 0 (h:=xV Tryz.underlying37 (h:=Zc8 (h:=xM (h:=Zq (d:=9) rfl (fun g1=>?_) (fun g1=>?_))))))))))))
 try simp only [sQ,ne_eq] at g1
 refine xP (h:=xP (h:=xP (h:=xT (h:=xM (h:=xP (h:=xP (h:=xP (h:=xT (h:=Zb (t:=true) rfl (fun _=>Za (xA (h:=Zf (Zj ?_)))) (fun h=>Bool.noConfusion h))))))))))
 exact eR t1 ⟨Zc (ZgN oz),rfl,rfl⟩
 try simp only [sQ,ne_eq] at g1
 refine xW Zhw (h:=x1 lk3 0 (h:=ZC (h:=xF (h:=xM (h:=Zq (d:=14) rfl (fun g2=>?_) (fun g2=>?_))))))
 try simp only [sQ,ne_eq] at g2
 refine xP (h:=xP (h:=xP (h:=xT (h:=Zb (t:=true) rfl (fun _=>Za (xA (h:=Zf (Zj ?_)))) (fun h=>Bool.noConfusion h)))))
 exact eR t1 ⟨Zc (ZgN oz),rfl,rfl⟩
 try simp only [sQ,ne_eq] at g2
 refine xW Zhw (h:=x1 lk3 0 (h:=Zc8 (h:=xF (h:=Zb rfl (fun g3=>?_) (fun g3=>?_)))))
 try simp only [sQ,ne_eq] at g3
 refine Za (xA (h:=Zf (Zj ?_)))
 exact eR t1 ⟨Zc (ZgN oz),rfl,rfl⟩
 try simp only [sQ,ne_eq] at g3
 refine wSk (Ze (Za (xW Zc7 (h:=x1 ZmC 0 (h:=xV Tryz.underlying37 (h:=xM (h:=Zg (Zv (α:=Nat) [0,1,18,20,21] (fun k=>[(22,.int .i64 k)]) [] (fun k=>[]) (fun k Bx=>Bx=B∧k≤q.items.length∧(q.items.take k).all Zgr=true) (fun k=>q.items.length - k) 0 t1 rfl (⟨rfl,Nat.zero_le _,by simp⟩) (fun k B2 hle2 hI=>?_)))))))))
 obtain ⟨rfl,hk,ha⟩:=hI
 refine Zz [(0,_),(1,_),(18,_),(20,_),(21,_),(22,_)] [_] t6 rfl (Za (ZC (h:=Ze (Zb rfl (fun g4=>?_) (fun g4=>?_)))))
 try simp only [sQ,ne_eq] at g4
 refine wSk (Ze (Zg (Za ?_)))
 obtain ⟨x,hx⟩:=ZM (xs:=q.items) (i:=k) om
 obtain ⟨bb4,oo4,rfl⟩:=hq.base hx
 obtain ⟨_,⟨qi5,ci5,rfl,hi5,hb5,hb5b⟩,hc5⟩:=hq.elem hx
 have hi5n:=hi5.len
 refine xIx Tryz.underlying37 ZcR (h:=yL [_,_,_,_] ZfX hc5 0 (h:=xAl [_,_,_,_] ZgF (h:=fun b6=>xS [_,_,_,_] 1 [_,_,_,_] ZcR (h:=tL2 (Za (xW Ze6 (h:=x1 lk9 1 (h:=xW ZdV (h:=x1 ZgU 1 (h:=xW Zg0 (h:=x1 lk9 1 (h:=xB [(0,_),(1,_),(2,_)] [_,_,_] [_,_,_] ZzF ZyY (h:=xR ZDs rfl (ZlZ _ _ ⟨x.fr,x.left,x.text⟩ _ hi5 oa oa) (h:=?_))))))))))))))
 refine xN (h:=Zb rfl (fun g5=>?_) (fun g5=>?_))
 try simp only [sQ,ne_eq] at g5
 refine Za (xA (h:=Zf (Zt (Zj (ZJ (Zt (Zj ?_)))))))
 exact eR t1 ⟨Zc (Zm8 hx g5),rfl,rfl⟩
 try simp only [sQ,ne_eq] at g5
 refine ZK (ZD (Zm (Zd (xD (h:=xM (h:=?_))))))
 exact Zx (k+1) [0] so2 ⟨rfl,oz,ZAU hx g5 ha⟩ t6 rfl
 try simp only [sQ,ne_eq] at g4
 refine ZA (ZQ (ZB (Zs (Zm (Za (xW Zc7 (h:=x1 ZmC 0 (h:=xW Zhw (h:=x1 lk3 0 (h:=xU (h:=xR ZDr rfl (Znz _ _ _ _ _ hq) (h:=xA (h:=Zf ?_)))))))))))))
 exact eR t1 ⟨Zc (Zm7 oz ha oz oz oz),rfl,rfl⟩

theorem Zr0 (n:Int) (B:Kn):Z1 (pj J) 32 [.int .i64 n] B (.bool (decide (0≤n) && decide (n≤31))):=by
 refine cB 5 Tryz.func32 (h:=?_)
 refine Za (xA (h:=Za (xM (h:=xR ZmD rfl (Zc6 _ _ _ _) (h:=xA (h:=Zf ?_))))))
 exact eR t1 ⟨rfl,rfl,rfl⟩

theorem ZfY (n:Int) (B:Kn):Z1 (pj J) 91 [.int .i64 n] B (.bool (decide (0≤n) && decide (n≤31))):=by
 refine cB 9 Tryz.func91 (h:=?_)
 refine Za (xA (h:=Za (xM (h:=Zc9 (h:=xM (h:=Zq (d:=5) rfl (fun g1=>?_) (fun g1=>?_)))))))
 refine xM (h:=Zbd (h:=xT (h:=xA (h:=Zf ?_))))
 exact eR t1 ⟨Zc (by rw [Bool.eq_iff_iff];simp [g1];try omega),rfl,rfl⟩
 refine xP (h:=xP (h:=xF (h:=xA (h:=Zf ?_))))
 exact eR t1 ⟨Zc (by rw [Bool.eq_iff_iff];simp [g1];try omega),rfl,rfl⟩

theorem Zr8 (m:DMail) (hm:m.text.length≤2000000) (B:Kn):Z1 (pj J) 126 [.agg #[.int .i64 m.uid,.int .i64 m.flags,str m.text]] B (.bool (ZbU m)):=by
 refine cB 17 Tryz.func126 (h:=?_)
 refine Za (xBx [_,_,_] (h:=fun b1=>xA (h:=tL1 (Za (xW Zb7 (h:=x1 lk3 0 (h:=xR ZmD rfl (Zc6 _ _ _ _) (h:=xM (h:=Zq (d:=6) rfl (fun g1=>?_) (fun g1=>?_))))))))))
 refine xW Ze5 (h:=x1 lk3 0 (h:=xR ZFN rfl (Zr0 _ _) (h:=xT (h:=xM (h:=Zq (d:=11) rfl (fun g2=>?_) (fun g2=>?_))))))
 refine xW ZdU (h:=x1 lk9 0 (h:=xVs Tryz.underlying9 (h:=Zbd (h:=xT (h:=xA (h:=Zf ?_))))))
 exact eR t1 ⟨Zc (by rw [Bool.eq_iff_iff];simp [ZbU,g1,g2];try omega),rfl,rfl⟩
 refine xP (h:=xP (h:=xP (h:=xP (h:=xF (h:=xA (h:=Zf ?_))))))
 exact eR t1 ⟨Zc (by rw [Bool.eq_iff_iff];simp [ZbU,g1,g2];try omega),rfl,rfl⟩
 refine xP (h:=xP (h:=xP (h:=xF (h:=xM (h:=xP (h:=xP (h:=xP (h:=xP (h:=xF (h:=xA (h:=Zf ?_)))))))))))
 exact eR t1 ⟨Zc (by rw [Bool.eq_iff_iff];simp [ZbU,g1];try omega),rfl,rfl⟩

theorem ZpT (m:DMail) (hm:m.text.length≤2000000) (B:Kn):Z1 (pj J) 148 [.agg #[.int .i64 m.uid,.int .i64 m.flags,str m.text]] B (.bool (ZbU m)):=by
 refine cB 22 Tryz.func148 (h:=?_)
 refine Za (xBx [_,_,_] (h:=fun b1=>xA (h:=tL1 (Za (xW Zb7 (h:=x1 lk3 0 (h:=Zc9 (h:=xM (h:=Zq (d:=6) rfl (fun g1=>?_) (fun g1=>?_))))))))))
 refine xW Zb7 (h:=x1 lk3 0 (h:=Zbd (h:=xT (h:=xM (h:=Zq (d:=11) rfl (fun g2=>?_) (fun g2=>?_))))))
 refine xW Ze5 (h:=x1 lk3 0 (h:=xR ZCs rfl (ZfY _ _) (h:=xT (h:=xM (h:=Zq (d:=16) rfl (fun g3=>?_) (fun g3=>?_))))))
 refine xW ZdU (h:=x1 lk9 0 (h:=xVs Tryz.underlying9 (h:=Zbd (h:=xT (h:=xA (h:=Zf ?_))))))
 exact eR t1 ⟨Zc (by rw [Bool.eq_iff_iff];simp [ZbU,g1,g2,g3];try omega),rfl,rfl⟩
 refine xP (h:=xP (h:=xP (h:=xP (h:=xF (h:=xA (h:=Zf ?_))))))
 exact eR t1 ⟨Zc (by rw [Bool.eq_iff_iff];simp [ZbU,g1,g2,g3];try omega),rfl,rfl⟩
 refine xP (h:=xP (h:=xP (h:=xF (h:=xM (h:=xP (h:=xP (h:=xP (h:=xP (h:=xF (h:=xA (h:=Zf ?_)))))))))))
 exact eR t1 ⟨Zc (by rw [Bool.eq_iff_iff];simp [ZbU,g1,g2];try omega),rfl,rfl⟩
 refine xP (h:=xP (h:=xP (h:=xF (h:=xM (h:=xP (h:=xP (h:=xP (h:=xF (h:=xM (h:=xP (h:=xP (h:=xP (h:=xP (h:=xF (h:=xA (h:=Zf ?_))))))))))))))))
 exact eR t1 ⟨Zc (by rw [Bool.eq_iff_iff];simp [ZbU,g1];try omega),rfl,rfl⟩

theorem Zlk (q:Option Addr) (cp:Nat) (x:DBox) (B:Kn) (hx:SlK B q cp 3 Zah x.mail):Z1 (pj J) 81 [.agg #[.int .i64 x.next,.slice q x.mail.length cp]] B (.bool (Zbq x)):=by
 refine cB 46 Tryz.func81 (h:=?_)
 have hxn:=hx.len
 refine Za (xBx [_,_] (h:=fun b1=>xA (h:=tL1 (Za (xA (h:=Ze (Za (xA (h:=Zg (Zv (α:=Nat × Int) [0,1] (fun g=>[(3,.int .i64 g.2),(4,.int .i64 g.1)]) [] (fun g=>[]) (fun g Bx=>Bx=B∧g.1≤x.mail.length∧Zdc (x.mail.take g.1)=(true,g.2)∧0≤g.2∧g.2≤99) (fun g=>x.mail.length - g.1) (0,0) t2 rfl (⟨rfl,Nat.zero_le _,ZfS,oz,oz⟩) (fun g B2 hle2 hI=>?_)))))))))))
 obtain ⟨rfl,hk,hs,hl0,hl1⟩:=hI
 refine Zz [(0,_),(1,_),(3,_),(4,_)] [_] t4 rfl (Ze (Za (xM (h:=xW ZaI (h:=x1 Zfs 0 (h:=xV Tryz.underlying80 (h:=ZC (h:=Zb rfl (fun g1=>?_) (fun g1=>?_)))))))))
 try simp only [sQ,ne_eq] at g1
 refine wSk (Ze (Zg (Ze (Za (xW ZaI (h:=x1 Zfs 0 (h:=xM (h:=?_))))))))
 obtain ⟨m,hm⟩:=ZM (xs:=x.mail) (i:=g.1) om
 obtain ⟨bb4,oo4,rfl⟩:=hx.base hm
 obtain ⟨_,⟨rfl,hb5⟩,hc5⟩:=hx.elem hm
 refine xIx Tryz.underlying80 ZcB (h:=yL [_,_,_] ZhA hc5 0 (h:=xR ZD0 rfl (Zr8 m om2 _) (h:=?_)))
 refine xN (h:=xM (h:=Zq (d:=19) rfl (fun g2=>?_) (fun g2=>?_)))
 try simp only [sQ,ne_eq] at g2
 refine xP (h:=xP (h:=xP (h:=xP (h:=xP (h:=xP (h:=xP (h:=xP (h:=xT (h:=Zb (t:=true) rfl (fun _=>Za (xA (h:=Zf (Zj (Zt (Zj (ZJ (Zt (Zj ?_))))))))) (fun h=>Bool.noConfusion h))))))))))
 exact eR t1 ⟨Zc (Zgx (ZfT hm (by rw [show (scn Zc0 (fun _ m=>m.uid) 0 (x.mail.take g.1)).2=g.2 from congrArg Prod.snd hs];simp [Zc0,g2]))).symm,rfl,rfl⟩
 try simp only [sQ,ne_eq] at g2
 refine xW ZaI (h:=x1 Zfs 0 (h:=xM (h:=xIx Tryz.underlying80 ZcB (h:=xW Zb7 (h:=y1 lk3 hc5 0 (h:=xM (h:=Zbd (h:=xF (h:=Zb rfl (fun g3=>?_) (fun g3=>?_))))))))))
 try simp only [sQ,ne_eq] at g3
 refine Za (xA (h:=Zf (Zj (Zt (Zj (ZJ (Zt (Zj ?_))))))))
 exact eR t1 ⟨Zc (Zgx (ZfT hm (by rw [show (scn Zc0 (fun _ m=>m.uid) 0 (x.mail.take g.1)).2=g.2 from congrArg Prod.snd hs];simp [Zc0,g2];omega))).symm,rfl,rfl⟩
 try simp only [sQ,ne_eq] at g3
 refine wSk (Zd (xW ZaI (h:=x1 Zfs 0 (h:=xM (h:=xIx Tryz.underlying80 ZcB (h:=xW Zb7 (h:=y1 lk3 hc5 0 (h:=xA (h:=ZD (Zm (Zd (xM (h:=xD (h:=xA (h:=?_)))))))))))))))
 exact Zx (g.1+1,m.uid) [0] so2 ⟨rfl,oz,ZcN hm hs (by simp [Zc0,g2];omega),Zjg g2⟩ t4 rfl
 try simp only [sQ,ne_eq] at g1
 refine ZA (ZQ (ZB (Zs (Zm (Za (xW Zhv (h:=x1 lk3 0 (h:=xM (h:=xD (h:=xR ZmD rfl (Zc6 _ _ _ _) (h:=xM (h:=Zq (d:=40) rfl (fun g4=>?_) (fun g4=>?_)))))))))))))
 try simp only [sQ,ne_eq] at g4
 refine xW ZaI (h:=x1 Zfs 0 (h:=xV Tryz.underlying80 (h:=Zbd (h:=xT (h:=xA (h:=Zf ?_))))))
 exact eR t1 ⟨Zc (by rw [Zgw (Zew hs oz),g4,Bool.true_and,Bool.eq_iff_iff];simp;omega),rfl,rfl⟩
 try simp only [sQ,ne_eq] at g4
 refine xP (h:=xP (h:=xP (h:=xP (h:=xF (h:=xA (h:=Zf ?_))))))
 exact eR t1 ⟨Zc (by rw [Zgw (Zew hs oz),g4,Bool.false_and]),rfl,rfl⟩

theorem Zih (q:Option Addr) (cp:Nat) (x:DBox) (B:Kn) (hx:SlK B q cp 3 Zah x.mail):Z1 (pj J) 96 [.agg #[.int .i64 x.next,.slice q x.mail.length cp]] B (.bool (Zbq x)):=by
 refine cB 38 Tryz.func96 (h:=?_)
 have hxn:=hx.len
 refine Za (xBx [_,_] (h:=fun b1=>xA (h:=tL1 (Ze (Za (xW ZaI (h:=x1 Zfs 0 (h:=xV Tryz.underlying80 (h:=Zc8 (h:=Zb rfl (fun g0=>?_) (fun g0=>?_)))))))))))
 try simp only [sQ,ne_eq] at g0
 refine Za (xA (h:=Zf (Zj ?_)))
 exact eR t1 ⟨Zc (by simp [Zbq];omega),rfl,rfl⟩
 try simp only [sQ,ne_eq] at g0
 refine wSk (Za (xA (h:=Ze (Za (xW ZaI (h:=x1 Zfs 0 (h:=xV Tryz.underlying80 (h:=xM (h:=Zg (Zv (α:=Nat × Int) [0,1,9,11,12] (fun g=>[(3,.int .i64 g.2),(13,.int .i64 g.1)]) [] (fun g=>[]) (fun g Bx=>Bx=B∧g.1≤x.mail.length∧Zdc (x.mail.take g.1)=(true,g.2)∧0≤g.2∧g.2≤99) (fun g=>x.mail.length - g.1) (0,0) t2 rfl (⟨rfl,Nat.zero_le _,ZfS,oz,oz⟩) (fun g B2 hle2 hI=>?_)))))))))))
 obtain ⟨rfl,hk,hs,hl0,hl1⟩:=hI
 refine Zz [(0,_),(1,_),(3,_),(9,_),(11,_),(12,_),(13,_)] [_] t7 rfl (Za (ZC (h:=Ze (Zb rfl (fun g1=>?_) (fun g1=>?_)))))
 try simp only [sQ,ne_eq] at g1
 refine wSk (Ze (Zg (Za ?_)))
 obtain ⟨m,hm⟩:=ZM (xs:=x.mail) (i:=g.1) om
 obtain ⟨bb4,oo4,rfl⟩:=hx.base hm
 obtain ⟨_,⟨rfl,hb5⟩,hc5⟩:=hx.elem hm
 refine xIx Tryz.underlying80 ZcB (h:=yL [_,_,_] ZhA hc5 0 (h:=xAl [_,_,_] ZiN (h:=fun b6=>xS [_,_,_] 1 [_,_,_] ZcB (h:=tL2 (Ze (Za (xL [_,_,_] ZhA 1 (h:=xR ZDN rfl (ZpT m om2 _) (h:=?_)))))))))
 refine xN (h:=xM (h:=Zq (d:=20) rfl (fun g2=>?_) (fun g2=>?_)))
 try simp only [sQ,ne_eq] at g2
 refine xP (h:=xP (h:=xP (h:=xP (h:=xT (h:=Zb (t:=true) rfl (fun _=>Za (xA (h:=Zf (Zj (Zt (Zj (ZJ (Zt (Zj ?_))))))))) (fun h=>Bool.noConfusion h))))))
 exact eR t1 ⟨Zc (Zgx (ZfT hm (by rw [show (scn Zc0 (fun _ m=>m.uid) 0 (x.mail.take g.1)).2=g.2 from congrArg Prod.snd hs];simp [Zc0,g2]))).symm,rfl,rfl⟩
 try simp only [sQ,ne_eq] at g2
 refine xW Zb7 (h:=x1 lk3 1 (h:=xM (h:=Zbd (h:=xF (h:=Zb rfl (fun g3=>?_) (fun g3=>?_))))))
 try simp only [sQ,ne_eq] at g3
 refine Za (xA (h:=Zf (Zj (Zt (Zj (ZJ (Zt (Zj ?_))))))))
 exact eR t1 ⟨Zc (Zgx (ZfT hm (by rw [show (scn Zc0 (fun _ m=>m.uid) 0 (x.mail.take g.1)).2=g.2 from congrArg Prod.snd hs];simp [Zc0,g2];omega))).symm,rfl,rfl⟩
 try simp only [sQ,ne_eq] at g3
 refine wSk (Zd (xW Zb7 (h:=x1 lk3 1 (h:=xA (h:=ZD (Zm (Zd (xD (h:=xM (h:=?_))))))))))
 exact Zx (g.1+1,m.uid) [0] so2 ⟨rfl,oz,ZcN hm hs (by simp [Zc0,g2];omega),Zjg g2⟩ t7 rfl
 try simp only [sQ,ne_eq] at g1
 refine ZA (ZQ (ZB (Zs (Zm (Za (xW Zhv (h:=x1 lk3 0 (h:=xM (h:=Zc8 (h:=xM (h:=Zq (d:=33) rfl (fun g4=>?_) (fun g4=>?_))))))))))))
 try simp only [sQ,ne_eq] at g4
 refine xW Zhv (h:=x1 lk3 0 (h:=Zbd (h:=xT (h:=xA (h:=Zf ?_)))))
 exact eR t1 ⟨Zc (by rw [Zgw (Zew hs oz),Bool.eq_iff_iff];simp;omega),rfl,rfl⟩
 try simp only [sQ,ne_eq] at g4
 refine xP (h:=xP (h:=xP (h:=xF (h:=xA (h:=Zf ?_)))))
 exact eR t1 ⟨Zc (by rw [Zgw (Zew hs oz),Bool.eq_iff_iff];simp;omega),rfl,rfl⟩

theorem Zr7 (q:Option Addr) (cp:Nat) (x:DBox) (B:Kn) (hx:SlK B q cp 3 Zah x.mail):Z1 (pj J) 124 [.agg #[.int .i64 x.next,.slice q x.mail.length cp]] B (.int .i64 (ZbR x.mail)):=by
 refine cB 22 Tryz.func124 (h:=?_)
 have hxn:=hx.len
 refine Za (xBx [_,_] (h:=fun b1=>xA (h:=tL1 (Za (xA (h:=Ze (Za (xA (h:=Zg (Zv (α:=Nat × Nat) [0,1,2] (fun g=>[(3,.int .i64 g.2),(4,.int .i64 g.1)]) [] (fun g=>[]) (fun g Bx=>Bx=B∧g.1≤x.mail.length∧g.2=ZbR (x.mail.take g.1)∧g.2≤g.1*2000000) (fun g=>x.mail.length - g.1) (0,0) t2 rfl (⟨rfl,Nat.zero_le _,by simp [ZbR],oz⟩) (fun g B2 hle2 hI=>?_)))))))))))
 obtain ⟨rfl,hk,hs,hl⟩:=hI
 refine Zz [(0,_),(1,_),(2,_),(3,_),(4,_)] [_] t5 rfl (Ze (Za (xM (h:=xW ZaI (h:=x1 Zfs 0 (h:=xV Tryz.underlying80 (h:=ZC (h:=Zb rfl (fun g1=>?_) (fun g1=>?_)))))))))
 try simp only [sQ,ne_eq] at g1
 refine wSk (Ze (Zg (Zd (xM (h:=xW ZaI (h:=x1 Zfs 0 (h:=xM (h:=?_))))))))
 obtain ⟨m,hm⟩:=ZM (xs:=x.mail) (i:=g.1) om
 obtain ⟨bb4,oo4,rfl⟩:=hx.base hm
 obtain ⟨_,⟨rfl,hb5⟩,hc5⟩:=hx.elem hm
 refine xIx Tryz.underlying80 ZcB (h:=xW ZdU (h:=y1 lk9 hc5 2 (h:=xVs Tryz.underlying9 (h:=xD (h:=xA (h:=ZD (Zm (Zd (xM (h:=xD (h:=xA (h:=?_))))))))))))
 exact Zx (g.1+1,g.2+m.text.length) [0] so2 ⟨rfl,oz,by rw [Zh0 hm,← hs],oz⟩ t5 rfl
 try simp only [sQ,ne_eq] at g1
 refine ZA (ZQ (ZB (Zs (Zm (Za (xM (h:=xA (h:=Zf ?_))))))))
 exact eR t1 ⟨ZH (by rw [← Zi4 hs oz]),rfl,rfl⟩

theorem Ztl (q:Option Addr) (cp:Nat) (x:DBox) (B:Kn) (hx:SlK B q cp 3 Zah x.mail):Z1 (pj J) 262 [.agg #[.int .i64 x.next,.slice q x.mail.length cp]] B (.int .i64 (ZdZ x)):=by
 refine cB 23 Tryz.func262 (h:=?_)
 have hxn:=hx.len
 refine Za (xBx [_,_] (h:=fun b1=>xA (h:=tL1 (Ze (Za (xL [_,_] Zhm 0 (h:=xR ZCp rfl (Zih _ _ (⟨x.next,x.mail⟩:DBox) _ hx) (h:=xN (h:=Zb rfl (fun g0=>?_) (fun g0=>?_))))))))))
 try simp only [sQ,ne_eq] at g0
 refine Za (xA (h:=Zf (Zj ?_)))
 exact eR t1 ⟨ZH (by simp [ZdZ,g0]),rfl,rfl⟩
 try simp only [sQ,ne_eq] at g0
 refine wSk (Za (xA (h:=Ze (Za (xW ZaI (h:=x1 Zfs 0 (h:=xV Tryz.underlying80 (h:=xM (h:=Zg (Zv (α:=Nat × Nat) [0,1,2,8,10,11] (fun g=>[(3,.int .i64 g.2),(12,.int .i64 g.1)]) [] (fun g=>[]) (fun g Bx=>Bx=B∧g.1≤x.mail.length∧g.2=ZbR (x.mail.take g.1)∧g.2≤g.1*2000000) (fun g=>x.mail.length - g.1) (0,0) t2 rfl (⟨rfl,Nat.zero_le _,by simp [ZbR],oz⟩) (fun g B3 hle3 hI=>?_)))))))))))
 obtain ⟨rfl,hk,hs,hl⟩:=hI
 refine Zz [(0,_),(1,_),(2,_),(3,_),(8,_),(10,_),(11,_),(12,_)] [_] t8 rfl (Za (ZC (h:=Ze (Zb rfl (fun g1=>?_) (fun g1=>?_)))))
 try simp only [sQ,ne_eq] at g1
 refine wSk (Ze (Zg (Za ?_)))
 obtain ⟨m,hm⟩:=ZM (xs:=x.mail) (i:=g.1) om
 obtain ⟨bb5,oo5,rfl⟩:=hx.base hm
 obtain ⟨_,⟨rfl,hb6⟩,hc6⟩:=hx.elem hm
 refine xIx Tryz.underlying80 ZcB (h:=yL [_,_,_] ZhA hc6 0 (h:=xAl [_,_,_] ZiN (h:=fun b7=>xS [_,_,_] 1 [_,_,_] ZcB (h:=tL2 (Zd (xM (h:=xW ZdU (h:=x1 lk9 1 (h:=xVs Tryz.underlying9 (h:=xD (h:=xA (h:=ZD (Zm (Zd (xD (h:=xM (h:=?_)))))))))))))))))
 exact Zx (g.1+1,g.2+m.text.length) [0] so2 ⟨rfl,oz,by rw [Zh0 hm,← hs],oz⟩ t8 rfl
 try simp only [sQ,ne_eq] at g1
 refine ZA (ZQ (ZB (Zs (Zm (Za (xM (h:=xA (h:=Zf ?_))))))))
 exact eR t1 ⟨ZH (by rw [ZdZ,if_pos g0,← Zi4 hs oz]),rfl,rfl⟩

theorem Zut (n:Int) (B:Kn):Z1 (pj J) 260 [.int .i64 n] B (.bool (decide (0≤n) && decide (n≤63))):=by
 refine cB 9 Tryz.func260 (h:=?_)
 refine Za (xA (h:=Za (xM (h:=Zc9 (h:=xM (h:=Zq (d:=5) rfl (fun g1=>?_) (fun g1=>?_)))))))
 refine xM (h:=Zbd (h:=xT (h:=xA (h:=Zf ?_))))
 exact eR t1 ⟨Zc (by rw [Bool.eq_iff_iff];simp [g1];try omega),rfl,rfl⟩
 refine xP (h:=xP (h:=xF (h:=xA (h:=Zf ?_))))
 exact eR t1 ⟨Zc (by rw [Bool.eq_iff_iff];simp [g1];try omega),rfl,rfl⟩

theorem ZmN (u:DUser) (h1:u.name.length≤2000000) (h2:u.pass.length≤2000000) (B:Kn):Z1 (pj J) 172 [.agg #[str u.name,str u.pass,.int .i64 u.quota]] B (.bool (Zc2 u)):=by
 refine cB 26 Tryz.func172 (h:=?_)
 refine Za (xBx [_,_,_] (h:=fun b1=>xA (h:=tL1 (Za (xW Zbp (h:=x1 lk9 0 (h:=xR Zkz rfl (ZbI _ om2 _) (h:=?_))))))))
 refine xM (h:=Zq (d:=6) rfl (fun g1=>?_) (fun g1=>?_))
 try simp only [sQ,ne_eq] at g1
 refine xW Zbp (h:=x1 lk9 0 (h:=Zd0 (h:=xT (h:=xM (h:=Zq (d:=11) rfl (fun g2=>?_) (fun g2=>?_))))))
 try simp only [sQ,ne_eq] at g2
 refine xW Zg1 (h:=x1 lk9 0 (h:=xR Zkz rfl (ZbI _ om2 _) (h:=?_)))
 refine xT (h:=xM (h:=Zq (d:=16) rfl (fun g3=>?_) (fun g3=>?_)))
 try simp only [sQ,ne_eq] at g3
 refine xW ZeA (h:=x1 lk3 0 (h:=Zc9 (h:=xT (h:=xM (h:=Zq (d:=21) rfl (fun g4=>?_) (fun g4=>?_))))))
 try simp only [sQ,ne_eq] at g4
 refine xW ZeA (h:=x1 lk3 0 (h:=Zbd (h:=xT (h:=xA (h:=Zf ?_)))))
 exact eR t1 ⟨Zc (by rw [Bool.eq_iff_iff];simp [Zc2,anyone,g1,g2,g3,g4];try omega),rfl,rfl⟩
 try simp only [sQ,ne_eq] at g4
 refine xP (h:=xP (h:=xP (h:=xF (h:=xA (h:=Zf ?_)))))
 exact eR t1 ⟨Zc (by rw [Bool.eq_iff_iff];simp [Zc2,anyone,g1,g2,g3,g4];try omega),rfl,rfl⟩
 try simp only [sQ,ne_eq] at g3
 refine xP (h:=xP (h:=xP (h:=xF (h:=xM (h:=xP (h:=xP (h:=xP (h:=xF (h:=xA (h:=Zf ?_))))))))))
 exact eR t1 ⟨Zc (by rw [Bool.eq_iff_iff];simp [Zc2,anyone,g1,g2,g3];try omega),rfl,rfl⟩
 try simp only [sQ,ne_eq] at g2
 refine xP (h:=xP (h:=xP (h:=xF (h:=xM (h:=xP (h:=xP (h:=xP (h:=xF (h:=xM (h:=xP (h:=xP (h:=xP (h:=xF (h:=xA (h:=Zf ?_)))))))))))))))
 exact eR t1 ⟨Zc (by rw [Bool.eq_iff_iff];simp [Zc2,anyone,g1,g2];try omega),rfl,rfl⟩
 try simp only [sQ,ne_eq] at g1
 refine xP (h:=xP (h:=xP (h:=xF (h:=xM (h:=xP (h:=xP (h:=xP (h:=xF (h:=xM (h:=xP (h:=xP (h:=xP (h:=xF (h:=xM (h:=xP (h:=xP (h:=xP (h:=xF (h:=xA (h:=Zf ?_))))))))))))))))))))
 exact eR t1 ⟨Zc (by rw [Bool.eq_iff_iff];simp [Zc2,anyone,g1];try omega),rfl,rfl⟩

theorem Zif (q:Option Addr) (cp:Nat) (us:List DUser) (B:Kn) (hu:SlK B q cp 3 ZL us):Z1 (pj J) 136 [.slice q us.length cp] B (.bool (ZaJ us)):=by
 refine cB 32 Tryz.func136 (h:=?_)
 have hun:=hu.len
 refine Za (xA (h:=Ze (Za (xM (h:=xV Tryz.underlying35 (h:=ZC (h:=xM (h:=Zq (d:=9) rfl (fun g0=>?_) (fun g0=>?_)))))))))
 try simp only [sQ,ne_eq] at g0
 refine xP (h:=xP (h:=xP (h:=xT (h:=Zb (t:=true) rfl (fun _=>Za (xA (h:=Zf (Zj ?_)))) (fun h=>Bool.noConfusion h)))))
 exact eR t1 ⟨Zc (by rw [Bool.eq_iff_iff];simp [ZaJ];omega),rfl,rfl⟩
 try simp only [sQ,ne_eq] at g0
 refine xM (h:=xV Tryz.underlying35 (h:=Zc8 (h:=xF (h:=Zb rfl (fun g0b=>?_) (fun g0b=>?_)))))
 try simp only [sQ,ne_eq] at g0b
 refine Za (xA (h:=Zf (Zj ?_)))
 exact eR t1 ⟨Zc (by rw [Bool.eq_iff_iff];simp [ZaJ];omega),rfl,rfl⟩
 try simp only [sQ,ne_eq] at g0b
 refine wSk (Za (xA (h:=Ze (Za (xM (h:=xV Tryz.underlying35 (h:=xM (h:=Zg (Zv (α:=Nat × Str) [0,13,14,15] (fun g=>[(3,str g.2),(16,.int .i64 g.1)]) [] (fun g=>[]) (fun g Bx=>Bx=B∧g.1≤us.length∧Zeo (us.take g.1)=(true,g.2)∧g.2.length≤2000000) (fun g=>us.length - g.1) (0,[]) t2 rfl (⟨rfl,Nat.zero_le _,ZfS,by simp⟩) (fun g B1 hle1 hI=>?_))))))))))
 obtain ⟨rfl,hk,hs,hl⟩:=hI
 refine Zz [(0,_),(3,_),(13,_),(14,_),(15,_),(16,_)] [] t6 rfl (Za (ZC (h:=Ze (Zb rfl (fun g1=>?_) (fun g1=>?_)))))
 try simp only [sQ,ne_eq] at g1
 refine wSk (Ze (Zg (Za ?_)))
 obtain ⟨m,hm⟩:=ZM (xs:=us) (i:=g.1) om
 obtain ⟨bb3,oo3,rfl⟩:=hu.base hm
 obtain ⟨_,⟨rfl,hb4,hb4b⟩,hc4⟩:=hu.elem hm
 refine xIx Tryz.underlying35 Zcv (h:=yL [_,_,_] Zfu hc4 0 (h:=xAl [_,_,_] Zf6 (h:=fun b5=>xS [_,_,_] 0 [_,_,_] Zcv (h:=tL1 (Ze (Za (xL [_,_,_] Zfu 0 (h:=xR ZDt rfl (ZmN m om2 om2 _) (h:=?_)))))))))
 refine xN (h:=xM (h:=Zq (d:=23) rfl (fun g2=>?_) (fun g2=>?_)))
 try simp only [sQ,ne_eq] at g2
 refine xP (h:=xP (h:=xP (h:=xP (h:=xT (h:=Zb (t:=true) rfl (fun _=>Za (xA (h:=Zf (Zj (Zt (Zj (ZJ (Zt (Zj ?_))))))))) (fun h=>Bool.noConfusion h))))))
 exact eR t1 ⟨Zc (ZfJ (ZfT hm (by rw [show (scn ZeN (fun _ u=>u.name) [] (us.take g.1)).2=g.2 from congrArg Prod.snd hs];simp [ZeN,g2]))).symm,rfl,rfl⟩
 try simp only [sQ,ne_eq] at g2
 refine xW Zbp (h:=x1 lk9 0 (h:=xM (h:=Zh (Zwd rfl rfl rfl rfl (xF (h:=Zb rfl (fun g3=>?_) (fun g3=>?_)))))))
 try simp only [sQ,ne_eq] at g3
 refine Za (xA (h:=Zf (Zj (Zt (Zj (ZJ (Zt (Zj ?_))))))))
 exact eR t1 ⟨Zc (ZfJ (ZfT hm (by rw [show (scn ZeN (fun _ u=>u.name) [] (us.take g.1)).2=g.2 from congrArg Prod.snd hs,ZeN,ZbH g.2 m.name,g3];simp))).symm,rfl,rfl⟩
 try simp only [sQ,ne_eq] at g3
 refine wSk (Zd (xW Zbp (h:=x1 lk9 0 (h:=xA (h:=ZD (Zm (Zd (xD (h:=xM (h:=?_))))))))))
 exact Zx (g.1+1,m.name) [] so2 ⟨rfl,oz,ZcN hm hs (by rw [ZeN,ZbH g.2 m.name,g2,g3];rfl),oy⟩ t6 rfl
 try simp only [sQ,ne_eq] at g1
 refine ZA (ZQ (ZB (Zs (Zm (Za (xA (h:=Zf ?_)))))))
 exact eR t1 ⟨Zc (by rw [ZhU (Zew hs oz),Bool.eq_iff_iff];simp;omega),rfl,rfl⟩

theorem Zk2 (x:DUser) (u:Str) (b:Nat) (h1:x.name.length≤2000000) (h2:u.length≤2000000) (B:Kn) (hb:Zam B b 0 [str u]):Z1 (pj J) 259 [.agg #[str x.name,str x.pass,.int .i64 x.quota],ptr ⟨b,0,none⟩] B (.bool (decide (x.name=u))):=by
 refine cB 8 Tryz.func259 (h:=?_)
 refine Za (xBx [_,_,_] (h:=fun b1=>xA (h:=tL1 (Za (xW Zbp (h:=x1 lk9 0 (h:=Zh (Zn rfl rfl lk9 rfl (hb _ 0 _ rfl) (Zcj (h:=xA (h:=Zf ?_)))))))))))
 exact eR t1 ⟨rfl,rfl,rfl⟩

theorem ZsR (q:Option Addr) (cp:Nat) (us:List DUser) (F:FuncId) (cap:Array Value) (t:DUser→Bool) (B:Kn) (hu:SlK B q cp 3 ZL us) (he:enters (pj J) F=true) (hF :∀x:DUser,x.name.length≤2000000→x.pass.length≤2000000→Z1 (pj J) F ([.agg #[str x.name,str x.pass,.int .i64 x.quota]] ++ cap.toList) B (.bool (t x))):Z1 (pj J) 258 [.slice q us.length cp,.func (.func F) #[] cap] B (.tuple #[.agg #[str (ZhB t us).1.name,str (ZhB t us).1.pass,.int .i64 (ZhB t us).1.quota],.bool (ZhB t us).2]):=by
 refine cB 21 Tryz.func258 (h:=?_)
 have hun:=hu.len
 refine Za (xAl [_,_,_] Zf6 (h:=fun b1=>xA (h:=tL1 (Ze (Za (xM (h:=xV Tryz.underlying35 (h:=xM (h:=Zg (Zv (α:=Nat) [0,1,4,9,10] (fun k=>[(11,.int .i64 k)]) [] (fun k=>[]) (fun k Bx=>Bx=B∧k≤us.length∧∀y,y∈us.take k→t y=false) (fun k=>us.length - k) 0 t1 rfl (⟨rfl,Nat.zero_le _,by simp⟩) (fun k B2 hle2 hI=>?_)))))))))))
 obtain ⟨rfl,hk,ha⟩:=hI
 refine Zz [(0,_),(1,_),(4,_),(9,_),(10,_),(11,_)] [_] t6 rfl (Za (ZC (h:=Ze (Zb rfl (fun g1=>?_) (fun g1=>?_)))))
 try simp only [sQ,ne_eq] at g1
 refine wSk (Ze (Zg (Za ?_)))
 obtain ⟨m,hm⟩:=ZM (xs:=us) (i:=k) om
 obtain ⟨bb4,oo4,rfl⟩:=hu.base hm
 obtain ⟨_,⟨rfl,hb5,hb5b⟩,hc5⟩:=hu.elem hm
 refine xIx Tryz.underlying35 Zcv (h:=yL [_,_,_] Zfu hc5 0 (h:=xAl [_,_,_] Zf6 (h:=fun b6=>xS [_,_,_] 1 [_,_,_] Zcv (h:=tL2 (Za (xM (h:=xL [_,_,_] Zfu 1 (h:=Zh (Zv8 rfl rfl he rfl rfl (hF m om2 om2) ?_)))))))))
 refine Zb rfl (fun g2=>?_) (fun g2=>?_)
 try simp only [sQ,ne_eq] at g2
 refine Za (xL [_,_,_] Zfu 1 (h:=xS [_,_,_] 0 [_,_,_] Zcv (h:=xA (h:=tL2 (Zf (Zt (Zj (ZJ (Zt (Zj ?_))))))))))
 exact Zqo .ret (.inl rfl) [_,_] ⟨⟨_,rfl,.inr ⟨[_,_,_],Zfu,ZbZ 0 rfl rfl rfl,rfl⟩⟩,rfl,trivial⟩ ⟨by rw [ZsQ hm g2 ha];rfl,rfl,rfl⟩
 try simp only [sQ,ne_eq] at g2
 refine ZK (ZD (Zm (Zd (xD (h:=xM (h:=?_))))))
 exact Zx (k+1) [0] so2 ⟨rfl,oz,ZaW hm ha g2⟩ t6 rfl
 try simp only [sQ,ne_eq] at g1
 refine ZA (ZQ (ZB (Zs (Zm (Za (xAl [_,_,_] Zf6 (h:=fun b8=>tL2 (Za (xL [_,_,_] Zfu 1 (h:=xS [_,_,_] 0 [_,_,_] Zcv (h:=xA (h:=tL2 (Zf ?_)))))))))))))
 exact Zqo .ret (.inl rfl) [_,_] ⟨⟨_,rfl,.inr ⟨[_,_,_],Zfu,ZbZ 0 rfl rfl rfl,rfl⟩⟩,rfl,trivial⟩ ⟨by rw [Zp4 (Za0 oz ha)];rfl,rfl,rfl⟩

theorem ZhW (q:Option Addr) (cp:Nat) (us:List DUser) (nm:Str) (hn:nm.length≤2000000) (B:Kn) (hu:SlK B q cp 3 ZL us):Z1 (pj J) 227 [.slice q us.length cp,str nm] B (.tuple #[.agg #[str (ZaO us nm).1.name,str (ZaO us nm).1.pass,.int .i64 (ZaO us nm).1.quota],.bool (ZaO us nm).2]):=by
 refine cB 15 Tryz.func227 (h:=?_)
 have hun:=hu.len
 refine Za (xBx [_] (h:=fun b1=>xAl [_,_,_] Zf6 (h:=fun b2=>xA (h:=tL2 (Ze (Za (xM (h:=xR ZAE rfl (Zif _ _ _ _ hu) (h:=xN (h:=Zb rfl (fun g0=>?_) (fun g0=>?_)))))))))))
 try simp only [sQ,ne_eq] at g0
 refine Za (xB [] [_,_,_] [_,_,_] ZBU Zf6 (h:=xS [_,_,_] 1 [_,_,_] Zcv (h:=xA (h:=tL2 (Zf (Zj ?_))))))
 exact Zqo .ret (.inl rfl) [_,_] ⟨⟨_,rfl,.inr ⟨[_,_,_],Zfu,ZbZ 1 rfl rfl rfl,rfl⟩⟩,rfl,trivial⟩ ⟨by rw [ZaO,g0];rfl,rfl,rfl⟩
 try simp only [sQ,ne_eq] at g0
 refine wSk (Za (xM (h:=Zh (Zdj (xs:=[]) (ys:=[_]) rfl rfl rfl rfl (Zh (Zfw 0 rfl rfl rfl ZCJ rfl (Z1.borrow fun hm=>ZsR _ _ us 259 _ (fun y=>decide (y.name=nm)) _ (hu.mono ZL.mono (Kn.le_add _ _)) ZCI (fun y h1 h2=>Zk2 y nm _ h1 hn _ (ZjQ hm))) (xE (h:=xE (h:=xS [_,_,_] 1 [_,_,_] Zcv (h:=xA (h:=tL2 (Zf ?_))))))))))))
 exact Zqo .ret (.inl rfl) [_,_] ⟨⟨_,rfl,.inr ⟨[_,_,_],Zfu,ZbZ 1 rfl rfl rfl,rfl⟩⟩,rfl,trivial⟩ ⟨by rw [ZaO,if_pos g0];rfl,rfl,rfl⟩

theorem ZhG (b o:Nat) (q1 q2 q3:Option Addr) (c1 c2 c3:Nat) (x:DHost) (nm:Str) (hn:nm.length≤2000000) (B:Kn) (hh:Zam B b o [str x.domain,.slice q1 x.users.length c1,.slice q2 x.folders.length c2,.int .i64 x.queue.next,.slice q3 x.queue.items.length c3]) (hu:SlK B q1 c1 3 ZL x.users):Z1 (pj J) 179 [ptr ⟨b,o,none⟩,str nm] B (.bool (ZaO x.users nm).2):=by
 refine cB 17 Tryz.func179 (h:=?_)
 refine Za (xA (h:=Za (xM (h:=xNc (h:=xW Zcz (h:=Zh (Zn rfl rfl ZlN rfl (hh _ 1 _ rfl) (xM (h:=xR ZAw rfl (ZhW _ _ _ nm om2 _ hu) (h:=?_))))))))))
 refine xM (h:=xE (h:=xE (h:=xAl [_,_,_] Zf6 (h:=fun b2=>xS [_,_,_] 0 [_,_,_] Zcv (h:=xA (h:=tL1 (Za (xM (h:=xA (h:=Zf ?_))))))))))
 exact eR t1 ⟨rfl,rfl,rfl⟩

theorem ZlR (q1 q2 q3:Option Addr) (c1 c2 c3:Nat) (x:DHost) (ow nm:Str) (ho:ow.length≤2000000) (hn:nm.length≤2000000) (B:Kn) (hf:SlK B q2 c2 5 ZF x.folders):Z1 (pj J) 74 [.agg #[str x.domain,.slice q1 x.users.length c1,.slice q2 x.folders.length c2,.int .i64 x.queue.next,.slice q3 x.queue.items.length c3],str ow,str nm] B (.int .i64 (Zb5 (inF ow nm) x.folders)):=by
 refine cB 34 Tryz.func74 (h:=?_)
 have hfn:=hf.len
 refine Za (xBx [_,_,_,_,_] (h:=fun b1=>xA (h:=tL1 (Ze (Za (xA (h:=Zg (Zv (α:=Nat) [0,1,2,3] (fun k=>[(7,.int .i64 k)]) [] (fun k=>[]) (fun k Bx=>Bx=B∧k≤x.folders.length∧∀y,y∈x.folders.take k→inF ow nm y=false) (fun k=>x.folders.length - k) 0 t1 rfl (⟨rfl,Nat.zero_le _,by simp⟩) (fun k B2 hle2 hI=>?_)))))))))
 obtain ⟨rfl,hk,ha⟩:=hI
 refine Zz [(0,_),(1,_),(2,_),(3,_),(7,_)] [_] t5 rfl (Ze (Za (xM (h:=xW Za5 (h:=x1 ZgE 0 (h:=xV Tryz.underlying36 (h:=ZC (h:=Zb rfl (fun g1=>?_) (fun g1=>?_)))))))))
 try simp only [sQ,ne_eq] at g1
 refine wSk (Ze (Zg (Za (xW Za5 (h:=x1 ZgE 0 (h:=xM (h:=?_)))))))
 obtain ⟨y,hy⟩:=ZM (xs:=x.folders) (i:=k) om
 obtain ⟨bb4,oo4,rfl⟩:=hf.base hy
 obtain ⟨_,⟨qg5,cg5,qm5,cm5,rfl,hg5,hm5,hb5,hb5b⟩,hc5⟩:=hf.elem hy
 have hg5n:=hg5.len
 have hm5n:=hm5.len
 have hm5s:=ZaN hm5
 refine xIx Tryz.underlying36 ZeO (h:=xW Zcy (h:=y1 lk9 hc5 0 (h:=xM (h:=Zcj (h:=xM (h:=Zq (d:=23) rfl (fun g2=>?_) (fun g2=>?_)))))))
 try simp only [sQ,ne_eq] at g2
 refine xW Za5 (h:=x1 ZgE 0 (h:=xM (h:=xIx Tryz.underlying36 ZeO (h:=xW ZeJ (h:=y1 lk9 hc5 1 (h:=xM (h:=Zcj (h:=xT (h:=Zb rfl (fun g3=>?_) (fun g3=>?_))))))))))
 try simp only [sQ,ne_eq] at g3
 refine Za (xM (h:=xA (h:=Zf (Zt (Zj (ZJ (Zt (Zj ?_))))))))
 exact eR t1 ⟨ZH (Zgs hy (by simp [inF,g2,g3]) ha).symm,rfl,rfl⟩
 try simp only [sQ,ne_eq] at g3
 refine ZK (ZD (Zm (Zd (xM (h:=xD (h:=xA (h:=?_)))))))
 exact Zx (k+1) [0] so2 ⟨rfl,oz,ZaW hy ha (by simp [inF,g2,g3])⟩ t5 rfl
 try simp only [sQ,ne_eq] at g2
 refine xP (h:=xP (h:=xP (h:=xP (h:=xP (h:=xP (h:=xP (h:=xP (h:=xF (h:=Zb (t:=false) rfl (fun h=>Bool.noConfusion h) (fun _=>ZK (ZD (Zm (Zd (xM (h:=xD (h:=xA (h:=?_)))))))))))))))))
 exact Zx (k+1) [0] so2 ⟨rfl,oz,ZaW hy ha (by simp [inF,g2])⟩ t5 rfl
 try simp only [sQ,ne_eq] at g1
 refine ZA (ZQ (ZB (Zs (Zm (Za (xA (h:=Zf ?_)))))))
 exact eR t1 ⟨ZH (Zec (Za0 oz ha)).symm,rfl,rfl⟩

theorem Zyr (f:DFolder) (qa qb:Option Addr) (ca cb:Nat) (ow nm:Str) (b b':Nat) (h1:f.owner.length≤2000000) (h2:f.name.length≤2000000) (h3:ow.length≤2000000) (h4:nm.length≤2000000) (B:Kn) (hb:Zam B b 0 [str ow]) (hb2:Zam B b' 0 [str nm]):Z1 (pj J) 236 [.agg #[str f.owner,str f.name,.slice qa f.grants.length ca,.int .i64 f.next,.slice qb f.mail.length cb],ptr ⟨b,0,none⟩,ptr ⟨b',0,none⟩] B (.bool (inF ow nm f)):=by
 refine cB 15 Tryz.func236 (h:=?_)
 refine Za (xBx [_,_,_,_,_] (h:=fun b1=>xA (h:=tL1 (Za (xW Zcy (h:=x1 lk9 0 (h:=Zh (Zn rfl rfl lk9 rfl (hb _ 0 _ rfl) (Zcj (h:=xM (h:=Zq (d:=9) rfl (fun g1=>?_) (fun g1=>?_))))))))))))
 refine xW ZeJ (h:=x1 lk9 0 (h:=Zh (Zn rfl rfl lk9 rfl (hb2 _ 0 _ rfl) (Zcj (h:=xT (h:=xA (h:=Zf ?_)))))))
 exact eR t1 ⟨Zc (by rw [Bool.eq_iff_iff];simp [inF,g1]),rfl,rfl⟩
 refine xP (h:=xP (h:=xP (h:=xP (h:=xF (h:=xA (h:=Zf ?_))))))
 exact eR t1 ⟨Zc (by rw [Bool.eq_iff_iff];simp [inF,g1]),rfl,rfl⟩

theorem Zu5 (q:Option Addr) (cp:Nat) (fs:List DFolder) (F:FuncId) (cap:Array Value) (t:DFolder→Bool) (B:Kn) (hf:SlK B q cp 5 ZF fs) (he:enters (pj J) F=true) (hF :∀(f:DFolder) (qa qb:Option Addr) (ca cb:Nat),f.owner.length≤2000000→f.name.length≤2000000→Z1 (pj J) F ([.agg #[str f.owner,str f.name,.slice qa f.grants.length ca,.int .i64 f.next,.slice qb f.mail.length cb]] ++ cap.toList) B (.bool (t f))):Z1 (pj J) 235 [.slice q fs.length cp,.func (.func F) #[] cap] B (.int .i64 (Zb5 t fs)):=by
 refine cB 19 Tryz.func235 (h:=?_)
 have hfn:=hf.len
 refine Za (xA (h:=Ze (Za (xM (h:=xV Tryz.underlying36 (h:=xM (h:=Zg (Zv (α:=Nat) [0,1,7] (fun k=>[(8,.int .i64 k)]) [] (fun k=>[]) (fun k Bx=>Bx=B∧k≤fs.length∧∀y,y∈fs.take k→t y=false) (fun k=>fs.length - k) 0 t1 rfl (⟨rfl,Nat.zero_le _,by simp⟩) (fun k B1 hle1 hI=>?_)))))))))
 obtain ⟨rfl,hk,ha⟩:=hI
 refine Zz [(0,_),(1,_),(7,_),(8,_)] [] t4 rfl (Za (ZC (h:=Ze (Zb rfl (fun g1=>?_) (fun g1=>?_)))))
 try simp only [sQ,ne_eq] at g1
 refine wSk (Ze (Zg (Za (xM (h:=xA (h:=Za (xM (h:=xM (h:=xM (h:=?_))))))))))
 obtain ⟨y,hy⟩:=ZM (xs:=fs) (i:=k) om
 obtain ⟨bb3,oo3,rfl⟩:=hf.base hy
 obtain ⟨_,⟨qg4,cg4,qm4,cm4,rfl,hg4,hm4,hb4,hb4b⟩,hc4⟩:=hf.elem hy
 have hg4n:=hg4.len
 have hm4n:=hm4.len
 have hm4s:=ZaN hm4
 refine xIx Tryz.underlying36 ZeO (h:=yL [_,_,_,_,_] Zj5 hc4 0 (h:=Zh (Zv8 rfl rfl he rfl rfl (hF y _ _ _ _ om2 om2) ?_)))
 refine Zb rfl (fun g2=>?_) (fun g2=>?_)
 try simp only [sQ,ne_eq] at g2
 refine Za (xM (h:=xA (h:=Zf (Zt (Zj (ZJ (Zt (Zj ?_))))))))
 exact eR t1 ⟨ZH (Zgs hy g2 ha).symm,rfl,rfl⟩
 try simp only [sQ,ne_eq] at g2
 refine ZK (ZD (Zm (Zd (xD (h:=xM (h:=?_))))))
 exact Zx (k+1) [] so2 ⟨rfl,oz,ZaW hy ha g2⟩ t4 rfl
 try simp only [sQ,ne_eq] at g1
 refine ZA (ZQ (ZB (Zs (Zm (Za (xA (h:=Zf ?_)))))))
 exact eR t1 ⟨ZH (Zec (Za0 oz ha)).symm,rfl,rfl⟩

theorem ZwG (b o:Nat) (q1 q2 q3:Option Addr) (c1 c2 c3:Nat) (x:DHost) (ow nm:Str) (ho:ow.length≤2000000) (hn:nm.length≤2000000) (B:Kn) (hh:Zam B b o [str x.domain,.slice q1 x.users.length c1,.slice q2 x.folders.length c2,.int .i64 x.queue.next,.slice q3 x.queue.items.length c3]) (hf:SlK B q2 c2 5 ZF x.folders):Z1 (pj J) 184 [ptr ⟨b,o,none⟩,str ow,str nm] B (.int .i64 (Zb5 (inF ow nm) x.folders)):=by
 refine cB 13 Tryz.func184 (h:=?_)
 refine Za (xBx [_] (h:=fun b1=>xBx [_] (h:=fun b2=>xA (h:=tL2 (Za (xM (h:=xNc (h:=xW Za5 (h:=Zh (Zn rfl rfl ZgE rfl (hh _ 2 _ rfl) (Zh (Zdj (xs:=[]) (ys:=[_,_]) rfl rfl rfl rfl (Zh (Zy3 0 1 rfl rfl rfl rfl rfl ZCX rfl (Z1.borrow2 fun hm1 hm2=>Zu5 _ _ x.folders 236 _ (inF ow nm) _ ((hf.mono ZF.mono (Kn.le_add _ _)).mono ZF.mono (Kn.le_add _ _)) ZCW (fun f qa qb ca cb h1 h2=>Zyr f qa qb ca cb ow nm _ _ h1 h2 ho hn _ (ZjQ hm1) (ZjQ hm2))) (xA (h:=Zf ?_))))))))))))))))
 exact eR t1 ⟨rfl,rfl,rfl⟩

theorem Zna (b o:Nat) (q1 q2 q3:Option Addr) (c1 c2 c3:Nat) (x:DHost) (B:Kn) (hh:Zam B b o [str x.domain,.slice q1 x.users.length c1,.slice q2 x.folders.length c2,.int .i64 x.queue.next,.slice q3 x.queue.items.length c3]) (hu:SlK B q1 c1 3 ZL x.users) (hi:SlK B q3 c3 4 Zar x.queue.items):Z1 (pj J) 141 [ptr ⟨b,o,none⟩] B (.bool (x.queue.items.all (Zde x.users))):=by
 refine cB 35 Tryz.func141 (h:=?_)
 have hin:=hi.len
 refine Za (xA (h:=Ze (Za (xM (h:=xNc (h:=xW ZfC (h:=xW Zc7 (h:=Zh (Zn rfl rfl ZmC rfl (hh _ 4 _ rfl) (xV Tryz.underlying37 (h:=xM (h:=Zg (Zv (α:=Nat) [0,11,12] (fun k=>[(13,.int .i64 k)]) [] (fun k=>[]) (fun k Bx=>Bx=B∧k≤x.queue.items.length∧∀y,y∈x.queue.items.take k→Zde x.users y=true) (fun k=>x.queue.items.length - k) 0 t1 rfl (⟨rfl,Nat.zero_le _,by simp⟩) (fun k B1 hle1 hI=>?_))))))))))))))
 obtain ⟨rfl,hk,ha⟩:=hI
 refine Zz [(0,_),(11,_),(12,_),(13,_)] [] t4 rfl (Za (ZC (h:=Ze (Zb rfl (fun g1=>?_) (fun g1=>?_)))))
 try simp only [sQ,ne_eq] at g1
 refine wSk (Ze (Zg (Za ?_)))
 obtain ⟨y,hy⟩:=ZM (xs:=x.queue.items) (i:=k) om
 obtain ⟨bb3,oo3,rfl⟩:=hi.base hy
 obtain ⟨_,⟨qi4,ci4,rfl,hi4,hb4,hb4b⟩,hc4⟩:=hi.elem hy
 have hi4n:=hi4.len
 refine xIx Tryz.underlying37 ZcR (h:=yL [_,_,_,_] ZfX hc4 0 (h:=xAl [_,_,_,_] ZgF (h:=fun b5=>xS [_,_,_,_] 0 [_,_,_,_] ZcR (h:=tL1 (Ze (Za (xM (h:=xW Ze6 (h:=x1 lk9 0 (h:=xR ZvB rfl (ZhG _ _ _ _ _ _ _ _ x y.fr om2 _ hh hu) (h:=?_)))))))))))
 refine xN (h:=Zb rfl (fun g2=>?_) (fun g2=>?_))
 try simp only [sQ,ne_eq] at g2
 refine Za (xA (h:=Zf (Zj (Zt (Zj (ZJ (Zt (Zj ?_))))))))
 exact eR t1 ⟨Zc (Zb1 hy (by simp [Zde,g2])).symm,rfl,rfl⟩
 try simp only [sQ,ne_eq] at g2
 refine wSk (Za (xW ZdV (h:=x1 ZgU 0 (h:=xV Tryz.underlying134 (h:=xM (h:=Zg (Zv (α:=Nat) [0,4,11,12,13,14,21,23,24] (fun j=>[(25,.int .i64 j)]) [] (fun j=>[]) (fun j Bx=>Bx=B1∧j≤y.left.length∧∀z,z∈y.left.take j→(ZaO x.users z).2=true) (fun j=>y.left.length - j) 0 t1 rfl (⟨rfl,Nat.zero_le _,by simp⟩) (fun j B7 hle7 hI=>?_))))))))
 obtain ⟨rfl,hj,hb⟩:=hI
 refine Zz [(0,_),(4,_),(11,_),(12,_),(13,_),(14,_),(21,_),(23,_),(24,_),(25,_)] [_] t10 rfl (Za (ZC (h:=Ze (Zb rfl (fun g3=>?_) (fun g3=>?_)))))
 try simp only [sQ,ne_eq] at g3
 refine wSk (Ze (Zg (Za ?_)))
 obtain ⟨z,hz⟩:=ZM (xs:=y.left) (i:=j) om
 obtain ⟨bb9,oo9,rfl⟩:=hi4.base hz
 obtain ⟨_,⟨rfl,hb10⟩,hc10⟩:=hi4.elem hz
 refine xIx Tryz.underlying134 sz9 (h:=y1 lk9 hc10 0 (h:=xA (h:=Za (xM (h:=xM (h:=xR ZvB rfl (ZhG _ _ _ _ _ _ _ _ x z om2 _ hh hu) (h:=?_)))))))
 refine xN (h:=Zb rfl (fun g4=>?_) (fun g4=>?_))
 try simp only [sQ,ne_eq] at g4
 refine Za (xA (h:=Zf (Zt (Zj (ZJ (Zt (Zt (Zj (ZJ (Zt (Zj ?_)))))))))))
 exact eR t1 ⟨Zc (Zb1 hy (by rw [Zde,Zb1 hz g4,Bool.and_false])).symm,rfl,rfl⟩
 try simp only [sQ,ne_eq] at g4
 refine ZK (ZD (Zm (Zd (xD (h:=xM (h:=?_))))))
 exact Zx (j+1) [0] so2 ⟨rfl,oz,ZaW hz hb g4⟩ t10 rfl
 try simp only [sQ,ne_eq] at g3
 refine ZA (ZQ (ZB (Zs (ZD (Zm (Zd (xD (h:=xM (h:=?_)))))))))
 exact Zx (k+1) [] so2 ⟨rfl,oz,ZaW hy ha (by rw [Zde,g2,ZdP (Za0 oz hb)];rfl)⟩ t4 rfl
 try simp only [sQ,ne_eq] at g1
 refine ZA (ZQ (ZB (Zs (Zm (Za (xA (h:=Zf ?_)))))))
 exact eR t1 ⟨Zc (ZdP (Za0 oz ha)).symm,rfl,rfl⟩

theorem Zr3 (f g:DFolder) (qa qb qc qd:Option Addr) (ca cb cc cd:Nat) (B:Kn):Z1 (pj J) 123 [.agg #[str f.owner,str f.name,.slice qa f.grants.length ca,.int .i64 f.next,.slice qb f.mail.length cb],.agg #[str g.owner,str g.name,.slice qc g.grants.length cc,.int .i64 g.next,.slice qd g.mail.length cd]] B (.bool (Zgp f g)):=by
 refine cB 24 Tryz.func123 (h:=?_)
 refine Za (xBx [_,_,_,_,_] (h:=fun b1=>xBx [_,_,_,_,_] (h:=fun b2=>xA (h:=tL2 (Za (xW Zcy (h:=x1 lk9 0 (h:=xW Zcy (h:=x1 lk9 1 (h:=Zv7 (h:=xM (h:=Zq (d:=10) rfl (fun g1=>?_) (fun g1=>?_)))))))))))))
 refine xP (h:=xP (h:=xP (h:=xP (h:=xP (h:=xP (h:=xP (h:=xP (h:=xP (h:=xP (h:=xP (h:=xP (h:=xT (h:=xA (h:=Zf ?_))))))))))))))
 exact eR t1 ⟨Zc (by rw [Bool.eq_iff_iff];simp [Zgp,ZdM,g1]),rfl,rfl⟩
 refine xW Zcy (h:=x1 lk9 0 (h:=xW Zcy (h:=x1 lk9 1 (h:=Zcj (h:=xM (h:=Zq (d:=16) rfl (fun g2=>?_) (fun g2=>?_)))))))
 refine xW ZeJ (h:=x1 lk9 0 (h:=xW ZeJ (h:=x1 lk9 1 (h:=Zv7 (h:=xT (h:=xF (h:=xA (h:=Zf ?_))))))))
 exact eR t1 ⟨Zc (by rw [Bool.eq_iff_iff];simp [Zgp,ZdM,g1,g2]),rfl,rfl⟩
 refine xP (h:=xP (h:=xP (h:=xP (h:=xP (h:=xF (h:=xF (h:=xA (h:=Zf ?_))))))))
 exact eR t1 ⟨Zc (by rw [Bool.eq_iff_iff];simp [Zgp,ZdM,g1,g2]),rfl,rfl⟩

theorem ZmZ (q:Option Addr) (cp:Nat) (us:List DUser) (B:Kn) (hu:SlK B q cp 3 ZL us):Z1 (pj J) 71 [.slice q us.length cp] B (.bool (ZaJ us)):=by
 refine cB 54 Tryz.func71 (h:=?_)
 have hun:=hu.len
 refine Za (xA (h:=Ze (Za (xA (h:=Zg (Zv (α:=Nat × Str) [0] (fun g=>[(3,.int .i64 g.1)]) [] (fun g=>[]) (fun g Bx=>Bx=B∧g.1≤us.length∧Zeo (us.take g.1)=(true,g.2)∧Prev (fun y=>y.name) ([]:Str) us g.1 g.2) (fun g=>us.length - g.1) (0,[]) t1 rfl (⟨rfl,Nat.zero_le _,ZfS,.zero⟩) (fun g B1 hle1 hI=>?_)))))))
 obtain ⟨rfl,hk,hs,hp⟩:=hI
 refine Zz [(0,_),(3,_)] [] t2 rfl (Ze (Za (xM (h:=xM (h:=xV Tryz.underlying35 (h:=ZC (h:=Zb rfl (fun g1=>?_) (fun g1=>?_))))))))
 try simp only [sQ,ne_eq] at g1
 refine wSk (Ze (Zg (Za (xM (h:=xM (h:=?_))))))
 obtain ⟨m,hm⟩:=ZM (xs:=us) (i:=g.1) om
 obtain ⟨bb3,oo3,rfl⟩:=hu.base hm
 obtain ⟨_,⟨rfl,hb4,hb4b⟩,hc4⟩:=hu.elem hm
 refine xIx Tryz.underlying35 Zcv (h:=yL [_,_,_] Zfu hc4 0 (h:=xAl [_,_,_] Zf6 (h:=fun b5=>xS [_,_,_] 0 [_,_,_] Zcv (h:=tL1 (Ze (ZW (same _ _) mo kr ⟨rfl,rfl⟩ (fun _ _=>?_)))))))
 refine aW 0 rfl Zbp (h:=aT 1 rfl (Z3 fun D=>Zn rfl rfl lk9 rfl (atL 0 rfl rfl rfl) r4) (h:=aT 2 rfl (Z3 fun D=>Z5 rfl rfl Zmd rfl (Zca _ om2 _) r4) (h:=?_)))
 refine aN 3 rfl (h:=aM 4 rfl (h:=Zax (d:=19) rfl (fun g2=>?_) (fun g2=>?_)))
 try simp only [sQ,ne_eq] at g2
 refine aZ 5 rfl (h:=aZ 6 rfl (h:=aZ 7 rfl (h:=aPT 8 rfl (h:=aM 9 rfl (h:=aZ 10 rfl (h:=aZ 11 rfl (h:=aZ 12 rfl (h:=aZ 13 rfl (h:=aPT 14 rfl (h:=aM 15 rfl (h:=aZ 16 rfl (h:=aZ 17 rfl (h:=aZ 18 rfl (h:=aZ 19 rfl (h:=aPT 20 rfl (h:=aM 21 rfl (h:=aZ 22 rfl (h:=aZ 23 rfl (h:=aZ 24 rfl (h:=aZ 25 rfl (h:=aZ 26 rfl (h:=aZ 27 rfl (h:=aZ 28 rfl (h:=aZ 29 rfl (h:=aZ 30 rfl (h:=aZ 31 rfl (h:=aZ 32 rfl (h:=aZ 33 rfl (h:=aZ 34 rfl (h:=aPT 35 rfl (h:=Zy kr kr ?_)))))))))))))))))))))))))))))))
 refine Zm (Zb (t:=true) rfl (fun _=>Za (xA (h:=Zf (Zt (Zj (ZJ (Zt (Zj ?_)))))))) (fun h=>Bool.noConfusion h))
 exact eR t1 ⟨Zc (Zdn hm hs (by simp [ZeN,Zc2,anyone,g1,g2])).symm,rfl,rfl⟩
 try simp only [sQ,ne_eq] at g2
 refine aW 5 rfl Zbp (h:=aT 6 rfl (Z3 fun D=>Zn rfl rfl lk9 rfl (atL 0 rfl rfl rfl) r4) (h:=ZtA 7 rfl (h:=aPF 8 rfl (h:=aM 9 rfl (h:=Zax (d:=24) rfl (fun g3=>?_) (fun g3=>?_))))))
 try simp only [sQ,ne_eq] at g3
 refine aZ 10 rfl (h:=aZ 11 rfl (h:=aZ 12 rfl (h:=aZ 13 rfl (h:=aPT 14 rfl (h:=aM 15 rfl (h:=aZ 16 rfl (h:=aZ 17 rfl (h:=aZ 18 rfl (h:=aZ 19 rfl (h:=aPT 20 rfl (h:=aM 21 rfl (h:=aZ 22 rfl (h:=aZ 23 rfl (h:=aZ 24 rfl (h:=aZ 25 rfl (h:=aZ 26 rfl (h:=aZ 27 rfl (h:=aZ 28 rfl (h:=aZ 29 rfl (h:=aZ 30 rfl (h:=aZ 31 rfl (h:=aZ 32 rfl (h:=aZ 33 rfl (h:=aZ 34 rfl (h:=aPT 35 rfl (h:=Zy kr kr ?_))))))))))))))))))))))))))
 refine Zm (Zb (t:=true) rfl (fun _=>Za (xA (h:=Zf (Zt (Zj (ZJ (Zt (Zj ?_)))))))) (fun h=>Bool.noConfusion h))
 exact eR t1 ⟨Zc (Zdn hm hs (by simp [ZeN,Zc2,anyone,g1,g2,g3])).symm,rfl,rfl⟩
 try simp only [sQ,ne_eq] at g3
 refine aW 10 rfl Zg1 (h:=aT 11 rfl (Z3 fun D=>Zn rfl rfl lk9 rfl (atL 0 rfl rfl rfl) r4) (h:=aT 12 rfl (Z3 fun D=>Z5 rfl rfl Zmd rfl (Zca _ om2 _) r4) (h:=?_)))
 refine aN 13 rfl (h:=aPF 14 rfl (h:=aM 15 rfl (h:=Zax (d:=30) rfl (fun g4=>?_) (fun g4=>?_))))
 try simp only [sQ,ne_eq] at g4
 refine aZ 16 rfl (h:=aZ 17 rfl (h:=aZ 18 rfl (h:=aZ 19 rfl (h:=aPT 20 rfl (h:=aM 21 rfl (h:=aZ 22 rfl (h:=aZ 23 rfl (h:=aZ 24 rfl (h:=aZ 25 rfl (h:=aZ 26 rfl (h:=aZ 27 rfl (h:=aZ 28 rfl (h:=aZ 29 rfl (h:=aZ 30 rfl (h:=aZ 31 rfl (h:=aZ 32 rfl (h:=aZ 33 rfl (h:=aZ 34 rfl (h:=aPT 35 rfl (h:=Zy kr kr ?_))))))))))))))))))))
 refine Zm (Zb (t:=true) rfl (fun _=>Za (xA (h:=Zf (Zt (Zj (ZJ (Zt (Zj ?_)))))))) (fun h=>Bool.noConfusion h))
 exact eR t1 ⟨Zc (Zdn hm hs (by simp [ZeN,Zc2,anyone,g1,g2,g3,g4])).symm,rfl,rfl⟩
 try simp only [sQ,ne_eq] at g4
 refine aW 16 rfl ZeA (h:=aT 17 rfl (Z3 fun D=>Zn rfl rfl lk3 rfl (atL 0 rfl rfl rfl) r4) (h:=aT 18 rfl (Z3 fun D=>Z5 rfl rfl ZmD rfl (Zc6 _ _ _ _) r4) (h:=aN 19 rfl (h:=aPF 20 rfl (h:=aM 21 rfl (h:=Zax (d:=36) rfl (fun g5=>?_) (fun g5=>?_)))))))
 try simp only [sQ,ne_eq] at g5
 refine aZ 22 rfl (h:=aZ 23 rfl (h:=aZ 24 rfl (h:=aZ 25 rfl (h:=aZ 26 rfl (h:=aZ 27 rfl (h:=aZ 28 rfl (h:=aZ 29 rfl (h:=aZ 30 rfl (h:=aZ 31 rfl (h:=aZ 32 rfl (h:=aZ 33 rfl (h:=aZ 34 rfl (h:=aPT 35 rfl (h:=Zy kr kr ?_))))))))))))))
 refine Zm (Zb (t:=true) rfl (fun _=>Za (xA (h:=Zf (Zt (Zj (ZJ (Zt (Zj ?_)))))))) (fun h=>Bool.noConfusion h))
 exact eR t1 ⟨Zc (Zdn hm hs (by simp [ZeN,Zc2,anyone,g1,g2,g3,g4,g5])).symm,rfl,rfl⟩
 try simp only [sQ,ne_eq] at g5
 refine aM 22 rfl (h:=Ztz 23 rfl (h:=aM 24 rfl (h:=Zax (d:=39) rfl (fun g6=>?_) (fun g6=>?_))))
 try simp only [sQ,ne_eq] at g6
 refine aM 25 rfl (h:=aM 26 rfl (h:=aU 27 rfl (h:=?_)))
 obtain ⟨y,hy⟩:=Zvq (xs:=us) (i:=(↑g.1 - 1)) om om
 obtain ⟨_,⟨rfl,hb10,hb10b⟩,hc10⟩:=hu.elem hy
 refine aIx 28 rfl Tryz.underlying35 Zcv (h:=?_)
 have hpe:=hp.at hy oz
 refine aW 29 rfl Zbp (h:=aT 30 rfl (Z3 fun D=>Zn rfl rfl lk9 rfl (hc10 _ 0 _ rfl) r4) (h:=aW 31 rfl Zbp (h:=aT 32 rfl (Z3 fun D=>Zn rfl rfl lk9 rfl (atL 0 rfl rfl rfl) r4) (h:=aT 33 rfl (Z3 fun D=>Zwg rfl rfl rfl rfl r4) (h:=aPT 34 rfl (h:=aPF 35 rfl (h:=Zy kr kr ?_)))))))
 refine Zm (Zb rfl (fun g7=>?_) (fun g7=>?_))
 try simp only [sQ,ne_eq] at g7
 refine Za (xA (h:=Zf (Zt (Zj (ZJ (Zt (Zj ?_)))))))
 exact eR t1 ⟨Zc (Zdn hm hs (by simp [ZeN,Zc2,anyone,g1,g2,g3,g4,g5,g6,g7,hpe])).symm,rfl,rfl⟩
 try simp only [sQ,ne_eq] at g7
 refine ZK (ZD (Zm (Zd (xM (h:=xD (h:=xA (h:=?_)))))))
 exact Zx (g.1+1,m.name) [] so2 ⟨rfl,oz,ZcN hm hs (by rw [hpe];simp [ZeN,Zc2,anyone,g2,g3,g4,g7];simp at g5;omega),.succ hm⟩ t2 rfl
 try simp only [sQ,ne_eq] at g6
 refine aZ 25 rfl (h:=aZ 26 rfl (h:=aZ 27 rfl (h:=aZ 28 rfl (h:=aZ 29 rfl (h:=aZ 30 rfl (h:=aZ 31 rfl (h:=aZ 32 rfl (h:=aZ 33 rfl (h:=aPF 34 rfl (h:=aPF 35 rfl (h:=Zy kr kr ?_)))))))))))
 refine Zm (Zb (t:=false) rfl (fun h=>Bool.noConfusion h) (fun _=>ZK (ZD (Zm (Zd (xM (h:=xD (h:=xA (h:=?_)))))))))
 exact Zx (g.1+1,m.name) [] so2 ⟨rfl,oz,ZcN hm hs (by rw [hp.at0 oz];simp [ZeN,Zc2,anyone,g2,g3,g4,Zoy (Zjb g2)];simp at g5;omega),.succ hm⟩ t2 rfl
 try simp only [sQ,ne_eq] at g1
 refine ZA (ZQ (ZB (Zs (Zm (Za (xM (h:=xV Tryz.underlying35 (h:=xR ZmD rfl (Zc6 _ _ _ _) (h:=xA (h:=Zf ?_))))))))))
 exact eR t1 ⟨Zc (by rw [ZhU (Zew hs oz),Bool.eq_iff_iff];simp;omega),rfl,rfl⟩

theorem Zrd (q:Option Addr) (cp:Nat) (gs:List DGrant) (B:Kn) (hg:SlK B q cp 2 Zaf gs):Z1 (pj J) 122 [.slice q gs.length cp] B (.bool (ZdF gs)):=by
 refine cB 47 Tryz.func122 (h:=?_)
 have hgn:=hg.len
 refine Za (xA (h:=Ze (Za (xA (h:=Zg (Zv (α:=Nat × Str) [0] (fun g=>[(3,.int .i64 g.1)]) [] (fun g=>[]) (fun g Bx=>Bx=B∧g.1≤gs.length∧ZcW (gs.take g.1)=(true,g.2)∧Prev (fun y=>y.user) ([]:Str) gs g.1 g.2) (fun g=>gs.length - g.1) (0,[]) t1 rfl (⟨rfl,Nat.zero_le _,ZfS,.zero⟩) (fun g B1 hle1 hI=>?_)))))))
 obtain ⟨rfl,hk,hs,hp⟩:=hI
 refine Zz [(0,_),(3,_)] [] t2 rfl (Ze (Za (xM (h:=xM (h:=xV Tryz.underlying85 (h:=ZC (h:=Zb rfl (fun g1=>?_) (fun g1=>?_))))))))
 try simp only [sQ,ne_eq] at g1
 refine wSk (Ze (Zg (Ze (ZW (same _ _) mo kr ⟨rfl,rfl⟩ (fun _ _=>?_)))))
 refine aM 0 rfl (h:=aM 1 rfl (h:=?_))
 obtain ⟨m,hm⟩:=ZM (xs:=gs) (i:=g.1) om
 obtain ⟨bb3,oo3,rfl⟩:=hg.base hm
 obtain ⟨_,⟨rfl,hb4⟩,hc4⟩:=hg.elem hm
 refine aIx 2 rfl Tryz.underlying85 ZeP (h:=aW 3 rfl ZcJ (h:=aT 4 rfl (Z3 fun D=>Zn rfl rfl lk9 rfl (hc4 _ 0 _ rfl) r4) (h:=aT 5 rfl (Z3 fun D=>Z5 rfl rfl Zmd rfl (Zca _ om2 _) r4) (h:=?_))))
 refine aN 6 rfl (h:=aM 7 rfl (h:=Zax (d:=17) rfl (fun g2=>?_) (fun g2=>?_)))
 try simp only [sQ,ne_eq] at g2
 refine aZ 8 rfl (h:=aZ 9 rfl (h:=aZ 10 rfl (h:=aZ 11 rfl (h:=aZ 12 rfl (h:=aZ 13 rfl (h:=aZ 14 rfl (h:=aPT 15 rfl (h:=aM 16 rfl (h:=aZ 17 rfl (h:=aZ 18 rfl (h:=aZ 19 rfl (h:=aZ 20 rfl (h:=aZ 21 rfl (h:=aZ 22 rfl (h:=aZ 23 rfl (h:=aZ 24 rfl (h:=aZ 25 rfl (h:=aZ 26 rfl (h:=aZ 27 rfl (h:=aZ 28 rfl (h:=aZ 29 rfl (h:=aZ 30 rfl (h:=aZ 31 rfl (h:=aZ 32 rfl (h:=aPT 33 rfl (h:=Zy kr kr ?_))))))))))))))))))))))))))
 refine Zm (Zb (t:=true) rfl (fun _=>Za (xA (h:=Zf (Zt (Zj (ZJ (Zt (Zj ?_)))))))) (fun h=>Bool.noConfusion h))
 exact eR t1 ⟨Zc (ZdB hm hs (by simp [Zce,g1,g2])).symm,rfl,rfl⟩
 try simp only [sQ,ne_eq] at g2
 refine aM 8 rfl (h:=aM 9 rfl (h:=aIx 10 rfl Tryz.underlying85 ZeP (h:=aW 11 rfl ZdT (h:=aT 12 rfl (Z3 fun D=>Zn rfl rfl lk3 rfl (hc4 _ 1 _ rfl) r4) (h:=aT 13 rfl (Z3 fun D=>Z5 rfl rfl ZmD rfl (Zc6 _ _ _ _) r4) (h:=aN 14 rfl (h:=aPF 15 rfl (h:=aM 16 rfl (h:=Zax (d:=26) rfl (fun g4=>?_) (fun g4=>?_))))))))))
 try simp only [sQ,ne_eq] at g4
 refine aZ 17 rfl (h:=aZ 18 rfl (h:=aZ 19 rfl (h:=aZ 20 rfl (h:=aZ 21 rfl (h:=aZ 22 rfl (h:=aZ 23 rfl (h:=aZ 24 rfl (h:=aZ 25 rfl (h:=aZ 26 rfl (h:=aZ 27 rfl (h:=aZ 28 rfl (h:=aZ 29 rfl (h:=aZ 30 rfl (h:=aZ 31 rfl (h:=aZ 32 rfl (h:=aPT 33 rfl (h:=Zy kr kr ?_)))))))))))))))))
 refine Zm (Zb (t:=true) rfl (fun _=>Za (xA (h:=Zf (Zt (Zj (ZJ (Zt (Zj ?_)))))))) (fun h=>Bool.noConfusion h))
 exact eR t1 ⟨Zc (ZdB hm hs (by simp [Zce,g1,g2,g4])).symm,rfl,rfl⟩
 try simp only [sQ,ne_eq] at g4
 refine aM 17 rfl (h:=Ztz 18 rfl (h:=aM 19 rfl (h:=Zax (d:=29) rfl (fun g6=>?_) (fun g6=>?_))))
 try simp only [sQ,ne_eq] at g6
 refine aM 20 rfl (h:=aM 21 rfl (h:=aU 22 rfl (h:=?_)))
 obtain ⟨y,hy⟩:=Zvq (xs:=gs) (i:=(↑g.1 - 1)) om om
 obtain ⟨_,⟨rfl,hb8⟩,hc8⟩:=hg.elem hy
 refine aIx 23 rfl Tryz.underlying85 ZeP (h:=?_)
 have hpe:=hp.at hy oz
 refine aW 24 rfl ZcJ (h:=aT 25 rfl (Z3 fun D=>Zn rfl rfl lk9 rfl (hc8 _ 0 _ rfl) r4) (h:=aM 26 rfl (h:=aM 27 rfl (h:=aIx 28 rfl Tryz.underlying85 ZeP (h:=aW 29 rfl ZcJ (h:=aT 30 rfl (Z3 fun D=>Zn rfl rfl lk9 rfl (hc4 _ 0 _ rfl) r4) (h:=aT 31 rfl (Z3 fun D=>Zwg rfl rfl rfl rfl r4) (h:=aPT 32 rfl (h:=aPF 33 rfl (h:=Zy kr kr ?_))))))))))
 refine Zm (Zb rfl (fun g7=>?_) (fun g7=>?_))
 try simp only [sQ,ne_eq] at g7
 refine Za (xA (h:=Zf (Zt (Zj (ZJ (Zt (Zj ?_)))))))
 exact eR t1 ⟨Zc (ZdB hm hs (by simp [Zce,g1,g2,g4,g6,g7,hpe])).symm,rfl,rfl⟩
 try simp only [sQ,ne_eq] at g7
 refine ZK (ZD (Zm (Zd (xM (h:=xD (h:=xA (h:=?_)))))))
 exact Zx (g.1+1,m.user) [] so2 ⟨rfl,oz,ZcN hm hs (by rw [hpe];simp [Zce,g2,g7];simp at g4;omega),.succ hm⟩ t2 rfl
 try simp only [sQ,ne_eq] at g6
 refine aZ 20 rfl (h:=aZ 21 rfl (h:=aZ 22 rfl (h:=aZ 23 rfl (h:=aZ 24 rfl (h:=aZ 25 rfl (h:=aZ 26 rfl (h:=aZ 27 rfl (h:=aZ 28 rfl (h:=aZ 29 rfl (h:=aZ 30 rfl (h:=aZ 31 rfl (h:=aPF 32 rfl (h:=aPF 33 rfl (h:=Zy kr kr ?_))))))))))))))
 refine Zm (Zb (t:=false) rfl (fun h=>Bool.noConfusion h) (fun _=>ZK (ZD (Zm (Zd (xM (h:=xD (h:=xA (h:=?_)))))))))
 exact Zx (g.1+1,m.user) [] so2 ⟨rfl,oz,ZcN hm hs (by rw [hp.at0 oz];simp [Zce,g2,Zoy (Zjb g2)];simp at g4;omega),.succ hm⟩ t2 rfl
 try simp only [sQ,ne_eq] at g1
 refine ZA (ZQ (ZB (Zs (Zm (Za (xM (h:=xV Tryz.underlying85 (h:=Zbd (h:=xA (h:=Zf ?_))))))))))
 exact eR t1 ⟨Zc (by rw [Zmz (Zew hs oz),Bool.eq_iff_iff];simp;try omega),rfl,rfl⟩

theorem ZpJ (q1 q2 q3:Option Addr) (c1 c2 c3:Nat) (x:DHost) (q:Option Addr) (cp:Nat) (ns:List Str) (B:Kn) (hu:SlK B q1 c1 3 ZL x.users) (hn:SlK B q cp 1 Zel ns):Z1 (pj J) 77 [.agg #[str x.domain,.slice q1 x.users.length c1,.slice q2 x.folders.length c2,.int .i64 x.queue.next,.slice q3 x.queue.items.length c3],.slice q ns.length cp] B (.bool (ZlU x.users ns)):=by
 refine cB 20 Tryz.func77 (h:=?_)
 have hnn:=hn.len
 have hun:=hu.len
 refine Za (xBx [_,_,_,_,_] (h:=fun b1=>xA (h:=tL1 (Ze (Za (xA (h:=Zg (Zv (α:=Nat) [0,1,2] (fun k=>[(5,.int .i64 k)]) [] (fun k=>[]) (fun k Bx=>Bx=B∧k≤ns.length∧∀z,z∈ns.take k→decide (0≤Zhn x.users z)=true) (fun k=>ns.length - k) 0 t1 rfl (⟨rfl,Nat.zero_le _,by simp⟩) (fun k B2 hle2 hI=>?_)))))))))
 obtain ⟨rfl,hk,ha⟩:=hI
 refine Zz [(0,_),(1,_),(2,_),(5,_)] [_] t4 rfl (Ze (Za (xM (h:=xM (h:=xV Tryz.underlying134 (h:=ZC (h:=Zb rfl (fun g1=>?_) (fun g1=>?_))))))))
 try simp only [sQ,ne_eq] at g1
 refine wSk (Ze (Zg (Ze (ZW (same _ _) mo kr ⟨rfl,rfl⟩ (fun _ _=>?_)))))
 refine aW 0 rfl Zcz (h:=aT 1 rfl (Z3 fun D=>Zn rfl rfl ZlN rfl (atL 0 rfl rfl rfl) r4) (h:=aM 2 rfl (h:=aM 3 rfl (h:=?_))))
 obtain ⟨z,hz⟩:=ZM (xs:=ns) (i:=k) om
 obtain ⟨bb4,oo4,rfl⟩:=hn.base hz
 obtain ⟨_,⟨rfl,hb5⟩,hc5⟩:=hn.elem hz
 refine aIx 4 rfl Tryz.underlying134 sz9 (h:=aT 5 rfl (Z3 fun D=>Zn rfl rfl lk9 rfl (hc5 _ 0 _ rfl) r4) (h:=aT 6 rfl (Z3 fun D=>Z5 rfl rfl ZA5 rfl (Zgq _ _ _ _ _ hu) r4) (h:=Zty 7 rfl (h:=Zy kr kr ?_))))
 refine Zm (Zb rfl (fun g2=>?_) (fun g2=>?_))
 try simp only [sQ,ne_eq] at g2
 refine Za (xA (h:=Zf (Zt (Zj (ZJ (Zt (Zj ?_)))))))
 exact eR t1 ⟨Zc (Zb1 hz (by simp;omega)).symm,rfl,rfl⟩
 try simp only [sQ,ne_eq] at g2
 refine ZK (ZD (Zm (Zd (xM (h:=xD (h:=xA (h:=?_)))))))
 exact Zx (k+1) [0] so2 ⟨rfl,oz,ZaW hz ha (by simp;omega)⟩ t4 rfl
 try simp only [sQ,ne_eq] at g1
 refine ZA (ZQ (ZB (Zs (Zm (Za (xA (h:=Zf ?_)))))))
 exact eR t1 ⟨Zc (ZdP (Za0 oz ha)).symm,rfl,rfl⟩

theorem Zr2 (q1 q2 q3:Option Addr) (c1 c2 c3:Nat) (x:DHost) (u:Str) (B:Kn) (hf:SlK B q2 c2 5 ZF x.folders):Z1 (pj J) 75 [.agg #[str x.domain,.slice q1 x.users.length c1,.slice q2 x.folders.length c2,.int .i64 x.queue.next,.slice q3 x.queue.items.length c3],str u] B (.int .i64 (Zgb x.folders u)):=by
 refine cB 32 Tryz.func75 (h:=?_)
 have hfn:=hf.len
 refine Za (xBx [_,_,_,_,_] (h:=fun b1=>xA (h:=tL1 (Za (xA (h:=Ze (Za (xA (h:=Zg (Zv (α:=Nat × Nat) [0,1,2,4] (fun g=>[(5,.int .i64 g.2),(6,.int .i64 g.1)]) [] (fun g=>[]) (fun g Bx=>Bx=B∧g.1≤x.folders.length∧g.2=Zgb (x.folders.take g.1) u∧g.2≤g.1*4000000000000) (fun g=>x.folders.length - g.1) (0,0) t2 rfl (⟨rfl,Nat.zero_le _,by simp [Zgb],oz⟩) (fun g B2 hle2 hI=>?_)))))))))))
 obtain ⟨rfl,hk,hs,hl⟩:=hI
 refine Zz [(0,_),(1,_),(2,_),(4,_),(5,_),(6,_)] [_] t6 rfl (Ze (Za (xM (h:=xW Za5 (h:=x1 ZgE 0 (h:=xV Tryz.underlying36 (h:=ZC (h:=Zb rfl (fun g1=>?_) (fun g1=>?_)))))))))
 try simp only [sQ,ne_eq] at g1
 refine wSk (Ze (Zg (Za (xW Za5 (h:=x1 ZgE 0 (h:=xM (h:=?_)))))))
 obtain ⟨m,hm⟩:=ZM (xs:=x.folders) (i:=g.1) om
 obtain ⟨bb4,oo4,rfl⟩:=hf.base hm
 obtain ⟨_,⟨qg5,cg5,qm5,cm5,rfl,hg5,hm5,hb5,hb5b⟩,hc5⟩:=hf.elem hm
 have hg5n:=hg5.len
 have hm5n:=hm5.len
 have hm5s:=ZaN hm5
 refine xIx Tryz.underlying36 ZeO (h:=xW Zcy (h:=y1 lk9 hc5 0 (h:=xM (h:=Zcj (h:=Zb rfl (fun g2=>?_) (fun g2=>?_))))))
 try simp only [sQ,ne_eq] at g2
 refine Zd (xM (h:=xW Za5 (h:=x1 ZgE 0 (h:=xM (h:=xIx Tryz.underlying36 ZeO (h:=xW Zed (h:=yL [_,_] Zhm hc5 3 (h:=xR ZD1 rfl (Zr7 _ _ (⟨m.next,m.mail⟩:DBox) _ hm5) (h:=xD (h:=xA (h:=ZD (Zm (Zd (xM (h:=xD (h:=xA (h:=?_)))))))))))))))))
 exact Zx (g.1+1,g.2+ZbR m.mail) [0] so2 ⟨rfl,so,by rw [ZiZ hm,← hs,if_pos g2],so⟩ t6 rfl
 try simp only [sQ,ne_eq] at g2
 refine ZK (ZD (Zm (Zd (xM (h:=xD (h:=xA (h:=?_)))))))
 exact Zx (g.1+1,g.2) [0] so2 ⟨rfl,so,by rw [ZiZ hm,← hs,if_neg g2];simp only [Nat.add_zero],Nat.le_trans hl (Nat.mul_le_mul_right _ (Nat.le_succ _))⟩ t6 rfl
 try simp only [sQ,ne_eq] at g1
 refine ZA (ZQ (ZB (Zs (Zm (Za (xM (h:=xA (h:=Zf ?_))))))))
 exact eR t1 ⟨ZH (by rw [← ZqQ hs oz]),rfl,rfl⟩

theorem ZlQ (q1 q2 q3:Option Addr) (c1 c2 c3:Nat) (x:DHost) (B:Kn) (hu:SlK B q1 c1 3 ZL x.users) (hf:SlK B q2 c2 5 ZF x.folders):Z1 (pj J) 73 [.agg #[str x.domain,.slice q1 x.users.length c1,.slice q2 x.folders.length c2,.int .i64 x.queue.next,.slice q3 x.queue.items.length c3]] B (.bool (Zct x.users x.folders)):=by
 refine cB 60 Tryz.func73 (h:=?_)
 have hfn:=hf.len
 have hun:=hu.len
 refine Za (xBx [_,_,_,_,_] (h:=fun b1=>xA (h:=tL1 (Ze (Za (xA (h:=Zg (Zv (α:=Nat × Option DFolder) [0,1] (fun g=>[(3,.int .i64 g.1)]) [] (fun g=>[]) (fun g Bx=>Bx=B∧g.1≤x.folders.length∧Zdk x.users (x.folders.take g.1)=(true,g.2)∧Prev some none x.folders g.1 g.2) (fun g=>x.folders.length - g.1) (0,none) t1 rfl (⟨rfl,Nat.zero_le _,ZfS,.zero⟩) (fun g B2 hle2 hI=>?_)))))))))
 obtain ⟨rfl,hk,hs,hp⟩:=hI
 refine Zz [(0,_),(1,_),(3,_)] [_] t3 rfl (Ze (Za (xM (h:=xW Za5 (h:=x1 ZgE 0 (h:=xV Tryz.underlying36 (h:=ZC (h:=Zb rfl (fun g1=>?_) (fun g1=>?_)))))))))
 try simp only [sQ,ne_eq] at g1
 refine wSk (Ze (Zg (Za (xW Za5 (h:=x1 ZgE 0 (h:=xM (h:=?_)))))))
 obtain ⟨m,hm⟩:=ZM (xs:=x.folders) (i:=g.1) om
 obtain ⟨bb4,oo4,rfl⟩:=hf.base hm
 obtain ⟨_,⟨qg5,cg5,qm5,cm5,rfl,hg5,hm5,hb5,hb5b⟩,hc5⟩:=hf.elem hm
 have hg5n:=hg5.len
 have hm5n:=hm5.len
 have hm5s:=ZaN hm5
 refine xIx Tryz.underlying36 ZeO (h:=yL [_,_,_,_,_] Zj5 hc5 0 (h:=xAl [_,_,_,_,_] Zqk (h:=fun b6=>xS [_,_,_,_,_] 1 [_,_,_,_,_] ZeO (h:=tL2 (Ze (ZW (same _ _) mo kr ⟨rfl,rfl⟩ (fun _ _=>?_)))))))
 refine aW 0 rfl Zcz (h:=aT 1 rfl (Z3 fun D=>Zn rfl rfl ZlN rfl (atL 0 rfl rfl rfl) r4) (h:=aW 2 rfl Zcy (h:=aT 3 rfl (Z3 fun D=>Zn rfl rfl lk9 rfl (atL 1 rfl rfl rfl) r4) (h:=aT 4 rfl (Z3 fun D=>Z5 rfl rfl ZA5 rfl (Zgq _ _ _ _ _ hu) r4) (h:=Zty 5 rfl (h:=aM 6 rfl (h:=Zax (d:=23) rfl (fun g2=>?_) (fun g2=>?_))))))))
 try simp only [sQ,ne_eq] at g2
 refine aZ 7 rfl (h:=aZ 8 rfl (h:=aZ 9 rfl (h:=aZ 10 rfl (h:=aPT 11 rfl (h:=aM 12 rfl (h:=aZ 13 rfl (h:=aZ 14 rfl (h:=aZ 15 rfl (h:=aZ 16 rfl (h:=aPT 17 rfl (h:=aM 18 rfl (h:=aZ 19 rfl (h:=aZ 20 rfl (h:=aZ 21 rfl (h:=aZ 22 rfl (h:=aPT 23 rfl (h:=aM 24 rfl (h:=aZ 25 rfl (h:=aZ 26 rfl (h:=aZ 27 rfl (h:=aZ 28 rfl (h:=aZ 29 rfl (h:=aZ 30 rfl (h:=aZ 31 rfl (h:=aZ 32 rfl (h:=aZ 33 rfl (h:=aZ 34 rfl (h:=aZ 35 rfl (h:=aZ 36 rfl (h:=aZ 37 rfl (h:=aPT 38 rfl (h:=Zy kr kr ?_))))))))))))))))))))))))))))))))
 refine Zm (Zb (t:=true) rfl (fun _=>Za (xA (h:=Zf (Zt (Zj (ZJ (Zt (Zj ?_)))))))) (fun h=>Bool.noConfusion h))
 exact eR t1 ⟨Zc (Zcs hm hs (by simp [ZbC,Zae,DFolder.box,g1,g2];try omega)).symm,rfl,rfl⟩
 try simp only [sQ,ne_eq] at g2
 refine aW 7 rfl ZeJ (h:=aT 8 rfl (Z3 fun D=>Zn rfl rfl lk9 rfl (atL 1 rfl rfl rfl) r4) (h:=aT 9 rfl (Z3 fun D=>Z5 rfl rfl Zmd rfl (Zca _ om2 _) r4) (h:=?_)))
 refine aN 10 rfl (h:=aPF 11 rfl (h:=aM 12 rfl (h:=Zax (d:=29) rfl (fun g3=>?_) (fun g3=>?_))))
 try simp only [sQ,ne_eq] at g3
 refine aZ 13 rfl (h:=aZ 14 rfl (h:=aZ 15 rfl (h:=aZ 16 rfl (h:=aPT 17 rfl (h:=aM 18 rfl (h:=aZ 19 rfl (h:=aZ 20 rfl (h:=aZ 21 rfl (h:=aZ 22 rfl (h:=aPT 23 rfl (h:=aM 24 rfl (h:=aZ 25 rfl (h:=aZ 26 rfl (h:=aZ 27 rfl (h:=aZ 28 rfl (h:=aZ 29 rfl (h:=aZ 30 rfl (h:=aZ 31 rfl (h:=aZ 32 rfl (h:=aZ 33 rfl (h:=aZ 34 rfl (h:=aZ 35 rfl (h:=aZ 36 rfl (h:=aZ 37 rfl (h:=aPT 38 rfl (h:=Zy kr kr ?_))))))))))))))))))))))))))
 refine Zm (Zb (t:=true) rfl (fun _=>Za (xA (h:=Zf (Zt (Zj (ZJ (Zt (Zj ?_)))))))) (fun h=>Bool.noConfusion h))
 exact eR t1 ⟨Zc (Zcs hm hs (by simp [ZbC,Zae,DFolder.box,g1,g2,g3];try omega)).symm,rfl,rfl⟩
 try simp only [sQ,ne_eq] at g3
 refine aW 13 rfl ZfB (h:=aT 14 rfl (Z3 fun D=>Zn rfl rfl Zwt rfl (atL 1 rfl rfl rfl) r4) (h:=aT 15 rfl (Z3 fun D=>Z5 rfl rfl ZD3 rfl (Zrd _ _ _ _ hg5) r4) (h:=aN 16 rfl (h:=aPF 17 rfl (h:=aM 18 rfl (h:=Zax (d:=35) rfl (fun g4=>?_) (fun g4=>?_)))))))
 try simp only [sQ,ne_eq] at g4
 refine aZ 19 rfl (h:=aZ 20 rfl (h:=aZ 21 rfl (h:=aZ 22 rfl (h:=aPT 23 rfl (h:=aM 24 rfl (h:=aZ 25 rfl (h:=aZ 26 rfl (h:=aZ 27 rfl (h:=aZ 28 rfl (h:=aZ 29 rfl (h:=aZ 30 rfl (h:=aZ 31 rfl (h:=aZ 32 rfl (h:=aZ 33 rfl (h:=aZ 34 rfl (h:=aZ 35 rfl (h:=aZ 36 rfl (h:=aZ 37 rfl (h:=aPT 38 rfl (h:=Zy kr kr ?_))))))))))))))))))))
 refine Zm (Zb (t:=true) rfl (fun _=>Za (xA (h:=Zf (Zt (Zj (ZJ (Zt (Zj ?_)))))))) (fun h=>Bool.noConfusion h))
 exact eR t1 ⟨Zc (Zcs hm hs (by simp [ZbC,Zae,DFolder.box,g1,g2,g3,g4];try omega)).symm,rfl,rfl⟩
 try simp only [sQ,ne_eq] at g4
 refine aW 19 rfl Zed (h:=aT 20 rfl (Z3 fun D=>ZI [_,_] rfl rfl Zhm rfl (ZbZ 1 rfl rfl rfl) r4) (h:=aT 21 rfl (Z3 fun D=>Z5 rfl rfl ZEz rfl (Zlk _ _ (⟨m.next,m.mail⟩:DBox) _ hm5) r4) (h:=aN 22 rfl (h:=aPF 23 rfl (h:=aM 24 rfl (h:=Zax (d:=41) rfl (fun g5=>?_) (fun g5=>?_)))))))
 try simp only [sQ,ne_eq] at g5
 refine aZ 25 rfl (h:=aZ 26 rfl (h:=aZ 27 rfl (h:=aZ 28 rfl (h:=aZ 29 rfl (h:=aZ 30 rfl (h:=aZ 31 rfl (h:=aZ 32 rfl (h:=aZ 33 rfl (h:=aZ 34 rfl (h:=aZ 35 rfl (h:=aZ 36 rfl (h:=aZ 37 rfl (h:=aPT 38 rfl (h:=Zy kr kr ?_))))))))))))))
 refine Zm (Zb (t:=true) rfl (fun _=>Za (xA (h:=Zf (Zt (Zj (ZJ (Zt (Zj ?_)))))))) (fun h=>Bool.noConfusion h))
 exact eR t1 ⟨Zc (Zcs hm hs (by simp [ZbC,Zae,DFolder.box,g1,g2,g3,g4,g5];try omega)).symm,rfl,rfl⟩
 try simp only [sQ,ne_eq] at g5
 refine aM 25 rfl (h:=Ztz 26 rfl (h:=aM 27 rfl (h:=Zax (d:=44) rfl (fun g6=>?_) (fun g6=>?_))))
 try simp only [sQ,ne_eq] at g6
 refine aW 28 rfl Za5 (h:=aT 29 rfl (Z3 fun D=>Zn rfl rfl ZgE rfl (atL 0 rfl rfl rfl) r4) (h:=aM 30 rfl (h:=aU 31 rfl (h:=?_))))
 obtain ⟨y,hy⟩:=Zvq (xs:=x.folders) (i:=(↑g.1 - 1)) om om
 obtain ⟨_,⟨qg12,cg12,qm12,cm12,rfl,hg12,hm12,hb12,hb12b⟩,hc12⟩:=hf.elem hy
 have hg12n:=hg12.len
 have hm12n:=hm12.len
 have hm12s:=ZaN hm12
 refine aIx 32 rfl Tryz.underlying36 ZeO (h:=?_)
 have hpe:=hp.at hy oz
 refine aT 33 rfl (Z3 fun D=>ZI [_,_,_,_,_] rfl rfl Zj5 rfl (Zhh hc12 0 rfl rfl) r4) (h:=aT 34 rfl (Z3 fun D=>ZI [_,_,_,_,_] rfl rfl Zj5 rfl (ZbZ 1 rfl rfl rfl) r4) (h:=aT 35 rfl (Z3 fun D=>Z5 rfl rfl ZD2 rfl (Zr3 y m _ _ _ _ _ _ _ _ _) r4) (h:=aN 36 rfl (h:=aPT 37 rfl (h:=aPF 38 rfl (h:=Zy kr kr ?_))))))
 refine Zm (Zb rfl (fun g7=>?_) (fun g7=>?_))
 try simp only [sQ,ne_eq] at g7
 refine Za (xA (h:=Zf (Zt (Zj (ZJ (Zt (Zj ?_)))))))
 exact eR t1 ⟨Zc (Zcs hm hs (by simp [ZbC,Zae,DFolder.box,g1,g2,g3,g4,g5,g6,g7,hpe];try omega)).symm,rfl,rfl⟩
 try simp only [sQ,ne_eq] at g7
 refine ZK (ZD (Zm (Zd (xM (h:=xD (h:=xA (h:=?_)))))))
 exact Zx (g.1+1,some m) [0] so2 ⟨rfl,oz,ZcN hm hs (by rw [hpe];simp [ZbC,Zae,DFolder.box,g3,g4,g5,g7];omega),.succ hm⟩ t3 rfl
 try simp only [sQ,ne_eq] at g6
 refine aZ 28 rfl (h:=aZ 29 rfl (h:=aZ 30 rfl (h:=aZ 31 rfl (h:=aZ 32 rfl (h:=aZ 33 rfl (h:=aZ 34 rfl (h:=aZ 35 rfl (h:=aZ 36 rfl (h:=aPF 37 rfl (h:=aPF 38 rfl (h:=Zy kr kr ?_)))))))))))
 refine Zm (Zb (t:=false) rfl (fun h=>Bool.noConfusion h) (fun _=>ZK (ZD (Zm (Zd (xM (h:=xD (h:=xA (h:=?_)))))))))
 exact Zx (g.1+1,some m) [0] so2 ⟨rfl,oz,ZcN hm hs (by rw [hp.at0 oz];simp [ZbC,Zae,DFolder.box,g3,g4,g5];omega),.succ hm⟩ t3 rfl
 try simp only [sQ,ne_eq] at g1
 refine ZA (ZQ (ZB (Zs (Zm (Za (xW Za5 (h:=x1 ZgE 0 (h:=xV Tryz.underlying36 (h:=Zbd (h:=xA (h:=Zf ?_)))))))))))
 exact eR t1 ⟨Zc (by rw [Zkn (Zew hs oz),Bool.eq_iff_iff];simp;try omega),rfl,rfl⟩

end Go.Proofs.YtonfijmgahdgeaaGreatDoor
