/-
  WHAT THE FUNCTIONS THAT THE LAWS REACH COMPUTE: each function's contract, proved off its printed body (the text is written by program). No condition beyond those that each theorem states.
-/
import Derived.Test.YtkgobijihcfikaaGreatRows
import Derived.Test.YtkgobijihcfikaaGreatL0
import Derived.KernelRfl
namespace Go.Proofs.YtkgobijihcfikaaGreat
open Go Go.BL
set_option linter.unusedVariables false
set_option linter.unusedSimpArgs false
noncomputable abbrev pj (J : JoinT) : PJ := ⟨Tryz.prog, J⟩
noncomputable abbrev wgL : Go.Conc.Lib.WgLink := { add := 81, done := 83, wait := 86, relMerge := 108, disable := 109, enable := 110, inBubble := 111, associate := 112, fatal := 113, uOr := 114, uAdd := 115, raceRead := 116, uLoad := 117, uStore := 118, disassociate := 119, semrelease := 120, acquire := 122, isAssociated := 123, uCas := 124, raceWrite := 125, semacquire := 126, orU64 := 147, addU64 := 148, loadU64 := 149, storeU64 := 150, casU64 := 152, tWg := 124, tUP := 153, tAssoc := 154, tAU := 121, tU64 := 119, tUint := 158, tU32 := 122, tNoCopy := 116, tANoCopy := 117, tAlign64 := 118, tWgP := 151, tPU32 := 159, tPAU := 192, tPU64 := 194 }
theorem Zl4 : Go.Conc.Lib.WgLib Tryz.prog wgL :=
  ⟨Tryz.func81, Tryz.func83, Tryz.func86, Tryz.func108, Tryz.func109, Tryz.func110, Tryz.func111, Tryz.func112, Tryz.func113, Tryz.func114, Tryz.func115, Tryz.func116, Tryz.func117, Tryz.func118, Tryz.func119, Tryz.func120, Tryz.func122, Tryz.func123, Tryz.func124, Tryz.func125, Tryz.func126, Tryz.func147, Tryz.func148, Tryz.func149, Tryz.func150, Tryz.func152, Tryz.underlying151, Tryz.runUnderlying151, Tryz.sizeOf151, Tryz.isAgg151, Tryz.zeroValue151, Tryz.underlying153, Tryz.runUnderlying153, Tryz.sizeOf153, Tryz.isAgg153, Tryz.zeroValue153, Tryz.underlying154, Tryz.runUnderlying154, Tryz.sizeOf154, Tryz.isAgg154, Tryz.zeroValue154, Tryz.underlying124, Tryz.runUnderlying124, Tryz.sizeOf124, Tryz.isAgg124, Tryz.zeroValue124, Tryz.underlying121, Tryz.runUnderlying121, Tryz.sizeOf121, Tryz.isAgg121, Tryz.zeroValue121, Tryz.underlying119, Tryz.runUnderlying119, Tryz.sizeOf119, Tryz.isAgg119, Tryz.zeroValue119, Tryz.underlying158, Tryz.runUnderlying158, Tryz.sizeOf158, Tryz.isAgg158, Tryz.zeroValue158, Tryz.underlying122, Tryz.runUnderlying122, Tryz.sizeOf122, Tryz.isAgg122, Tryz.zeroValue122, Tryz.underlying159, Tryz.runUnderlying159, Tryz.sizeOf159, Tryz.isAgg159, Tryz.zeroValue159, Tryz.underlying192, Tryz.runUnderlying192, Tryz.sizeOf192, Tryz.isAgg192, Tryz.zeroValue192, Tryz.underlying194, Tryz.runUnderlying194, Tryz.sizeOf194, Tryz.isAgg194, Tryz.zeroValue194, Tryz.underlying0, Tryz.runUnderlying0, Tryz.sizeOf0, Tryz.isAgg0, Tryz.zeroValue0, Tryz.underlying3, Tryz.runUnderlying3, Tryz.sizeOf3, Tryz.isAgg3, Tryz.zeroValue3, Tryz.underlying4, Tryz.runUnderlying4, Tryz.sizeOf4, Tryz.isAgg4, Tryz.zeroValue4, Tryz.underlying9, Tryz.runUnderlying9, Tryz.sizeOf9, Tryz.isAgg9, Tryz.zeroValue9, Tryz.underlying20, Tryz.runUnderlying20, Tryz.sizeOf20, Tryz.isAgg20, Tryz.zeroValue20, Tryz.underlying21, Tryz.runUnderlying21, Tryz.sizeOf21, Tryz.isAgg21, Tryz.zeroValue21, (by kernel_rfl), (by kernel_rfl)⟩
theorem ZjP : enters Tryz.prog 58 = true := by kernel_rfl
theorem mo : Tryz.prog.follows .mixedOrders = true := by kernel_rfl
theorem Zcl : ZX Tryz.prog 104 1 = some 1 := by kernel_rfl
theorem lk3 : lk Tryz.prog 3 = some none := by kernel_rfl
theorem ZgL : ZX Tryz.prog 104 0 = some 0 := by kernel_rfl
theorem lk9 : lk Tryz.prog 9 = some none := by kernel_rfl
theorem ZvF : enters Tryz.prog 71 = true := by kernel_rfl
theorem sz3 : Zam Tryz.prog 3 = some 1 := by kernel_rfl
theorem Zw0 : enters Tryz.prog 102 = true := by kernel_rfl
theorem Zwh : enters Tryz.prog 70 = true := by kernel_rfl
theorem ZwZ : enters Tryz.prog 103 = true := by kernel_rfl
theorem ZuV : Zbd Tryz.prog 104 = some [(0, 1), (1, 1)] := by kernel_rfl
theorem Zrj : ZaQ Tryz.prog 104 = some (.agg #[.string ⟨#[]⟩, .int .i64 0]) := by kernel_rfl
theorem ZuQ : Zam Tryz.prog 104 = some 2 := by kernel_rfl
theorem sz5 : Zam Tryz.prog 5 = some 1 := by kernel_rfl
theorem Zw5 : Zbd Tryz.prog 95 = some [(0, 1), (1, 1)] := by kernel_rfl
theorem Zw4 : ZaQ Tryz.prog 95 = some (.agg #[.slice none 0 0, .int .i64 0]) := by kernel_rfl
theorem Zqt : ZX Tryz.prog 95 1 = some 1 := by kernel_rfl
theorem Zhg : ZX Tryz.prog 95 0 = some 0 := by kernel_rfl
theorem Zs2 : lk Tryz.prog 22 = some none := by kernel_rfl
theorem lk5 : lk Tryz.prog 5 = some none := by kernel_rfl
theorem Za0 : enters Tryz.prog 64 = true := by kernel_rfl
theorem sz9 : Zam Tryz.prog 9 = some 1 := by kernel_rfl
theorem zo9 : ZaQ Tryz.prog 9 = some (.string ⟨#[]⟩) := by kernel_rfl
theorem ZnI : enters Tryz.prog 75 = true := by kernel_rfl
theorem Zo1 : Zc2 Tryz.prog 67 9 1 16 = true := by kernel_rfl
theorem ZoZ : (match Program.underlying Tryz.prog 67 with | some (.slice _) => true | _ => false) = true := by kernel_rfl
theorem ZxT : enters Tryz.prog 56 = true := by kernel_rfl
theorem Zsl : enters Tryz.prog 57 = true := by kernel_rfl
theorem ZeJ : Zam Tryz.prog 65 = some 3 := by kernel_rfl
theorem Zc0 : ZX Tryz.prog 65 0 = some 0 := by kernel_rfl
theorem Zvi : enters Tryz.prog 131 = true := by kernel_rfl
theorem ZlG : ZX Tryz.prog 90 0 = some 0 := by kernel_rfl
theorem ZlF : ZX Tryz.prog 90 1 = some 1 := by kernel_rfl
theorem ZhA : lk Tryz.prog 67 = some none := by kernel_rfl
theorem ZxC : enters Tryz.prog 90 = true := by kernel_rfl
theorem Zqu : ZX Tryz.prog 90 2 = some 2 := by kernel_rfl
theorem Zwy : enters Tryz.prog 167 = true := by kernel_rfl
theorem Zs4 : enters Tryz.prog 41 = true := by kernel_rfl
theorem ZwN : enters Tryz.prog 143 = true := by kernel_rfl
theorem ZwY : enters Tryz.prog 104 = true := by kernel_rfl
theorem ZaM : ZX Tryz.prog 27 1 = some 1 := by kernel_rfl
theorem ZfP : lk Tryz.prog 25 = some none := by kernel_rfl
theorem ZeA : Zam Tryz.prog 69 = some 4 := by kernel_rfl
theorem Zl3 : lk Tryz.prog 69 = some (some 4) := by kernel_rfl
theorem Zi3 : ZaQ Tryz.prog 69 = some (.agg #[.int .i64 0, .string ⟨#[]⟩, .string ⟨#[]⟩, .slice none 0 0]) := by kernel_rfl
theorem Ze2 : ZX Tryz.prog 69 0 = some 0 := by kernel_rfl
theorem ZnB : ZX Tryz.prog 69 1 = some 1 := by kernel_rfl
theorem ZbM : ZX Tryz.prog 69 3 = some 3 := by kernel_rfl
theorem Zqv : ZX Tryz.prog 69 2 = some 2 := by kernel_rfl
theorem ZvC : Zbd Tryz.prog 90 = some [(0, 1), (1, 1), (2, 1)] := by kernel_rfl
theorem Zuq : ZaQ Tryz.prog 90 = some (.agg #[.string ⟨#[]⟩, .slice none 0 0, .string ⟨#[]⟩]) := by kernel_rfl
theorem Zwi : enters Tryz.prog 59 = true := by kernel_rfl
theorem Ze3 : ZX Tryz.prog 27 0 = some 0 := by kernel_rfl
theorem ZwI : enters Tryz.prog 156 = true := by kernel_rfl
theorem Zi6 : ZaQ Tryz.prog 27 = some (.agg #[.int .i64 0, .slice none 0 0]) := by kernel_rfl
theorem Zts : Zbd Tryz.prog 27 = some [(0, 1), (1, 1)] := by kernel_rfl
theorem Zf0 : Zam Tryz.prog 27 = some 2 := by kernel_rfl
theorem ZuM : Zam Tryz.prog 67 = some 1 := by kernel_rfl
theorem Zu8 : Zc2 Tryz.prog 25 69 4 64 = true := by kernel_rfl
theorem ZuR : (match Program.underlying Tryz.prog 25 with | some (.slice _) => true | _ => false) = true := by kernel_rfl
theorem ZuN : Zam Tryz.prog 25 = some 1 := by kernel_rfl
theorem Zel : lk Tryz.prog 27 = some (some 2) := by kernel_rfl
theorem Zwl : enters Tryz.prog 31 = true := by kernel_rfl
theorem ZtG : lk Tryz.prog 90 = some (some 3) := by kernel_rfl
theorem Zea : enters Tryz.prog 133 = true := by kernel_rfl
theorem Zxp : Zbd Tryz.prog 69 = some [(0, 1), (1, 1), (2, 1), (3, 1)] := by kernel_rfl
theorem Zwx : enters Tryz.prog 168 = true := by kernel_rfl
theorem Zvc : enters Tryz.prog 158 = true := by kernel_rfl
theorem ZwH : enters Tryz.prog 157 = true := by kernel_rfl
theorem ZqI : enters Tryz.prog 136 = true := by kernel_rfl
theorem Zv0 : Zam Tryz.prog 90 = some 3 := by kernel_rfl
theorem Zsk : enters Tryz.prog 74 = true := by kernel_rfl
theorem Zvh : enters Tryz.prog 139 = true := by kernel_rfl
theorem Zsn : enters Tryz.prog 138 = true := by kernel_rfl
theorem Zvg : enters Tryz.prog 140 = true := by kernel_rfl
theorem zo3 : ZaQ Tryz.prog 3 = some (.int .i64 0) := by kernel_rfl
theorem Zfp : lk Tryz.prog 148 = some none := by kernel_rfl
theorem Zwf : Zc2 Tryz.prog 148 3 1 8 = true := by kernel_rfl
theorem Zv3 : (match Program.underlying Tryz.prog 148 with | some (.slice _) => true | _ => false) = true := by kernel_rfl
theorem ZuO : Zam Tryz.prog 148 = some 1 := by kernel_rfl
theorem Zd5 : Zka Tryz.prog 146 "Less" 197 false = true := by kernel_rfl
theorem ZqH : enters Tryz.prog 197 = true := by kernel_rfl
theorem Zd4 : Zka Tryz.prog 146 "Swap" 200 false = true := by kernel_rfl
theorem ZqG : enters Tryz.prog 200 = true := by kernel_rfl
theorem Zop : Zka Tryz.prog 146 "Push" 199 true = true := by kernel_rfl
theorem Zwq : enters Tryz.prog 199 = true := by kernel_rfl
theorem Zlj : Zka Tryz.prog 146 "Len" 196 false = true := by kernel_rfl
theorem Zva : enters Tryz.prog 196 = true := by kernel_rfl
theorem ZwM : enters Tryz.prog 144 = true := by kernel_rfl
theorem ZwL : enters Tryz.prog 145 = true := by kernel_rfl
theorem ZpZ : Zka Tryz.prog 146 "Pop" 198 true = true := by kernel_rfl
theorem Zwr : enters Tryz.prog 198 = true := by kernel_rfl
theorem ZwX : enters Tryz.prog 105 = true := by kernel_rfl
theorem ZwW : enters Tryz.prog 106 = true := by kernel_rfl
theorem ZxJ : enters Tryz.prog 78 = true := by kernel_rfl
theorem ZxI : enters Tryz.prog 79 = true := by kernel_rfl
theorem Ze4 : ZX Tryz.prog 110 0 = some 0 := by kernel_rfl
theorem ZfT : ZX Tryz.prog 110 1 = some 1 := by kernel_rfl
theorem ZqJ : enters Tryz.prog 132 = true := by kernel_rfl
theorem ZiK : ZX Tryz.prog 110 2 = some 2 := by kernel_rfl
theorem ZwK : enters Tryz.prog 151 = true := by kernel_rfl
theorem ZaL : ZX Tryz.prog 39 1 = some 1 := by kernel_rfl
theorem Zfo : lk Tryz.prog 37 = some none := by kernel_rfl
theorem Zcv : Zam Tryz.prog 110 = some 3 := by kernel_rfl
theorem Zln : lk Tryz.prog 110 = some (some 3) := by kernel_rfl
theorem ZxB : enters Tryz.prog 91 = true := by kernel_rfl
theorem Zcf : ZX Tryz.prog 39 0 = some 0 := by kernel_rfl
theorem Zfy : ZaQ Tryz.prog 110 = some (.agg #[.int .i64 0, .int .i64 0, .string ⟨#[]⟩]) := by kernel_rfl
theorem ZwU : enters Tryz.prog 121 = true := by kernel_rfl
theorem ZbD : lk Tryz.prog 39 = some (some 2) := by kernel_rfl
theorem Zw8 : enters Tryz.prog 85 = true := by kernel_rfl
theorem Zqw : ZX Tryz.prog 65 1 = some 1 := by kernel_rfl
theorem ZiI : ZX Tryz.prog 65 2 = some 2 := by kernel_rfl
theorem Zo0 : lk Tryz.prog 65 = some (some 3) := by kernel_rfl
theorem Zgw : ZaQ Tryz.prog 65 = some (.agg #[.string ⟨#[]⟩, .string ⟨#[]⟩, .int .i64 0]) := by kernel_rfl
theorem ZxK : enters Tryz.prog 77 = true := by kernel_rfl
theorem Zxc : enters Tryz.prog 47 = true := by kernel_rfl
theorem ZrG : Zbd Tryz.prog 65 = some [(0, 1), (1, 1), (2, 1)] := by kernel_rfl
theorem ZwR : enters Tryz.prog 129 = true := by kernel_rfl
theorem ZwP : enters Tryz.prog 130 = true := by kernel_rfl
theorem ZbN : ZX Tryz.prog 29 1 = some 1 := by kernel_rfl
theorem Zim : lk Tryz.prog 23 = some none := by kernel_rfl
theorem Zw7 : enters Tryz.prog 89 = true := by kernel_rfl
theorem ZZ : ZX Tryz.prog 29 2 = some 2 := by kernel_rfl
theorem Zb3 : lk Tryz.prog 24 = some none := by kernel_rfl
theorem ZaD : Zam Tryz.prog 41 = some 5 := by kernel_rfl
theorem Zbi : ZX Tryz.prog 41 0 = some 0 := by kernel_rfl
theorem Zc1 : ZX Tryz.prog 41 1 = some 1 := by kernel_rfl
theorem Zfn : lk Tryz.prog 41 = some (some 5) := by kernel_rfl
theorem ZxN : enters Tryz.prog 72 = true := by kernel_rfl
theorem ZxM : enters Tryz.prog 73 = true := by kernel_rfl
theorem ZcG : ZX Tryz.prog 29 3 = some 3 := by kernel_rfl
theorem ZvI : enters Tryz.prog 53 = true := by kernel_rfl
theorem Zbn : Zam Tryz.prog 101 = some 2 := by kernel_rfl
theorem ZcO : ZX Tryz.prog 101 0 = some 0 := by kernel_rfl
theorem ZgM : ZX Tryz.prog 101 1 = some 1 := by kernel_rfl
theorem Zrf : enters Tryz.prog 25 = true := by kernel_rfl
theorem Zbh : ZX Tryz.prog 41 3 = some 3 := by kernel_rfl
theorem ZxS : enters Tryz.prog 63 = true := by kernel_rfl
theorem Zb8 : ZaQ Tryz.prog 41 = some (.agg #[.string ⟨#[]⟩, .string ⟨#[]⟩, .slice none 0 0, .int .i64 0, .slice none 0 0]) := by kernel_rfl
theorem ZbU : ZX Tryz.prog 41 2 = some 2 := by kernel_rfl
theorem Zlm : lk Tryz.prog 36 = some none := by kernel_rfl
theorem ZvH : enters Tryz.prog 60 = true := by kernel_rfl
theorem ZvG : enters Tryz.prog 61 = true := by kernel_rfl
theorem Zxb : enters Tryz.prog 62 = true := by kernel_rfl
theorem ZnC : ZX Tryz.prog 29 0 = some 0 := by kernel_rfl
theorem Zx6 : enters Tryz.prog 29 = true := by kernel_rfl
theorem Zx5 : enters Tryz.prog 30 = true := by kernel_rfl
theorem Z3 : lk Tryz.prog 29 = some (some 5) := by kernel_rfl
theorem Zx4 : enters Tryz.prog 32 = true := by kernel_rfl
theorem Zt7 : enters Tryz.prog 33 = true := by kernel_rfl
theorem Zxi : enters Tryz.prog 34 = true := by kernel_rfl
theorem Zxh : enters Tryz.prog 35 = true := by kernel_rfl
theorem Zoq : lk Tryz.prog 101 = some (some 2) := by kernel_rfl
theorem ZcH : ZaQ Tryz.prog 101 = some (.agg #[.string ⟨#[]⟩, .int .i64 0]) := by kernel_rfl
theorem ZxO : enters Tryz.prog 69 = true := by kernel_rfl
theorem Zxe : enters Tryz.prog 40 = true := by kernel_rfl
theorem Zu4 : Extern.findNext Tryz.f146 = none := by kernel_rfl
theorem Zu5 : Extern.find Tryz.f146 = some Extern.BytealgCompare.compare := by kernel_rfl
theorem ZwV : enters Tryz.prog 107 = true := by kernel_rfl
theorem Zw9 : enters Tryz.prog 80 = true := by kernel_rfl
theorem ZwJ : enters Tryz.prog 153 = true := by kernel_rfl
theorem ZwS : enters Tryz.prog 128 = true := by kernel_rfl
theorem Zxd : enters Tryz.prog 42 = true := by kernel_rfl
theorem ZxD : enters Tryz.prog 88 = true := by kernel_rfl
theorem sz4 : Zam Tryz.prog 4 = some 1 := by kernel_rfl
theorem lk4 : lk Tryz.prog 4 = some none := by kernel_rfl
theorem ZwT : enters Tryz.prog 127 = true := by kernel_rfl
theorem ZxL : enters Tryz.prog 76 = true := by kernel_rfl
theorem ZuZ : lk Tryz.prog 114 = some none := by kernel_rfl
theorem Zwc : lk Tryz.prog 84 = some none := by kernel_rfl
theorem ZxG : enters Tryz.prog 84 = true := by kernel_rfl
theorem ZvM : ZaQ Tryz.prog 124 = some (.agg #[.int .u64 0, .int .u32 0]) := by kernel_rfl
theorem Zwg : Zc2 Tryz.prog 114 4 1 1 = true := by kernel_rfl
theorem zo4 : ZaQ Tryz.prog 4 = some (.bool false) := by kernel_rfl
theorem ZvN : ZaQ Tryz.prog 114 = some (.slice none 0 0) := by kernel_rfl
theorem Zv2 : Zam Tryz.prog 114 = some 1 := by kernel_rfl
theorem ZxH : enters Tryz.prog 81 = true := by kernel_rfl
theorem ZxF : enters Tryz.prog 86 = true := by kernel_rfl
theorem ZxE : enters Tryz.prog 87 = true := by kernel_rfl
theorem Zx0 : enters Tryz.prog 46 = true := by kernel_rfl
theorem ZxZ : enters Tryz.prog 48 = true := by kernel_rfl
theorem ZxY : enters Tryz.prog 49 = true := by kernel_rfl
theorem ZxX : enters Tryz.prog 50 = true := by kernel_rfl
theorem ZxW : enters Tryz.prog 51 = true := by kernel_rfl
theorem ZxV : enters Tryz.prog 52 = true := by kernel_rfl
theorem Zt0 : ZiM Tryz.prog 101 [(0, 9), (1, 3)] = true := by kernel_rfl
theorem ZtZ : ZiM Tryz.prog 110 [(0, 3), (1, 3), (2, 9)] = true := by kernel_rfl
theorem Zx1 : enters Tryz.prog 44 = true := by kernel_rfl
theorem ZxU : enters Tryz.prog 55 = true := by kernel_rfl
theorem Zwp : enters Tryz.prog 20 = true := by kernel_rfl
theorem Zx7 : enters Tryz.prog 28 = true := by kernel_rfl
theorem ZoM : Zc2 Tryz.prog 23 65 3 40 = true := by kernel_rfl
theorem ZnZ : (match Program.underlying Tryz.prog 23 with | some (.slice _) => true | _ => false) = true := by kernel_rfl
theorem ZeD : ZaQ Tryz.prog 39 = some (.agg #[.int .i64 0, .slice none 0 0]) := by kernel_rfl
theorem ZvE : Zc2 Tryz.prog 37 110 3 32 = true := by kernel_rfl
theorem ZvA : (match Program.underlying Tryz.prog 37 with | some (.slice _) => true | _ => false) = true := by kernel_rfl
theorem Zl2 : Zbd Tryz.prog 39 = some [(0, 1), (1, 1)] := by kernel_rfl
theorem ZcI : Zam Tryz.prog 39 = some 2 := by kernel_rfl
theorem ZqF : Zc2 Tryz.prog 36 101 2 24 = true := by kernel_rfl
theorem Zpu : (match Program.underlying Tryz.prog 36 with | some (.slice _) => true | _ => false) = true := by kernel_rfl
theorem Zur : Zam Tryz.prog 36 = some 1 := by kernel_rfl
theorem Zwm : enters Tryz.prog 24 = true := by kernel_rfl
theorem Zwo : enters Tryz.prog 22 = true := by kernel_rfl
theorem Zre : Zbd Tryz.prog 41 = some [(0, 1), (1, 1), (2, 1), (3, 2)] := by kernel_rfl
theorem Zx2 : enters Tryz.prog 43 = true := by kernel_rfl
theorem Za2 : ZaQ Tryz.prog 29 = some (.agg #[.string ⟨#[]⟩, .slice none 0 0, .slice none 0 0, .int .i64 0, .slice none 0 0]) := by kernel_rfl
theorem ZdY : Zbd Tryz.prog 29 = some [(0, 1), (1, 1), (2, 1), (3, 2)] := by kernel_rfl
theorem Zay : Zam Tryz.prog 29 = some 5 := by kernel_rfl
theorem ZgP : Zc2 Tryz.prog 24 41 5 88 = true := by kernel_rfl
theorem Zgz : (match Program.underlying Tryz.prog 24 with | some (.slice _) => true | _ => false) = true := by kernel_rfl
theorem Zrd : Zam Tryz.prog 24 = some 1 := by kernel_rfl
theorem ZnJ : enters Tryz.prog 11 = true := by kernel_rfl
theorem Zue : enters Tryz.prog 101 = true := by kernel_rfl
theorem ZxP : enters Tryz.prog 68 = true := by kernel_rfl
theorem Zwk : enters Tryz.prog 39 = true := by kernel_rfl
theorem Zv1 : Zam Tryz.prog 37 = some 1 := by kernel_rfl
theorem Zwj : enters Tryz.prog 54 = true := by kernel_rfl
theorem Zxj : enters Tryz.prog 27 = true := by kernel_rfl
theorem Zv9 : Zbd Tryz.prog 110 = some [(0, 1), (1, 1), (2, 1)] := by kernel_rfl
theorem ZnH : enters Tryz.prog 92 = true := by kernel_rfl
theorem Zvd : enters Tryz.prog 155 = true := by kernel_rfl
theorem Zus : enters Tryz.prog 26 = true := by kernel_rfl
theorem Zsm : enters Tryz.prog 169 = true := by kernel_rfl
theorem Zve : enters Tryz.prog 154 = true := by kernel_rfl
theorem Ztt : Zbd Tryz.prog 101 = some [(0, 1), (1, 1)] := by kernel_rfl
theorem Zud : enters Tryz.prog 134 = true := by kernel_rfl
theorem Zt8 : enters Tryz.prog 177 = true := by kernel_rfl
theorem Zww : enters Tryz.prog 174 = true := by kernel_rfl
theorem Zwv : enters Tryz.prog 175 = true := by kernel_rfl
theorem Zu9 : Zc2 Tryz.prog 147 3 1 8 = true := by kernel_rfl
theorem ZuS : (match Program.underlying Tryz.prog 147 with | some (.slice _) => true | _ => false) = true := by kernel_rfl
theorem Zps : Zam Tryz.prog 201 = some 2 := by kernel_rfl
theorem Zqy : ZX Tryz.prog 201 0 = some 0 := by kernel_rfl
theorem Zqx : ZX Tryz.prog 201 1 = some 1 := by kernel_rfl
theorem Zuc : enters Tryz.prog 170 = true := by kernel_rfl
theorem Zwt : enters Tryz.prog 178 = true := by kernel_rfl
theorem Zu3 : ZX Tryz.prog 44 1 = some 1 := by kernel_rfl
theorem Zu2 : ZX Tryz.prog 44 2 = some 2 := by kernel_rfl
theorem Zfr : ZX Tryz.prog 44 0 = some 0 := by kernel_rfl
theorem Zwu : enters Tryz.prog 176 = true := by kernel_rfl
theorem Zmw : lk Tryz.prog 44 = some (some 3) := by kernel_rfl
theorem Zub : enters Tryz.prog 171 = true := by kernel_rfl
theorem Zt9 : enters Tryz.prog 173 = true := by kernel_rfl
theorem Zua : enters Tryz.prog 172 = true := by kernel_rfl
theorem Zkx : enters Tryz.prog 137 = true := by kernel_rfl
theorem ZfS : ZX Tryz.prog 142 1 = some 1 := by kernel_rfl
theorem Zkt : ZX Tryz.prog 142 2 = some 2 := by kernel_rfl
theorem ZiJ : ZX Tryz.prog 142 3 = some 3 := by kernel_rfl
theorem Zv6 : Zbd Tryz.prog 44 = some [(0, 1), (1, 1), (2, 1)] := by kernel_rfl
theorem Zri : ZaQ Tryz.prog 44 = some (.agg #[.string ⟨#[]⟩, .string ⟨#[]⟩, .string ⟨#[]⟩]) := by kernel_rfl
theorem Ztm : Zam Tryz.prog 44 = some 3 := by kernel_rfl
theorem Zbt : ZX Tryz.prog 142 6 = some 6 := by kernel_rfl
theorem Zv7 : Zbd Tryz.prog 201 = some [(0, 1), (1, 1)] := by kernel_rfl
theorem Zuu : ZaQ Tryz.prog 201 = some (.agg #[.int .i64 0, .int .i64 0]) := by kernel_rfl
theorem Zb7 : ZX Tryz.prog 142 0 = some 0 := by kernel_rfl
theorem ZwG : enters Tryz.prog 159 = true := by kernel_rfl
theorem ZdU : ZX Tryz.prog 142 4 = some 4 := by kernel_rfl
theorem ZwF : enters Tryz.prog 160 = true := by kernel_rfl
theorem Zqz : ZX Tryz.prog 142 5 = some 5 := by kernel_rfl
theorem ZwE : enters Tryz.prog 161 = true := by kernel_rfl
theorem ZwD : enters Tryz.prog 162 = true := by kernel_rfl
theorem ZwC : enters Tryz.prog 163 = true := by kernel_rfl
theorem ZmO : ZX Tryz.prog 142 7 = some 7 := by kernel_rfl
theorem ZwB : enters Tryz.prog 164 = true := by kernel_rfl
theorem ZwA : enters Tryz.prog 165 = true := by kernel_rfl
theorem Zwz : enters Tryz.prog 166 = true := by kernel_rfl
theorem ZtH : lk Tryz.prog 142 = some (some 8) := by kernel_rfl
theorem ZwO : enters Tryz.prog 141 = true := by kernel_rfl
theorem ZvJ : enters Tryz.prog 45 = true := by kernel_rfl
theorem Zte : ZaQ Tryz.prog 142 = some (.agg #[.int .i64 0, .string ⟨#[]⟩, .string ⟨#[]⟩, .string ⟨#[]⟩, .string ⟨#[]⟩, .string ⟨#[]⟩, .int .i64 0, .int .i64 0]) := by kernel_rfl
theorem Zv8 : Zbd Tryz.prog 142 = some [(0, 1), (1, 1), (2, 1), (3, 1), (4, 1), (5, 1), (6, 1), (7, 1)] := by kernel_rfl
theorem ZuP : Zam Tryz.prog 142 = some 8 := by kernel_rfl
theorem Zvf : enters Tryz.prog 142 = true := by kernel_rfl
theorem Zso : enters Tryz.prog 135 = true := by kernel_rfl
theorem Zxv : enters Tryz.prog 98 = true := by kernel_rfl
theorem Zw1 : enters Tryz.prog 100 = true := by kernel_rfl
theorem Zxu : enters Tryz.prog 99 = true := by kernel_rfl
theorem Zxa : enters Tryz.prog 66 = true := by kernel_rfl
theorem ZxA : enters Tryz.prog 93 = true := by kernel_rfl
theorem Zxz : enters Tryz.prog 94 = true := by kernel_rfl
theorem Zxo : Zam Tryz.prog 23 = some 1 := by kernel_rfl
theorem Zxy : enters Tryz.prog 95 = true := by kernel_rfl
theorem Zxx : enters Tryz.prog 96 = true := by kernel_rfl
theorem Zxw : enters Tryz.prog 97 = true := by kernel_rfl
theorem ZxR : enters Tryz.prog 65 = true := by kernel_rfl
theorem Zxg : enters Tryz.prog 36 = true := by kernel_rfl
theorem Zxf : enters Tryz.prog 37 = true := by kernel_rfl
theorem Zvb : enters Tryz.prog 17 = true := by kernel_rfl
theorem Zwn : enters Tryz.prog 23 = true := by kernel_rfl
theorem ZxQ : enters Tryz.prog 67 = true := by kernel_rfl
theorem Zx3 : enters Tryz.prog 38 = true := by kernel_rfl
theorem Zx8 : enters Tryz.prog 21 = true := by kernel_rfl
theorem Zws : enters Tryz.prog 19 = true := by kernel_rfl
theorem Zxl : enters Tryz.prog 14 = true := by kernel_rfl
theorem ZwQ : enters Tryz.prog 13 = true := by kernel_rfl
theorem Zxk : enters Tryz.prog 15 = true := by kernel_rfl
theorem Zs5 : enters Tryz.prog 10 = true := by kernel_rfl
theorem Zxm : enters Tryz.prog 12 = true := by kernel_rfl
theorem Zut : enters Tryz.prog 16 = true := by kernel_rfl
theorem en7 : enters Tryz.prog 7 = true := by kernel_rfl
theorem en8 : enters Tryz.prog 8 = true := by kernel_rfl
theorem en9 : enters Tryz.prog 9 = true := by kernel_rfl
theorem Zx9 : enters Tryz.prog 18 = true := by kernel_rfl
set_option maxRecDepth 4000
variable {J : JoinT}
abbrev cur (b : Nat) (l : List UInt8) (i : Nat) : Cells := Zbm b [str l, .int .i64 i] 104
set_option maxHeartbeats 400000 in
theorem Zco (n lo hi:Int) (B:Kn):Za1 (pj J) 58 [.int .i64 n,.int .i64 lo,.int .i64 hi] B (.bool (decide (lo≤n) && decide (n≤hi))):=by
 refine Ze 15 Tryz.func58 rfl rfl rfl (Nat.le_of_ble_eq_true rfl) ?_
 refine Za (xA (h:=Z5 [(0,_),(1,_),(2,_),(6,_)] t4 (Za (xM (h:=xM (h:=ZdB (h:=xM (h:=Zt (d:=10) rfl (fun g1=>?_) (fun g1=>?_)))))))))
 try simp only [sQ,ne_eq] at g1
 refine xM (h:=xM (h:=ZcE (h:=xT (h:=xA (h:=Z5 [(0,_),(1,_),(2,_),(6,_)] t4 (Zi ?_))))))
 exact Z2 .ret (.inl rfl) [_] t1 ⟨by exact Zn (by rw [Bool.eq_iff_iff];simp [];omega),rfl,rfl⟩
 try simp only [sQ,ne_eq] at g1
 refine xP (h:=xP (h:=xP (h:=xF (h:=xA (h:=Z5 [(0,_),(1,_),(2,_),(6,_)] t4 (Zi ?_))))))
 exact Z2 .ret (.inl rfl) [_] t1 ⟨by exact Zn (by rw [Bool.eq_iff_iff];simp [];omega),rfl,rfl⟩

set_option maxHeartbeats 400000 in
theorem Zoo (c:UInt8) (B:Kn):Za1 (pj J) 102 [.int .u8 c.toNat] B (.bool (ZbJ c)):=by
 refine Ze 17 Tryz.func102 rfl rfl rfl (Nat.le_of_ble_eq_true rfl) ?_
 refine Za (xA (h:=Z5 [(0,_),(2,_)] t2 (Za (xM (h:=ZdB (h:=xM (h:=Zt (d:=5) rfl (fun g1=>?_) (fun g1=>?_))))))))
 try simp only [sQ,ne_eq] at g1
 refine xM (h:=ZcE (h:=xT (h:=xM (h:=Zt (d:=9) rfl (fun g2=>?_) (fun g2=>?_)))))
 try simp only [sQ,ne_eq] at g2
 refine xP (h:=xP (h:=xP (h:=xP (h:=xP (h:=xP (h:=xT (h:=xA (h:=Z5 [(0,_),(2,_)] t2 (Zi ?_)))))))))
 exact Z2 .ret (.inl rfl) [_] t1 ⟨by exact Zn (by rw [Bool.eq_iff_iff];simp [ZbJ];omega),rfl,rfl⟩
 try simp only [sQ,ne_eq] at g2
 refine xM (h:=ZdB (h:=xM (h:=Zt (d:=12) rfl (fun g3=>?_) (fun g3=>?_))))
 try simp only [sQ,ne_eq] at g3
 refine xM (h:=ZcE (h:=xT (h:=xF (h:=xA (h:=Z5 [(0,_),(2,_)] t2 (Zi ?_))))))
 exact Z2 .ret (.inl rfl) [_] t1 ⟨by exact Zn (by rw [Bool.eq_iff_iff];simp [ZbJ];omega),rfl,rfl⟩
 try simp only [sQ,ne_eq] at g3
 refine xP (h:=xP (h:=xF (h:=xF (h:=xA (h:=Z5 [(0,_),(2,_)] t2 (Zi ?_))))))
 exact Z2 .ret (.inl rfl) [_] t1 ⟨by exact Zn (by rw [Bool.eq_iff_iff];simp [ZbJ];omega),rfl,rfl⟩
 try simp only [sQ,ne_eq] at g1
 refine xP (h:=xP (h:=xF (h:=xM (h:=xM (h:=ZdB (h:=xM (h:=Zt (d:=12) rfl (fun g4=>?_) (fun g4=>?_))))))))
 try simp only [sQ,ne_eq] at g4
 refine xM (h:=ZcE (h:=xT (h:=xF (h:=xA (h:=Z5 [(0,_),(2,_)] t2 (Zi ?_))))))
 exact Z2 .ret (.inl rfl) [_] t1 ⟨by exact Zn (by rw [Bool.eq_iff_iff];simp [ZbJ];omega),rfl,rfl⟩
 try simp only [sQ,ne_eq] at g4
 refine xP (h:=xP (h:=xF (h:=xF (h:=xA (h:=Z5 [(0,_),(2,_)] t2 (Zi ?_))))))
 exact Z2 .ret (.inl rfl) [_] t1 ⟨by exact Zn (by rw [Bool.eq_iff_iff];simp [ZbJ];omega),rfl,rfl⟩

set_option maxHeartbeats 400000 in
theorem ZbX (l:List UInt8) (hl:l.length≤2000000) (B:Kn):Za1 (pj J) 57 [str l] B (.bool (Zaq l)):=by
 refine Ze 37 Tryz.func57 rfl rfl rfl (Nat.le_of_ble_eq_true rfl) ?_
 refine Za (xA (h:=Z5 [(0,_),(2,_)] t2 (Zk (Za (xA (h:=Z5 [(0,_),(2,_),(3,_)] t3 (Zo (ZkN (α:=Nat) (fun k=>[(0,str l),(3,.int .i64 k)]) (fun k=>[]) (fun k Bx=>Bx=B∧k≤l.length∧(l.take k).all ZbJ=true) (fun k=>l.length - k) 0 t2 rfl (⟨rfl,Nat.zero_le _,by simp⟩) (fun k B1 hle1 hI=>?_)))))))))
 obtain ⟨rfl,hk,ha⟩:=hI
 refine Zk (Za (xM (h:=xM (h:=xVs Tryz.underlying9 (h:=Zae (h:=Z5 [(0,_),(3,_),(7,_)] t3 (Zc rfl (fun g1=>?_) (fun g1=>?_))))))))
 try simp only [sQ,ne_eq] at g1
 obtain ⟨c,hc⟩ :∃c,l[k]? = some c:=⟨_,List.getElem?_eq_getElem oz⟩
 refine Zh (Zf (Zk (Zo (Zjj 33 (!(ZbJ c)) [0,3,7] ?_ ?_))))
 refine xM (h:=xM (h:=Zp (Zeg rfl rfl Tryz.underlying9 rfl rfl oz (by simpa using hc) ?_)))
 refine ZdB (h:=xM (h:=Zt (d:=14) rfl (fun g1=>?_) (fun g1=>?_)))
 try simp only [sQ,ne_eq] at g1
 refine xM (h:=xM (h:=Zp (Zeg rfl rfl Tryz.underlying9 rfl rfl oz (by simpa using hc) ?_)))
 refine ZcE (h:=xT (h:=xN (h:=xM (h:=Zt (d:=21) rfl (fun g2=>?_) (fun g2=>?_)))))
 try simp only [sQ,ne_eq] at g2
 refine xM (h:=xM (h:=Zp (Zeg rfl rfl Tryz.underlying9 rfl rfl oz (by simpa using hc) ?_)))
 refine ZdB (h:=xM (h:=Zt (d:=26) rfl (fun g3=>?_) (fun g3=>?_)))
 try simp only [sQ,ne_eq] at g3
 refine xM (h:=xM (h:=Zp (Zeg rfl rfl Tryz.underlying9 rfl rfl oz (by simpa using hc) ?_)))
 refine ZcE (h:=xT (h:=xN (h:=xT (h:=?_))))
 exact ⟨rfl,rfl,rfl,Zc9 rfl (by rw [Bool.eq_iff_iff];simp [ZbJ,];omega),t3⟩
 try simp only [sQ,ne_eq] at g3
 refine xP (h:=xP (h:=xP (h:=xP (h:=xF (h:=xN (h:=xT (h:=?_)))))))
 exact ⟨rfl,rfl,rfl,Zc9 rfl (by rw [Bool.eq_iff_iff];simp [ZbJ,];omega),t3⟩
 try simp only [sQ,ne_eq] at g2
 refine xP (h:=xP (h:=xP (h:=xP (h:=xP (h:=xP (h:=xP (h:=xP (h:=xP (h:=xP (h:=xP (h:=xF (h:=?_))))))))))))
 exact ⟨rfl,rfl,rfl,Zc9 rfl (by rw [Bool.eq_iff_iff];simp [ZbJ,];omega),t3⟩
 try simp only [sQ,ne_eq] at g1
 refine xP (h:=xP (h:=xP (h:=xP (h:=xF (h:=xN (h:=xM (h:=xM (h:=xM (h:=Zp (Zeg rfl rfl Tryz.underlying9 rfl rfl oz (by simpa using hc) ?_))))))))))
 refine ZdB (h:=xM (h:=Zt (d:=26) rfl (fun g4=>?_) (fun g4=>?_)))
 try simp only [sQ,ne_eq] at g4
 refine xM (h:=xM (h:=Zp (Zeg rfl rfl Tryz.underlying9 rfl rfl oz (by simpa using hc) ?_)))
 refine ZcE (h:=xT (h:=xN (h:=xT (h:=?_))))
 exact ⟨rfl,rfl,rfl,Zc9 rfl (by rw [Bool.eq_iff_iff];simp [ZbJ,];omega),t3⟩
 try simp only [sQ,ne_eq] at g4
 refine xP (h:=xP (h:=xP (h:=xP (h:=xF (h:=xN (h:=xT (h:=?_)))))))
 exact ⟨rfl,rfl,rfl,Zc9 rfl (by rw [Bool.eq_iff_iff];simp [ZbJ,];omega),t3⟩
 refine Z5 [(0,_),(3,_),(7,_),(33,_)] t4 (Zc rfl (fun g9=>?_) (fun g9=>?_))
 try simp only [sQ,ne_eq] at g9
 refine Za (xA (h:=Z5 [(0,_),(2,_),(3,_),(7,_),(33,_)] t5 (Zi (ZM (Zs (Ztp (ZM (Zs ?_))))))))
 exact Z2 .ret (.inl rfl) [_] t1 ⟨Zn (by simp [Zaq,ZsB hc g9]),rfl,rfl⟩
 try simp only [sQ,ne_eq] at g9
 refine Zh (Zy (Zf (Zd (xM (h:=Zp (ZeF rfl rfl rfl rfl (by first | exact ZaN oz oz | rfl) ?_))))))
 refine xA (h:=?_)
 exact Zn8 (k+1) oz ⟨rfl,oz,ZnR hc g9 ha⟩ t2 rfl
 try simp only [sQ,ne_eq] at g1
 refine ZU (Zad (Zn7 (ZF (Zf (Za (xM (h:=xVs Tryz.underlying9 (h:=xR ZjP rfl (Zco _ _ _ _) (h:=xA (h:=Z5 [(0,_),(2,_),(3,_),(7,_)] t4 (Zi ?_)))))))))))
 exact Z2 .ret (.inl rfl) [_] t1 ⟨Zn (by (obtain rfl:k=l.length:=oz);rw [List.take_length] at ha;rw [Bool.eq_iff_iff];simp [Zaq,ha];omega),rfl,rfl⟩

set_option maxHeartbeats 400000 in
theorem ZnM (b:Nat) (l:List UInt8) (i:Nat) (hi:i≤l.length) (hl:l.length≤2000000) (B:Kn):Ztc (pj J) 71 [ptr ⟨b,0,none⟩] B (cur b l i) (.bool (decide (i=l.length))) (cur b l i):=by
 refine Ze 13 Tryz.func71 rfl rfl rfl (Nat.le_of_ble_eq_true rfl) ?_
 refine Za (xA (h:=Z5 [(0,_),(2,_)] t2 (Zk (Z7 (same _ _) mo kr ⟨rfl,rfl⟩ (fun _ _=>?_)))))
 refine aM 0 rfl (h:=aNc 1 rfl (h:=aW 2 rfl Zcl (h:=aT 3 rfl (Zak fun D=>Zl rfl rfl lk3 rfl (atL 0 rfl rfl rfl) r4) (h:=aM 4 rfl (h:=aNc 5 rfl (h:=aW 6 rfl ZgL (h:=aT 7 rfl (Zak fun D=>Zl rfl rfl lk9 rfl (atL 0 rfl rfl rfl) r4) (h:=aT 8 rfl (Zak fun D=>Zpd rfl rfl Tryz.underlying9 rfl r4) (h:=Zq8 9 rfl (h:=aA 10 rfl (h:=ZC kr kr ?_)))))))))))
 refine Zf (Z5 [(0,_),(2,_)] t2 (Zi ?_))
 exact ZfW .ret (.inl rfl) [_] 0 rfl t1 ⟨Zn (by rw [Bool.eq_iff_iff];simp;omega),rfl,rfl⟩

set_option maxHeartbeats 400000 in
theorem ZuL (b:Nat) (l:List UInt8) (i:Nat) (hi:i≤l.length) (hl:l.length≤2000000) (x:UInt8) (B:Kn):Ztc (pj J) 103 [ptr ⟨b,0,none⟩,.int .u8 x.toNat] B (cur b l i) (.bool (decide (l[i]? = some x))) (cur b l (if l[i]? = some x then i+1 else i)):=by
 refine Ze 27 Tryz.func103 rfl rfl rfl (Nat.le_of_ble_eq_true rfl) ?_
 refine Za (xA (h:=Z5 [(0,_),(1,_),(4,_)] t3 (Zk (ZhQ 19 (decide (l[i]?≠some x)) [0,1,4] (same _ _) mo kr ⟨rfl,rfl⟩ (fun _ _=>?_) ?_))))
 refine aM 0 rfl (h:=aT 1 rfl (Zak fun D=>ZhR 0 rfl rfl rfl ZvF rfl (ZnM _ _ _ oz oz _) r4) (h:=?_))
 refine aM 2 rfl (h:=Zal (d:=7) rfl (fun g1=>?_) (fun g1=>?_))
 try simp only [sQ,ne_eq] at g1
 refine aZ 3 rfl (h:=aZ 4 rfl (h:=aZ 5 rfl (h:=aZ 6 rfl (h:=aZ 7 rfl (h:=aZ 8 rfl (h:=aZ 9 rfl (h:=aZ 10 rfl (h:=aZ 11 rfl (h:=aZ 12 rfl (h:=aZ 13 rfl (h:=aPT 14 rfl (h:=ZC kr kr ?_))))))))))))
 exact ⟨rfl,rfl,rfl,Zc9 rfl (by first | (simp [g1];done) | (rw [Bool.eq_iff_iff];simp [hc,← UInt8.toNat_inj];omega)),t3⟩
 try simp only [sQ,ne_eq] at g1
 obtain ⟨c,hc⟩ :∃c,l[i]? = some c:=⟨_,List.getElem?_eq_getElem oz⟩
 refine aM 3 rfl (h:=aNc 4 rfl (h:=aW 5 rfl ZgL (h:=aT 6 rfl (Zak fun D=>Zl rfl rfl lk9 rfl (atL 0 rfl rfl rfl) r4) (h:=aM 7 rfl (h:=aNc 8 rfl (h:=aW 9 rfl Zcl (h:=aT 10 rfl (Zak fun D=>Zl rfl rfl lk3 rfl (atL 0 rfl rfl rfl) r4) (h:=aT 11 rfl (Zak fun D=>Zeg rfl rfl Tryz.underlying9 rfl rfl oz (by simpa using hc) r4) (h:=?_)))))))))
 refine aM 12 rfl (h:=Zvv 13 rfl (h:=aPF 14 rfl (h:=ZC kr kr ?_)))
 exact ⟨rfl,rfl,rfl,Zc9 rfl (by first | (simp [g1];done) | (rw [Bool.eq_iff_iff];simp [hc,← UInt8.toNat_inj];omega)),t3⟩
 refine Z5 [(0,_),(1,_),(4,_),(19,_)] t4 (Zc rfl (fun g2=>?_) (fun g2=>?_))
 try simp only [sQ,ne_eq] at g2
 refine Za (xA (h:=Z5 [(0,_),(1,_),(4,_),(19,_)] t4 (Zi (Zs ?_))))
 exact ZfW .ret (.inl rfl) [_] 0 rfl t1 ⟨Zn (by simp [g2]),rfl,by rw [if_neg g2]⟩
 try simp only [sQ,ne_eq] at g2
 refine Zh (Zf (Za (xM (h:=xNc (h:=xW Zcl (h:=x1 lk3 0 (h:=Zp (ZeF rfl rfl rfl rfl (by first | exact ZaN oz oz | rfl) ?_))))))))
 refine xNc (h:=xW Zcl (h:=xS [_] 0 [_,_] sz3 (h:=ZP [(0,_),(1,_),(4,_),(19,_)] [_] t4 rfl (Za (xA (h:=Z5 [(0,_),(1,_),(4,_),(19,_)] t4 (Zi ?_)))))))
 exact ZfW .ret (.inl rfl) [_] 0 rfl t1 ⟨Zn (by simp [g2]),rfl,by rw [if_pos g2];rfl⟩

set_option maxHeartbeats 400000 in
theorem ZpW (b:Nat) (l:List UInt8) (i:Nat) (hi:i≤l.length) (hl:l.length≤2000000) (B:Kn):Ztc (pj J) 70 [ptr ⟨b,0,none⟩] B (cur b l i) (.tuple #[str (word l i),.bool (ZdC (word l i))]) (cur b l (i+(word l i).length)):=by
 refine Ze 54 Tryz.func70 rfl rfl rfl (Nat.le_of_ble_eq_true rfl) ?_
 refine Za (xA (h:=xA (h:=Z5 [(0,_),(2,_),(3,_)] t3 (Za (xM (h:=xNc (h:=xW Zcl (h:=x1 lk3 0 (h:=xA (h:=Z5 [(0,_),(2,_),(3,_),(4,_)] t4 (Zk (Zo ?_))))))))))))
 refine ZkN (α:=Nat) (fun k=>[(0,ptr ⟨b,0,none⟩),(4,.int .i64 i)]) (fun k=>[cur b l (i+k)]) (fun k Bx=>Bx=B∧i+k≤l.length∧((l.drop i).take k).all ZbJ=true) (fun k=>l.length - i - k) 0 t2 rfl (⟨rfl,oz,by simp⟩) (fun k B1 hle1 hI=>?_)
 obtain ⟨rfl,hk,ha⟩:=hI
 refine Zk (ZhQ 24 (match l[i+k]? with | some c=>ZbJ c | none=>false) [0,4] (same _ _) mo kr ⟨rfl,rfl⟩ (fun _ _=>?_) ?_)
 refine aM 0 rfl (h:=aT 1 rfl (Zak fun D=>ZhR 0 rfl rfl rfl ZvF rfl (ZnM _ _ _ oz oz _) r4) (h:=?_))
 refine aN 2 rfl (h:=aM 3 rfl (h:=Zal (d:=13) rfl (fun g1=>?_) (fun g1=>?_)))
 try simp only [sQ,ne_eq] at g1
 obtain ⟨c,hc⟩ :∃c,l[i+k]? = some c:=⟨_,List.getElem?_eq_getElem oz⟩
 refine aM 4 rfl (h:=aNc 5 rfl (h:=aW 6 rfl ZgL (h:=aT 7 rfl (Zak fun D=>Zl rfl rfl lk9 rfl (atL 0 rfl rfl rfl) r4) (h:=aM 8 rfl (h:=aNc 9 rfl (h:=aW 10 rfl Zcl (h:=aT 11 rfl (Zak fun D=>Zl rfl rfl lk3 rfl (atL 0 rfl rfl rfl) r4) (h:=aT 12 rfl (Zak fun D=>Zeg rfl rfl Tryz.underlying9 rfl rfl oz hc r4) (h:=?_)))))))))
 refine aT 13 rfl (Zak fun D=>ZaC rfl rfl Zw0 rfl (Zoo _ _) r4) (h:=aPT 14 rfl (h:=ZC kr kr ?_))
 exact ⟨rfl,rfl,rfl,Zc9 rfl (by first | (rw [hc];done) | (rw [List.getElem?_eq_none oz])),t2⟩
 try simp only [sQ,ne_eq] at g1
 refine aZ 4 rfl (h:=aZ 5 rfl (h:=aZ 6 rfl (h:=aZ 7 rfl (h:=aZ 8 rfl (h:=aZ 9 rfl (h:=aZ 10 rfl (h:=aZ 11 rfl (h:=aZ 12 rfl (h:=aZ 13 rfl (h:=aPF 14 rfl (h:=ZC kr kr ?_)))))))))))
 exact ⟨rfl,rfl,rfl,Zc9 rfl (by first | (rw [hc];done) | (rw [List.getElem?_eq_none oz])),t2⟩
 refine Z5 [(0,_),(4,_),(24,_)] t3 (Zc rfl (fun g2=>?_) (fun g2=>?_))
 try simp only [sQ,ne_eq] at g2
 refine Zh (Zf (Zo (Zd (xM (h:=xNc (h:=xW Zcl (h:=x1 lk3 0 (h:=Zp (ZeF rfl rfl rfl rfl (by first | exact ZaN oz oz | rfl) ?_)))))))))
 refine xNc (h:=xW Zcl (h:=xS [_] 0 [_,_] sz3 (h:=Zy ?_)))
 obtain ⟨c,hc,hn⟩:=ZpC g2
 exact Zn8 (k+1) (by have:=Zcb hc;omega) ⟨rfl,by have:=Zcb hc;omega,ZnR (by simpa using hc) hn ha⟩ t2 rfl
 try simp only [sQ,ne_eq] at g2
 have hw:word l i=(l.drop i).take k:=Zrk ha (fun c hc=>by rw [hc] at g2;exact g2)
 have hwl:(word l i).length=k:=by rw [hw,List.length_take,List.length_drop];omega
 refine ZU (Zad (Zn7 (ZF (Zf (Za (xM (h:=xNc (h:=xW Zcl (h:=x1 lk3 0 (h:=xM (h:=Zp (Zi8 rfl rfl rfl rfl (by first | exact ZaN oz oz | rfl) ?_))))))))))))
 refine xA (h:=Z5 [(0,_),(4,_),(5,_),(24,_)] t4 (Zk (Z7 (same _ _) mo kr ⟨rfl,rfl⟩ (fun _ _=>?_))))
 refine aM 0 rfl (h:=aNc 1 rfl (h:=aW 2 rfl ZgL (h:=aT 3 rfl (Zak fun D=>Zl rfl rfl lk9 rfl (atL 0 rfl rfl rfl) r4) (h:=aM 4 rfl (h:=aM 5 rfl (h:=aNc 6 rfl (h:=aW 7 rfl Zcl (h:=aT 8 rfl (Zak fun D=>Zl rfl rfl lk3 rfl (atL 0 rfl rfl rfl) r4) (h:=aT 9 rfl (Zak fun D=>Zf2 rfl rfl Tryz.underlying9 rfl (a:=i) (b:=i+k) ⟨_,_,rfl,rfl⟩ ⟨_,_,rfl,oz⟩ oz oz r4) (h:=?_))))))))))
 refine aM 10 rfl (h:=Zvw 11 rfl (h:=aM 12 rfl (h:=Zal (d:=50) rfl (fun g1=>?_) (fun g1=>?_))))
 try simp only [sQ,ne_eq] at g1
 refine aM 13 rfl (h:=Zum 14 rfl (h:=aPT 15 rfl (h:=aA 16 rfl (h:=aA 17 rfl (h:=ZC kr kr ?_)))))
 refine Zf (Z5 [(0,_),(2,_),(3,_),(4,_),(5,_),(24,_)] t6 (Zi ?_))
 exact ZfW .ret (.inl rfl) [_,_] 0 rfl t2 ⟨Zjo (by rw [Zft,hw]) (Zn (by rw [Bool.eq_iff_iff];simp [ZdC,hwl];omega)),rfl,by rw [hwl]⟩
 try simp only [sQ,ne_eq] at g1
 refine aZ 13 rfl (h:=aZ 14 rfl (h:=aPF 15 rfl (h:=aA 16 rfl (h:=aA 17 rfl (h:=ZC kr kr ?_)))))
 refine Zf (Z5 [(0,_),(2,_),(3,_),(4,_),(5,_),(24,_)] t6 (Zi ?_))
 exact ZfW .ret (.inl rfl) [_,_] 0 rfl t2 ⟨Zjo (by rw [Zft,hw]) (Zn (by rw [Bool.eq_iff_iff];simp [ZdC,hwl];omega)),rfl,by rw [hwl]⟩

set_option maxHeartbeats 400000 in
theorem Zsq (b:Nat) (l:List UInt8) (i:Nat) (hi:i≤l.length) (hl:l.length≤2000000) (B:Kn):Ztc (pj J) 76 [ptr ⟨b,0,none⟩] B (cur b l i) (.tuple #[str (ZiR l i),.bool (ZmU l i)]) (cur b l (dom l i).2):=by
 refine Ze 53 Tryz.func76 rfl rfl rfl (Nat.le_of_ble_eq_true rfl) ?_
 refine Za (xA (h:=xA (h:=Z5 [(0,_),(2,_),(3,_)] t3 (Za (xM (h:=xNc (h:=xW Zcl (h:=x1 lk3 0 (h:=xA (h:=Z5 [(0,_),(2,_),(3,_),(4,_)] t4 (Zk (Za ?_))))))))))))
 refine xM (h:=Zp (Zji 0 rfl rfl rfl Zwh rfl (ZpW _ _ _ oz oz _) ?_))
 refine xM (h:=xE (h:=xE (h:=xA (h:=xA (h:=ZP [(0,_),(2,_),(3,_),(4,_),(6,_)] [_] t5 rfl (Za (xM (h:=xN (h:=Z5 [(0,_),(2,_),(3,_),(4,_),(6,_),(20,_)] t6 (Zc rfl (fun g1=>?_) (fun g1=>?_)))))))))))
 try simp only [sQ,ne_eq] at g1
 refine Za (xA (h:=xA (h:=Z5 [(0,_),(2,_),(3,_),(4,_),(6,_),(20,_)] t6 (Zi (Zs ?_)))))
 exact ZfW .ret (.inl rfl) [_,_] 0 rfl t2 ⟨Zjo (by simp [ZiR,ZmT g1]) (Zn (by simp [ZmU,ZmT g1])),rfl,by rw [ZmT g1]⟩
 try simp only [sQ,ne_eq] at g1
 refine Zh (Zf (Zk (Za (xA (h:=Z5 [(0,_),(2,_),(3,_),(4,_),(6,_),(7,_),(20,_)] t7 (Zo (ZkN (α:=Nat × Nat) (fun x=>[(0,ptr ⟨b,0,none⟩),(4,.int .i64 i),(7,.int .i64 x.1)]) (fun x=>[cur b l x.2]) (fun x Bx=>Bx=B∧1≤x.1∧x.1≤3∧i≤x.2∧x.2≤l.length∧dom l i=more (3 - x.1) l x.2) (fun x=>3 - x.1) (1,i+(word l i).length) t3 rfl (⟨rfl,oz,oz,oz,ZhO hi,Zsr g1⟩) (fun x B1 hle1 hI=>?_))))))))
 obtain ⟨rfl,hk1,hk3,hix,hxl,hd⟩:=hI
 refine Zk (Za (xM (h:=Zae (h:=xM (h:=Zt (d:=23) rfl (fun g2=>?_) (fun g2=>?_))))))
 try simp only [sQ,ne_eq] at g2
 refine xM (h:=Zp (Zji 0 rfl rfl rfl ZwZ rfl (ZuL _ _ _ oz oz 46 _) ?_))
 refine xT (h:=ZP [(0,_),(4,_),(7,_),(26,_)] [_] t4 rfl (Zc rfl (fun g3=>?_) (fun g3=>?_)))
 try simp only [sQ,ne_eq] at g3
 rw [if_pos g3]
 have hx2:=Zcb g3
 refine Zh (Zf (Zk (Zo (Za (xM (h:=Zp (Zji 0 rfl rfl rfl Zwh rfl (ZpW _ _ _ oz oz _) ?_)))))))
 refine xM (h:=xE (h:=xE (h:=xA (h:=xA (h:=ZP [(0,_),(4,_),(7,_),(9,_),(26,_)] [_] t5 rfl (Za (xM (h:=xN (h:=Z5 [(0,_),(4,_),(7,_),(9,_),(26,_),(35,_)] t6 (Zc rfl (fun g4=>?_) (fun g4=>?_)))))))))))
 try simp only [sQ,ne_eq] at g4
 refine Za (xA (h:=xA (h:=Z5 [(0,_),(2,_),(3,_),(4,_),(7,_),(9,_),(26,_),(35,_)] t8 (Zi (ZM (Zs (Ztp (ZM (Zs ?_)))))))))
 have hdd:=hd.trans (ZrP oz g3 g4)
 exact ZfW .ret (.inl rfl) [_,_] 0 rfl t2 ⟨Zjo (by simp [ZiR,hdd]) (Zn (by simp [ZmU,hdd])),rfl,by rw [hdd]⟩
 try simp only [sQ,ne_eq] at g4
 refine Zh (Zy (Zf (Zd (xM (h:=Zp (ZeF rfl rfl rfl rfl (by first | exact ZaN oz oz | rfl) ?_))))))
 refine xA (h:=?_)
 exact Zn8 (x.1+1,x.2+1+(word l (x.2+1)).length) (so) ⟨rfl,so,so,so,ZhO oz,by rw [hd,Zp1 oz g3 g4];rw [show 3 - (x.1+1)=3 - x.1 - 1 from by omega]⟩ t3 rfl
 try simp only [sQ,ne_eq] at g3
 rw [if_neg g3]
 replace hd:=hd.trans (Zii g3)
 refine ZU (Zad (Zn7 (ZF (Zf (Zk (Z7 (same _ _) mo kr ⟨rfl,rfl⟩ (fun _ _=>?_)))))))
 refine aM 0 rfl (h:=aNc 1 rfl (h:=aW 2 rfl ZgL (h:=aT 3 rfl (Zak fun D=>Zl rfl rfl lk9 rfl (atL 0 rfl rfl rfl) r4) (h:=aM 4 rfl (h:=aM 5 rfl (h:=aNc 6 rfl (h:=aW 7 rfl Zcl (h:=aT 8 rfl (Zak fun D=>Zl rfl rfl lk3 rfl (atL 0 rfl rfl rfl) r4) (h:=aT 9 rfl (Zak fun D=>Zf2 rfl rfl Tryz.underlying9 rfl (a:=i) (b:=x.2) ⟨_,_,rfl,rfl⟩ ⟨_,_,rfl,rfl⟩ oz oz r4) (h:=?_))))))))))
 refine aM 10 rfl (h:=aNc 11 rfl (h:=aW 12 rfl Zcl (h:=aT 13 rfl (Zak fun D=>Zl rfl rfl lk3 rfl (atL 0 rfl rfl rfl) r4) (h:=aM 14 rfl (h:=aT 15 rfl (Zak fun D=>Zi8 rfl rfl rfl rfl (by first | exact ZaN oz oz | rfl) r4) (h:=?_))))))
 refine Zum 16 rfl (h:=aA 17 rfl (h:=aA 18 rfl (h:=ZC kr kr ?_)))
 refine Zf (Z5 [(0,_),(2,_),(3,_),(4,_),(7,_),(26,_)] t6 (Zi ?_))
 exact ZfW .ret (.inl rfl) [_,_] 0 rfl t2 ⟨Zjo (by simp [ZiR,hd]) (Zn (by rw [Bool.eq_iff_iff];simp [ZmU,hd];omega)),rfl,by rw [hd]⟩
 try simp only [sQ,ne_eq] at g2
 replace hd:dom l i=(true,x.2):=hd.trans (by rw [show 3 - x.1=0 from by omega];rfl)
 refine xP (h:=xP (h:=xF (h:=Z5 [(0,_),(4,_),(7,_),(26,_)] t4 (Zc (t:=false) rfl (fun h=>Bool.noConfusion h) (fun _=>ZU (Zad (Zn7 (ZF (Zf (Zk (Z7 (same _ _) mo kr ⟨rfl,rfl⟩ (fun _ _=>?_))))))))))))
 refine aM 0 rfl (h:=aNc 1 rfl (h:=aW 2 rfl ZgL (h:=aT 3 rfl (Zak fun D=>Zl rfl rfl lk9 rfl (atL 0 rfl rfl rfl) r4) (h:=aM 4 rfl (h:=aM 5 rfl (h:=aNc 6 rfl (h:=aW 7 rfl Zcl (h:=aT 8 rfl (Zak fun D=>Zl rfl rfl lk3 rfl (atL 0 rfl rfl rfl) r4) (h:=aT 9 rfl (Zak fun D=>Zf2 rfl rfl Tryz.underlying9 rfl (a:=i) (b:=x.2) ⟨_,_,rfl,rfl⟩ ⟨_,_,rfl,rfl⟩ oz oz r4) (h:=?_))))))))))
 refine aM 10 rfl (h:=aNc 11 rfl (h:=aW 12 rfl Zcl (h:=aT 13 rfl (Zak fun D=>Zl rfl rfl lk3 rfl (atL 0 rfl rfl rfl) r4) (h:=aM 14 rfl (h:=aT 15 rfl (Zak fun D=>Zi8 rfl rfl rfl rfl (by first | exact ZaN oz oz | rfl) r4) (h:=?_))))))
 refine Zum 16 rfl (h:=aA 17 rfl (h:=aA 18 rfl (h:=ZC kr kr ?_)))
 refine Zf (Z5 [(0,_),(2,_),(3,_),(4,_),(7,_),(26,_)] t6 (Zi ?_))
 exact ZfW .ret (.inl rfl) [_,_] 0 rfl t2 ⟨Zjo (by simp [ZiR,hd]) (Zn (by rw [Bool.eq_iff_iff];simp [ZmU,hd];omega)),rfl,by rw [hd]⟩

set_option maxHeartbeats 400000 in
theorem Zcp (l:List UInt8) (hl:l.length≤2000000) (B:Kn):Za1 (pj J) 41 [str l] B (.bool (Zaq l)):=by
 refine Ze 16 Tryz.func41 rfl rfl rfl (Nat.le_of_ble_eq_true rfl) ?_
 refine Za (xA (h:=Z5 [(0,_),(2,_)] t2 (Za (xM (h:=xB [(0,_)] [_,_] [_,_] ZuV Zrj (h:=xAl [_,_] Zrj (h:=fun b0=>xS [_,_] 0 [_,_] ZuQ (h:=ZP [(0,_),(2,_),(3,_)] [_] t3 rfl (Za (Zp (Zji 0 rfl rfl rfl Zwh rfl (ZpW _ _ 0 oz hl _) ?_)))))))))))
 refine xM (h:=xE (h:=xE (h:=xA (h:=xA (h:=ZP [(0,_),(2,_),(3,_),(5,_)] [_] t4 rfl (Za (xM (h:=xM (h:=Zt (d:=13) rfl (fun g1=>?_) (fun g1=>?_))))))))))
 try simp only [sQ,ne_eq] at g1
 refine Zp (ZhR 0 rfl rfl rfl ZvF rfl (ZnM _ _ (0+(word l 0).length) (ZhO (Nat.zero_le _)) oz _) ?_)
 refine xT (h:=xA (h:=Z5 [(0,_),(2,_),(3,_),(5,_)] t4 (Zi ?_)))
 exact Z2 .ret (.inl rfl) [_] t1 ⟨Zn (by rw [Zdo];simp [g1];try omega),rfl,rfl⟩
 try simp only [sQ,ne_eq] at g1
 refine xP (h:=xF (h:=xA (h:=Z5 [(0,_),(2,_),(3,_),(5,_)] t4 (Zi ?_))))
 exact Z2 .ret (.inl rfl) [_] t1 ⟨Zn (by rw [Zdo];simp [g1];try omega),rfl,rfl⟩

abbrev rd (b : Nat) (q : Option Addr) (m cp p : Nat) : Cells := Zbm b [.slice q m cp, .int .i64 p] 95
set_option maxHeartbeats 400000 in
theorem Znv (q:Option Addr) (m cp:Nat) (hmc:m≤cp) (B:Kn) (hb:Zai B q m):Zw3 (pj J) 36 [.slice q m cp] B (fun v s=>∃b q m cp,v=ptr ⟨b,0,none⟩∧s=rd b q m cp 0∧m≤2000∧Zai B q m):=by
 refine Ze 11 Tryz.func36 rfl rfl rfl (Nat.le_of_ble_eq_true rfl) ?_
 refine Za (xA (h:=Z5 [(0,_),(2,_)] t2 (Zk (Za (xM (h:=xV Tryz.underlying22 (h:=Zbx (h:=Z5 [(0,_),(2,_),(5,_)] t3 (Zc rfl (fun g1=>?_) (fun g1=>?_))))))))))
 try simp only [sQ,ne_eq] at g1
 refine Zd (xM (h:=Zp (Zfc rfl rfl Tryz.underlying22 sz5 rfl (a:=0) (b:=2000) rfl ⟨_,_,rfl,rfl⟩ oz oz ?_)))
 refine xA (h:=Zf (Za (xM (h:=xB [(0,_)] [_,_] [_,_] Zw5 Zw4 (h:=xBx [_,_] (h:=fun b0=>xA (h:=ZP [(0,_),(2,_),(5,_)] [_] t3 rfl (Zi ?_))))))))
 exact ZfW .ret (.inl rfl) [_] 0 rfl t1 ⟨rfl,_,rfl,_,_,_,_,rfl,rfl,oz,hb.take oz⟩
 try simp only [sQ,ne_eq] at g1
 refine Zh (Zf (Za (xM (h:=xB [(0,_)] [_,_] [_,_] Zw5 Zw4 (h:=xBx [_,_] (h:=fun b0=>xA (h:=ZP [(0,_),(2,_),(5,_)] [_] t3 rfl (Zi ?_))))))))
 exact ZfW .ret (.inl rfl) [_] 0 rfl t1 ⟨rfl,_,rfl,_,_,_,_,rfl,rfl,oz,hb⟩

set_option maxHeartbeats 400000 in
theorem ZO (b:Nat) (q:Option Addr) (m cp p:Nat) (n:Int) (hp:p≤1000000000000) (hn:1≤n) (hn2:n≤1000000000000) (hm:m≤2000) (B:Kn) (hb:Zai B q m):Ex1 (pj J) 64 [ptr ⟨b,0,none⟩,.int .i64 n] B (rd b q m cp p) (fun v s=>∃r:Int,v = .int .i64 r∧0≤r∧r<n∧s=rd b q m cp (p+1)):=by
 refine Ze 99 Tryz.func64 rfl rfl rfl (Nat.le_of_ble_eq_true rfl) ?_
 refine Za ?_
 refine xA (h:=?_)
 refine Z5 [(0,_),(1,_),(4,_)] t3 ?_
 refine Za ?_
 refine xM (h:=?_)
 refine xM (h:=?_)
 refine xNc (h:=?_)
 refine xW Zqt (h:=?_)
 refine x1 lk3 0 (h:=?_)
 refine Zp (ZeF rfl rfl rfl rfl (by first | exact ZaN oz oz | rfl) ?_)
 refine xNc (h:=?_)
 refine xW Zqt (h:=?_)
 refine xS [_] 0 [_,_] sz3 (h:=?_)
 refine ZP [(0,_),(1,_),(4,_)] [_] t3 rfl ?_
 refine Zk ?_
 refine Za ?_
 refine xM (h:=?_)
 refine Zae (h:=?_)
 refine xM (h:=?_)
 refine Zt (d:=17) rfl (fun g1=>by have:=of_decide_eq_true g1;omega) (fun g1=>?_)
 try simp only [sQ,ne_eq] at g1
 refine xM (h:=?_)
 refine xNc (h:=?_)
 refine xW Zhg (h:=?_)
 refine x1 Zs2 0 (h:=?_)
 refine xV Tryz.underlying22 (h:=?_)
 refine ZJ (h:=?_)
 refine xF (h:=?_)
 refine Z5 [(0,_),(1,_),(4,_),(24,_)] t4 ?_
 refine Zc rfl (fun g2=>?_) (fun g2=>?_)
 try simp only [sQ,ne_eq] at g2
 refine Za ?_
 refine xA (h:=?_)
 refine Z5 [(0,_),(1,_),(4,_),(24,_)] t4 ?_
 refine Zi (Zs ?_)
 exact ZfW .ret (.inl rfl) [_] 0 rfl t1 ⟨rfl,_,rfl,0,rfl,oz,oz,rfl⟩
 try simp only [sQ,ne_eq] at g2
 have hm0:0<m:=by omega
 obtain ⟨a,rfl,hc⟩:=hb.at hm0
 refine Zh ?_
 refine Zf ?_
 refine Za ?_
 refine xM (h:=?_)
 refine xNc (h:=?_)
 refine xW Zqt (h:=?_)
 refine x1 lk3 0 (h:=?_)
 refine Zp (Zi8 rfl rfl rfl rfl (by first | exact ZaN oz oz | rfl) ?_)
 refine xA (h:=?_)
 refine Z5 [(0,_),(1,_),(4,_),(5,_),(24,_)] t5 ?_
 refine Zk ?_
 refine Za ?_
 refine xM (h:=?_)
 refine xM (h:=?_)
 refine xNc (h:=?_)
 refine xW Zhg (h:=?_)
 refine x1 Zs2 0 (h:=?_)
 refine xV Tryz.underlying22 (h:=?_)
 refine Zae (h:=?_)
 refine Z5 [(0,_),(1,_),(4,_),(5,_),(24,_),(36,_)] t6 ?_
 refine Zc rfl (fun g3=>?_) (fun g3=>?_)
 try simp only [sQ,ne_eq] at g3
 obtain ⟨z,hz,h1⟩:=hc (↑p+1 - 1) oz oz
 refine Za ?_
 refine xM (h:=?_)
 refine xNc (h:=?_)
 refine xW Zhg (h:=?_)
 refine x1 Zs2 0 (h:=?_)
 refine xM (h:=?_)
 refine Zp (Za3 rfl rfl Tryz.underlying22 sz5 rfl rfl oz oz ?_)
 refine Zp (Zl rfl rfl lk5 rfl (h1 _) ?_)
 refine Zp (Zl7 rfl rfl Tryz.underlying5 Tryz.underlying3 rfl (by first | exact ZaN oz oz | rfl) ?_)
 refine xM (h:=?_)
 refine Zp (Zf3 rfl rfl rfl rfl oz (by first | exact ZaN oz oz | rfl) ?_)
 refine xA (h:=?_)
 refine Z5 [(0,_),(1,_),(4,_),(5,_),(24,_),(36,_)] t6 ?_
 refine Zi (Zs ?_)
 exact ZfW .ret (.inl rfl) [_] 0 rfl t1 ⟨rfl,_,rfl,_,rfl,Int.tmod_nonneg _ oz,Int.tmod_lt_of_pos _ oz,rfl⟩
 try simp only [sQ,ne_eq] at g3
 obtain ⟨z,hz,h1⟩:=hc (Int.tmod (↑p+1 - 1) ↑m) (Int.tmod_nonneg _ oz) (Int.tmod_lt_of_pos _ oz)
 obtain ⟨z2,hz2,h2⟩:=hc (Int.tmod ((↑p+1 - 1)*7+3) ↑m) (Int.tmod_nonneg _ oz) (Int.tmod_lt_of_pos _ oz)
 have ht0:0≤Int.tdiv (↑p+1 - 1) ↑m:=Int.tdiv_nonneg oz oz
 have ht1:Int.tdiv (↑p+1 - 1) ↑m≤↑p+1 - 1:=Int.tdiv_le_self _ oz
 refine Zh ?_
 refine Zf ?_
 refine Zk ?_
 refine Z7 (same _ _) mo kr ⟨rfl,rfl⟩ (fun _ _=>?_)
 refine aM 0 rfl (h:=?_)
 refine aNc 1 rfl (h:=?_)
 refine aW 2 rfl Zhg (h:=?_)
 refine aT 3 rfl (Zak fun D=>Zl rfl rfl Zs2 rfl (atL 0 rfl rfl rfl) r4) (h:=?_)
 refine aM 4 rfl (h:=?_)
 refine aM 5 rfl (h:=?_)
 refine aNc 6 rfl (h:=?_)
 refine aW 7 rfl Zhg (h:=?_)
 refine aT 8 rfl (Zak fun D=>Zl rfl rfl Zs2 rfl (atL 0 rfl rfl rfl) r4) (h:=?_)
 refine aV 9 rfl Tryz.underlying22 (h:=?_)
 refine aT 10 rfl (Zak fun D=>Zf3 rfl rfl rfl rfl oz (by first | exact ZaN oz oz | rfl) r4) (h:=?_)
 refine aT 11 rfl (Zak fun D=>Za3 rfl rfl Tryz.underlying22 sz5 rfl rfl (Int.tmod_nonneg _ oz) (Int.tmod_lt_of_pos _ oz) r4) (h:=?_)
 refine aT 12 rfl (Zak fun D=>Zl rfl rfl lk5 rfl (h1 _) r4) (h:=?_)
 refine aT 13 rfl (Zak fun D=>Zl7 rfl rfl Tryz.underlying5 Tryz.underlying3 rfl (by first | exact ZaN oz oz | rfl) r4) (h:=?_)
 refine aT 14 rfl (Zak fun D=>ZkL rfl rfl rfl rfl (by first | exact ZaN oz oz | rfl) r4) (h:=?_)
 refine aM 15 rfl (h:=?_)
 refine aNc 16 rfl (h:=?_)
 refine aW 17 rfl Zhg (h:=?_)
 refine aT 18 rfl (Zak fun D=>Zl rfl rfl Zs2 rfl (atL 0 rfl rfl rfl) r4) (h:=?_)
 refine aM 19 rfl (h:=?_)
 refine aT 20 rfl (Zak fun D=>ZkL rfl rfl rfl rfl (by first | exact ZaN oz oz | rfl) r4) (h:=?_)
 refine aT 21 rfl (Zak fun D=>ZeF rfl rfl rfl rfl (by first | exact ZaN oz oz | rfl) r4) (h:=?_)
 refine aM 22 rfl (h:=?_)
 refine aNc 23 rfl (h:=?_)
 refine aW 24 rfl Zhg (h:=?_)
 refine aT 25 rfl (Zak fun D=>Zl rfl rfl Zs2 rfl (atL 0 rfl rfl rfl) r4) (h:=?_)
 refine aV 26 rfl Tryz.underlying22 (h:=?_)
 refine aT 27 rfl (Zak fun D=>Zf3 rfl rfl rfl rfl oz (by first | exact ZaN oz oz | rfl) r4) (h:=?_)
 refine aT 28 rfl (Zak fun D=>Za3 rfl rfl Tryz.underlying22 sz5 rfl rfl (Int.tmod_nonneg _ oz) (Int.tmod_lt_of_pos _ oz) r4) (h:=?_)
 refine aT 29 rfl (Zak fun D=>Zl rfl rfl lk5 rfl (h2 _) r4) (h:=?_)
 refine aT 30 rfl (Zak fun D=>Zl7 rfl rfl Tryz.underlying5 Tryz.underlying3 rfl (by first | exact ZaN oz oz | rfl) r4) (h:=?_)
 refine aT 31 rfl (Zak fun D=>ZkL rfl rfl rfl rfl (by first | exact ZaN oz oz | rfl) r4) (h:=?_)
 refine aT 32 rfl (Zak fun D=>ZeF rfl rfl rfl rfl (by first | exact ZaN oz oz | rfl) r4) (h:=?_)
 refine aM 33 rfl (h:=?_)
 refine aT 34 rfl (Zak fun D=>ZkL rfl rfl rfl rfl (by first | exact ZaN oz oz | rfl) r4) (h:=?_)
 refine aT 35 rfl (Zak fun D=>ZeF rfl rfl rfl rfl (by first | exact ZaN oz oz | rfl) r4) (h:=?_)
 refine aM 36 rfl (h:=?_)
 refine aM 37 rfl (h:=?_)
 refine aNc 38 rfl (h:=?_)
 refine aW 39 rfl Zhg (h:=?_)
 refine aT 40 rfl (Zak fun D=>Zl rfl rfl Zs2 rfl (atL 0 rfl rfl rfl) r4) (h:=?_)
 refine aV 41 rfl Tryz.underlying22 (h:=?_)
 refine aT 42 rfl (Zak fun D=>Zfz rfl rfl rfl rfl oz (by first | exact ZaN oz oz | rfl) r4) (h:=?_)
 refine aT 43 rfl (Zak fun D=>ZkL rfl rfl rfl rfl (by first | exact ZaN oz oz | rfl) r4) (h:=?_)
 refine aT 44 rfl (Zak fun D=>ZeF rfl rfl rfl rfl (by first | exact ZaN oz oz | rfl) r4) (h:=?_)
 refine aA 45 rfl (h:=?_)
 refine ZC kr kr ?_
 refine Zf ?_
 refine Z5 [(0,_),(1,_),(4,_),(5,_),(6,_),(24,_),(36,_)] t7 ?_
 generalize hx:(↑z*131+↑z2*1117+(↑p+1 - 1)*29+(↑p+1 - 1:Int).tdiv ↑m*53:Int)=x
 have hx0:0≤x:=by omega
 have hx1:x<1000000000000000:=by omega
 have hy0:0≤Int.tdiv x 64:=Int.tdiv_nonneg oz oz
 have hy1:Int.tdiv x 64≤x:=Int.tdiv_le_self _ oz
 refine Za ?_
 refine xM (h:=?_)
 refine xM (h:=?_)
 refine Zp (Zfz rfl rfl rfl rfl oz (by first | exact ZaN oz oz | rfl) ?_)
 refine Zp (ZvR rfl rfl rfl rfl oz oz oz oz (fun y hy2 hy3=>?_))
 refine xA (h:=?_)
 refine Z5 [(0,_),(1,_),(4,_),(5,_),(6,_),(24,_),(36,_)] t7 ?_
 refine Za ?_
 refine xM (h:=?_)
 refine xM (h:=?_)
 refine Zp (Zf3 rfl rfl rfl rfl oz (by first | exact ZaN oz oz | rfl) ?_)
 refine xA (h:=?_)
 refine Z5 [(0,_),(1,_),(4,_),(5,_),(6,_),(24,_),(36,_)] t7 ?_
 refine Zi ?_
 exact ZfW .ret (.inl rfl) [_] 0 rfl t1 ⟨rfl,_,rfl,_,rfl,Int.tmod_nonneg _ oz,Int.tmod_lt_of_pos _ oz,rfl⟩

set_option maxHeartbeats 400000 in
theorem ZpO (b:Nat) (q:Option Addr) (m cp p:Nat) (b1:Nat) (ls:List (List UInt8)) (hp:p≤1000000000000) (hn:1≤ls.length) (hn2:ls.length≤1000000000000) (hm:m≤2000) (B:Kn) (hbm:Zai B q m):ZN (pj J) 75 [ptr ⟨b,0,none⟩,.slice (some ⟨b1,0,none⟩) ls.length ls.length] B [rd b q m cp p,Zbm b1 (ls.map str) 9] (fun v B' Ls=>B'=B∧∃x,x∈ls∧v=str x∧Ls=[rd b q m cp (p+1)]):=by
 refine Ze 12 Tryz.func75 rfl rfl rfl (Nat.le_of_ble_eq_true rfl) ?_
 skip
 refine Za (xA (h:=Z5 [(0,_),(1,_),(4,_)] t3 (Za (xM (h:=xM (h:=xM (h:=xV Tryz.underlying67 (h:=xX 0 rfl Za0 rfl (ZO _ _ _ _ _ _ oz oz oz hm _ hbm) (h:=?_)))))))))
 rintro _ _ ⟨r1,rfl,r1a,r1b,rfl⟩
 refine Zp (Za3 rfl rfl Tryz.underlying67 sz9 rfl rfl oz oz ?_)
 obtain ⟨x,hx⟩ :∃x,ls[r1.toNat]? = some x:=⟨_,List.getElem?_eq_getElem oz⟩
 refine Zp (Zl rfl rfl lk9 rfl (ZqZ 1 rfl (v:=str x) (by rw [Nat.mul_one,List.getElem?_map,hx];rfl)) ?_)
 refine xA (h:=ZP [(0,_),(1,_),(4,_)] [_,_] t3 rfl (Zi ?_))
 exact Zag .ret (.inl rfl) [_] [0] rfl t1 ⟨rfl,x,List.mem_of_getElem? hx,rfl,rfl⟩

set_option maxHeartbeats 400000 in
theorem Zcz (b:Nat) (q:Option Addr) (m cp p:Nat) (hp:p≤900000000000) (hm:m≤2000) (B:Kn) (hbm:Zai B q m):Ex1 (pj J) 74 [ptr ⟨b,0,none⟩] B (rd b q m cp p) (fun v s=>∃x:List UInt8,v=str x∧x.length≤9∧s=rd b q m cp (p+2)):=by
 refine Ze 12 Tryz.func74 rfl rfl rfl (Nat.le_of_ble_eq_true rfl) ?_
 refine Za (xA (h:=Z5 [(0,_),(2,_)] t2 (Zk (Za (xM (h:=xX 0 rfl Za0 rfl (ZO _ _ _ _ _ _ oz oz oz hm _ hbm) (h:=?_)))))))
 rintro _ _ ⟨r1,rfl,r1a,r1b,rfl⟩
 refine ZJ (h:=ZP [(0,_),(2,_),(5,_)] [_] t3 rfl (Zc rfl (fun g1=>?_) (fun g1=>?_)))
 try simp only [sQ,ne_eq] at g1
 refine Za (xM (h:=xBs [(0,_),(1,_),(2,_),(3,_),(4,_),(5,_),(6,_)] [_,_,_,_,_,_,_] Tryz.underlying67 sz9 zo9 (h:=fun b1=>Zp (Zab [0,1] rfl rfl rfl rfl ZnI rfl (ZpO _ _ _ _ _ _ [[],[65],[116,111,111,108,111,110,103,49,50],[97,45,98],[101,105,103,104,116,56,56,56],[48],[97,110,121,111,110,101]] oz (by decide) (by decide) hm _ hbm) ?_))))
 rintro _ _ _ hle2 ⟨rfl,x2,hx2,rfl,rfl⟩
 refine xA (h:=ZP [(0,_),(2,_),(5,_)] [_,_] t3 rfl (Zi (Zs ?_)))
 exact ZfW .ret (.inl rfl) [_] 0 rfl t1 ⟨rfl,_,rfl,x2,rfl,(show∀x∈_,x.length≤9 from by decide) _ hx2,rfl⟩
 try simp only [sQ,ne_eq] at g1
 refine Zh (Zf (Za (xM (h:=xBs [(0,_),(1,_),(2,_),(3,_),(4,_),(5,_)] [_,_,_,_,_,_] Tryz.underlying67 sz9 zo9 (h:=fun b1=>Zp (Zab [0,1] rfl rfl rfl rfl ZnI rfl (ZpO _ _ _ _ _ _ [[97,109,121],[98,111,98],[99,121,100],[100,97,110],[98,111,120,49],[120]] oz (by decide) (by decide) hm _ hbm) ?_))))))
 rintro _ _ _ hle3 ⟨rfl,x3,hx3,rfl,rfl⟩
 refine xA (h:=ZP [(0,_),(2,_),(5,_)] [_,_] t3 rfl (Zi ?_))
 exact ZfW .ret (.inl rfl) [_] 0 rfl t1 ⟨rfl,_,rfl,x3,rfl,(show∀x∈_,x.length≤9 from by decide) _ hx3,rfl⟩

abbrev ZvK (s : Cells) (q : Option Addr) (m cp : Nat) (ls : List (List UInt8)) : Prop := Zi5 s q m cp 9 1 (ls.map str)
theorem ZkQ {s:Cells} {q:Option Addr} {m cp:Nat} {ls:List (List UInt8)} {a:List UInt8} (h:Zi5 s q m cp 9 1 (ls.map str ++ [str a])):ZvK s q m cp (ls ++ [a]):=by
 unfold ZvK
 rw [List.map_append]
 exact h
set_option maxHeartbeats 400000 in
theorem ZtL (l:List UInt8) (hl:l.length≤2000000) (x0:UInt8) (B:Kn):Zw3 (pj J) 56 [str l,.int .u8 x0.toNat] B (fun v s=>∃q cp,v = .slice q (cut x0 l).length cp∧ZvK s q (cut x0 l).length cp (cut x0 l)):=by
 refine Ze 35 Tryz.func56 rfl rfl rfl (Nat.le_of_ble_eq_true rfl) ?_
 refine Za (xA (h:=Z5 [(0,_),(1,_),(4,_)] t3 (Za (xBs [] [] Tryz.underlying67 sz9 zo9 (h:=fun b0=>xA (h:=ZP [(0,_),(1,_),(4,_),(5,_)] [_] t4 rfl (Za (xA (h:=Z5 [(0,_),(1,_),(4,_),(5,_),(6,_)] t5 (Zk (Za (xA (h:=?_)))))))))))))
 refine Z5 [(0,_),(1,_),(4,_),(5,_),(6,_),(7,_)] t6 (Zo (ZkN (α:=CutSt) (fun x=>[(0,str l),(1,.int .u8 x0.toNat),(5,.slice x.q x.m x.cp),(6,.int .i64 x.f),(7,.int .i64 x.i)]) (fun x=>[x.s]) (fun x Bx=>Bx=B∧x.f≤x.i∧x.i≤l.length∧x.m≤x.i∧x.m=x.ps.length∧ZvK x.s x.q x.m x.cp x.ps∧cut x0 l=x.ps ++ glue ((l.take x.i).drop x.f) (cut x0 (l.drop x.i))) (fun x=>l.length - x.i) ⟨0,0,0,[],some ⟨b0,0,none⟩,0,Zbm b0 [] 9⟩ t5 rfl (⟨rfl,Nat.le_refl _,Nat.zero_le _,Nat.le_refl _,rfl,Zi5.lit rfl,by simp [Znz (ZnO x0 l)]⟩) (fun x B1 hle1 hI=>?_)))
 obtain ⟨rfl,hf,hi,hn,hm,hv,hc⟩:=hI
 refine Zk (Za (xM (h:=xM (h:=xVs Tryz.underlying9 (h:=Zae (h:=Z5 [(0,_),(1,_),(5,_),(6,_),(7,_),(12,_)] t6 (Zc rfl (fun g1=>?_) (fun g1=>?_))))))))
 try simp only [sQ,ne_eq] at g1
 obtain ⟨c,hx⟩ :∃c,l[x.i]? = some c:=⟨_,List.getElem?_eq_getElem oz⟩
 refine Zh (Zf (Zk (Zo (Za (xM (h:=xM (h:=Zp (Zeg rfl rfl Tryz.underlying9 rfl rfl oz hx ?_))))))))
 refine xM (h:=ZJ (h:=Z5 [(0,_),(1,_),(5,_),(6,_),(7,_),(12,_),(19,_)] t7 (Zc rfl (fun g2=>?_) (fun g2=>?_))))
 try simp only [sQ,ne_eq] at g2
 refine Za (xM (h:=xM (h:=xM (h:=xM (h:=Zp (Zf2 rfl rfl Tryz.underlying9 rfl (a:=x.f) (b:=x.i) ⟨_,_,rfl,rfl⟩ ⟨_,_,rfl,rfl⟩ oz oz ?_))))))
 refine xBs [(0,_)] [_] Tryz.underlying67 sz9 zo9 (h:=fun b1=>Zp (Zf5 0 rfl (hv) rfl rfl Zo1 ZoZ rfl rfl (ZaI.box 1 rfl) rfl rfl oz (fun l1 p1 c1 hv1=>?_)))
 refine xA (h:=ZP [(0,_),(1,_),(5,_),(6,_),(7,_),(12,_),(19,_)] [_,_] t7 rfl (Ztg [0] rfl (Zd (xM (h:=Zp (ZeF rfl rfl rfl rfl (by first | exact ZaN oz oz | rfl) ?_))))))
 refine xA (h:=Zy (Zf (Zd (xM (h:=Zp (ZeF rfl rfl rfl rfl (by first | exact ZaN oz oz | rfl) ?_))))))
 refine xA (h:=?_)
 exact Zn8 ⟨x.i+1,x.i+1,x.m+1,x.ps ++ [(l.take x.i).drop x.f],p1,c1,l1⟩ (so) ⟨rfl,Nat.le_refl _,so,so,by simp [hm],ZkQ hv1,by rw [hc,Zuh hx (ZvX g2),List.append_assoc];simp [Zsf,Znz (ZnO x0 _)]⟩ t5 rfl
 try simp only [sQ,ne_eq] at g2
 refine Zh (Zy (Zf (Zd (xM (h:=Zp (ZeF rfl rfl rfl rfl (by first | exact ZaN oz oz | rfl) ?_))))))
 refine xA (h:=?_)
 exact Zn8 ⟨x.i+1,x.f,x.m,x.ps,x.q,x.cp,x.s⟩ (so) ⟨rfl,so,so,so,hm,hv,by rw [hc,Zst hx (ZvW g2),Zqr,Zpr hx hf]⟩ t5 rfl
 try simp only [sQ,ne_eq] at g1
 obtain hie:x.i=l.length:=by omega
 rw [hie,List.take_length,List.drop_length] at hc
 refine ZU (Zad (Zn7 (ZF (Zf (Za (xM (h:=xM (h:=xM (h:=Zp (Zf2 rfl rfl Tryz.underlying9 rfl (a:=x.f) (b:=l.length) ⟨_,_,rfl,rfl⟩ rfl oz oz ?_))))))))))
 refine xBs [(0,_)] [_] Tryz.underlying67 sz9 zo9 (h:=fun b1=>Zp (Zf5 0 rfl (hv) rfl rfl Zo1 ZoZ rfl rfl (ZaI.box 1 rfl) rfl rfl oz (fun l2 p2 c2 hv2=>?_)))
 refine xA (h:=ZP [(0,_),(1,_),(4,_),(5,_),(6,_),(7,_),(12,_)] [_,_] t7 rfl (Zi ?_))
 have he:cut x0 l=x.ps ++ [l.drop x.f]:=by rw [hc];simp [cut,glue]
 have hlen:(cut x0 l).length=x.m+1:=by rw [he];simp [hm]
 exact Zag .ret (.inl rfl) [_] [0] rfl t1 ⟨rfl,_,rfl,p2,c2,by rw [hlen];rfl,by rw [hlen,he];rw [List.take_length] at hv2;exact ZkQ hv2⟩

set_option maxHeartbeats 400000 in
theorem Zk4 (l:List UInt8) (hl:l.length≤2000000) (B:Kn):Za1 (pj J) 29 [str l] B (.bool (Zcj l)):=by
 refine Ze 27 Tryz.func29 rfl rfl rfl (Nat.le_of_ble_eq_true rfl) ?_
 refine Za (xA (h:=Z5 [(0,_),(2,_)] t2 (Za (xM (h:=Zp (Zpa rfl rfl ZxT rfl (ZtL _ hl 46 _) ?_))))))
 rintro _ s ⟨q,cp,rfl,hv⟩
 refine xA (h:=ZP [(0,_),(2,_),(3,_)] [_] t3 rfl (Zk (Za (xA (h:=Z5 [(0,_),(2,_),(3,_),(4,_)] t4 (Zo (ZkN (α:=Nat) (fun k=>[(0,str l),(3,.slice q (cut 46 l).length cp),(4,.int .i64 k)]) (fun k=>[s]) (fun k Bx=>Bx=B∧k≤(cut 46 l).length∧((cut 46 l).take k).all Zaq=true) (fun k=>(cut 46 l).length - k) 0 t3 rfl (⟨rfl,Nat.zero_le _,by simp⟩) (fun k B1 hle1 hI=>?_))))))))
 obtain ⟨rfl,hk,ha⟩:=hI
 have hcc:=ZlN 46 l
 refine Zk (Za (xM (h:=xM (h:=xV Tryz.underlying67 (h:=Zae (h:=Z5 [(0,_),(3,_),(4,_),(10,_)] t4 (Zc rfl (fun g1=>?_) (fun g1=>?_))))))))
 try simp only [sQ,ne_eq] at g1
 obtain ⟨y,hy⟩ :∃y,(cut 46 l)[k]? = some y:=⟨_,List.getElem?_eq_getElem oz⟩
 have hyl:=ZmV 46 l y (List.mem_of_getElem? hy)
 obtain ⟨a,rfl,hsp,hat⟩:=hv.at (B:=B1) (L:=[s]) (i:=k) (v:=str y) 0 rfl (by rw [List.getElem?_map,hy];rfl)
 refine Zh (Zf (Zk (Zo (Za (xM (h:=xM (h:=Zp (Za3 rfl rfl Tryz.underlying67 sz9 rfl rfl oz oz ?_))))))))
 refine Zp (Zl rfl rfl lk9 rfl (Zvo hat) (xR Zsl rfl (ZbX _ oz _) (h:=?_)))
 refine xN (h:=Z5 [(0,_),(3,_),(4,_),(10,_),(18,_)] t5 (Zc rfl (fun g2=>?_) (fun g2=>?_)))
 try simp only [sQ,ne_eq] at g2
 refine Za (xA (h:=Z5 [(0,_),(2,_),(3,_),(4,_),(10,_),(18,_)] t6 (Zi (ZM (Zs (Ztp (ZM (Zs ?_))))))))
 exact Z2 .ret (.inl rfl) [_] t1 ⟨Zn (by simp [Zcj,ZlU hy g2]),rfl,rfl⟩
 try simp only [sQ,ne_eq] at g2
 refine Zh (Zy (Zf (Zd (xM (h:=Zp (ZeF rfl rfl rfl rfl (by first | exact ZaN oz oz | rfl) ?_))))))
 refine xA (h:=?_)
 exact Zn8 (k+1) oz ⟨rfl,oz,Zi0 hy g2 ha⟩ t3 rfl
 try simp only [sQ,ne_eq] at g1
 obtain hke:k=(cut 46 l).length:=by omega
 rw [hke,List.take_length] at ha
 refine ZU (Zad (Zn7 (ZF (Zf (Za (xM (h:=xV Tryz.underlying67 (h:=ZcE (h:=xM (h:=Zt (d:=22) rfl (fun g3=>?_) (fun g3=>?_)))))))))))
 try simp only [sQ,ne_eq] at g3
 refine xM (h:=xVs Tryz.underlying9 (h:=ZcE (h:=xT (h:=xA (h:=Z5 [(0,_),(2,_),(3,_),(4,_),(10,_)] t5 (Zi ?_))))))
 exact Z2 .ret (.inl rfl) [_] t1 ⟨Zn (by rw [Bool.eq_iff_iff];simp [Zcj,ha];omega),rfl,rfl⟩
 try simp only [sQ,ne_eq] at g3
 refine xP (h:=xP (h:=xP (h:=xF (h:=xA (h:=Z5 [(0,_),(2,_),(3,_),(4,_),(10,_)] t5 (Zi ?_))))))
 exact Z2 .ret (.inl rfl) [_] t1 ⟨Zn (by rw [Bool.eq_iff_iff];simp [Zcj,ha];omega),rfl,rfl⟩

set_option maxHeartbeats 400000 in
theorem Zcc (q:Option Addr) (cp:Nat) (us:List DUser) (u:Str) (B:Kn) (hu:SlK B q cp 3 Zg us):Za1 (pj J) 25 [.slice q us.length cp,str u] B (.int .i64 (ZcC us u)):=by
 refine Ze 20 Tryz.func25 rfl rfl rfl (Nat.le_of_ble_eq_true rfl) ?_
 have hun:=hu.len
 refine Za (xA (h:=Zk (Za (xA (h:=Zo (ZR (α:=Nat) [0,1] (fun k=>[(5,.int .i64 k)]) [] (fun k=>[]) (fun k Bx=>Bx=B∧k≤us.length∧∀x,x∈us.take k→x.name≠u) (fun k=>us.length - k) 0 t1 rfl (⟨rfl,Nat.zero_le _,by simp⟩) (fun k B1 hle1 hI=>?_)))))))
 obtain ⟨rfl,hk,ha⟩:=hI
 refine ZP [(0,_),(1,_),(5,_)] [] t3 rfl (Zk (Za (xM (h:=xM (h:=xV Tryz.underlying23 (h:=Zae (h:=Zc rfl (fun g1=>?_) (fun g1=>?_))))))))
 try simp only [sQ,ne_eq] at g1
 refine Zh (Zf (Zk (Zo (Za (xM (h:=xM (h:=?_)))))))
 obtain ⟨x,hx⟩:=Zan (xs:=us) (i:=k) om
 obtain ⟨bb3,oo3,rfl⟩:=hu.base hx
 obtain ⟨_,⟨rfl,hb4,hb4b⟩,hc4⟩:=hu.elem hx
 refine xIx Tryz.underlying23 ZeJ (h:=xW Zc0 (h:=y1 lk9 hc4 0 (h:=xM (h:=ZcF (h:=Zc rfl (fun g2=>?_) (fun g2=>?_))))))
 try simp only [sQ,ne_eq] at g2
 refine Za (xM (h:=xA (h:=Zi (ZM (Zs (Zaa (ZM (Zs ?_))))))))
 exact Z2 .ret (.inl rfl) [_] t1 ⟨ZaW (Zr4 hx g2 ha).symm,rfl,rfl⟩
 try simp only [sQ,ne_eq] at g2
 refine Zh (Zy (Zf (Zd (xM (h:=xD (h:=xA (h:=?_)))))))
 exact ZA (k+1) [] so2 ⟨rfl,oz,Zbo hx ha g2⟩ t3 rfl
 try simp only [sQ,ne_eq] at g1
 refine ZU (Zad (ZV (ZF (Zf (Za (xA (h:=Zi ?_)))))))
 exact Z2 .ret (.inl rfl) [_] t1 ⟨ZaW (Zqe (ZbA oz ha)).symm,rfl,rfl⟩

set_option maxHeartbeats 400000 in
theorem Znw (q:Option Addr) (cp:Nat) (xs:List Str) (u:Str) (B:Kn) (ha:SlK B q cp 1 Zba xs):Za1 (pj J) 131 [.slice q xs.length cp,str u] B (.bool (decide (u∈xs))):=by
 refine Ze 18 Tryz.func131 rfl rfl rfl (Nat.le_of_ble_eq_true rfl) ?_
 have han:=ha.len
 refine Za (xA (h:=Zk (Za (xA (h:=Zo (ZR (α:=Nat) [0,1] (fun k=>[(5,.int .i64 k)]) [] (fun k=>[]) (fun k Bx=>Bx=B∧k≤xs.length∧∀x,x∈xs.take k→x≠u) (fun k=>xs.length - k) 0 t1 rfl (⟨rfl,Nat.zero_le _,by simp⟩) (fun k B1 hle1 hI=>?_)))))))
 obtain ⟨rfl,hk,hn⟩:=hI
 refine ZP [(0,_),(1,_),(5,_)] [] t3 rfl (Zk (Za (xM (h:=xM (h:=xV Tryz.underlying67 (h:=Zae (h:=Zc rfl (fun g1=>?_) (fun g1=>?_))))))))
 try simp only [sQ,ne_eq] at g1
 refine Zh (Zf (Zk (Zo (Za (xM (h:=xM (h:=?_)))))))
 obtain ⟨x,hx⟩:=Zan (xs:=xs) (i:=k) om
 obtain ⟨bb3,oo3,rfl⟩:=ha.base hx
 obtain ⟨_,⟨rfl,hb4⟩,hc4⟩:=ha.elem hx
 refine xIx Tryz.underlying67 sz9 (h:=y1 lk9 hc4 0 (h:=xM (h:=ZcF (h:=Zc rfl (fun g2=>?_) (fun g2=>?_)))))
 try simp only [sQ,ne_eq] at g2
 refine Za (xA (h:=Zi (ZM (Zs (Zaa (ZM (Zs ?_)))))))
 exact Z2 .ret (.inl rfl) [_] t1 ⟨Zn (Zxr hx g2),rfl,rfl⟩
 try simp only [sQ,ne_eq] at g2
 refine Zh (Zy (Zf (Zd (xM (h:=xD (h:=xA (h:=?_)))))))
 exact ZA (k+1) [] so2 ⟨rfl,oz,Zbo hx hn g2⟩ t3 rfl
 try simp only [sQ,ne_eq] at g1
 refine ZU (Zad (ZV (ZF (Zf (Za (xA (h:=Zi ?_)))))))
 exact Z2 .ret (.inl rfl) [_] t1 ⟨Zn (Zxs (ZbA oz hn)),rfl,rfl⟩

set_option maxHeartbeats 400000 in
theorem Zox (q:Option Addr) (cp:Nat) (xs:List Str) (B:Kn) (ha:SlK B q cp 1 Zba xs):Za1 (pj J) 90 [.slice q xs.length cp] B (.bool (ZcK xs)):=by
 refine Ze 29 Tryz.func90 rfl rfl rfl (Nat.le_of_ble_eq_true rfl) ?_
 have han:=ha.len
 refine Za (xA (h:=Zk (Za (xA (h:=Zo (ZR (α:=Nat) [0] (fun k=>[(3,.int .i64 k)]) [] (fun k=>[]) (fun k Bx=>Bx=B∧k≤xs.length∧(xs.take k).all Zaq=true∧(xs.take k).Nodup) (fun k=>xs.length - k) 0 t1 rfl (⟨rfl,Nat.zero_le _,by simp,by simp⟩) (fun k B1 hle1 hI=>?_)))))))
 obtain ⟨rfl,hk,hv,hn⟩:=hI
 refine ZP [(0,_),(3,_)] [] t2 rfl (Zk (Za (xM (h:=xM (h:=xV Tryz.underlying67 (h:=Zae (h:=Zc rfl (fun g1=>?_) (fun g1=>?_))))))))
 try simp only [sQ,ne_eq] at g1
 refine Zh (Zf (Zk (Zo (Zk (Z7 (same _ _) mo kr ⟨rfl,rfl⟩ (fun _ _=>?_))))))
 refine aM 0 rfl (h:=aM 1 rfl (h:=?_))
 obtain ⟨x,hx⟩:=Zan (xs:=xs) (i:=k) om
 obtain ⟨bb3,oo3,rfl⟩:=ha.base hx
 obtain ⟨_,⟨rfl,hb4⟩,hc4⟩:=ha.elem hx
 refine aIx 2 rfl Tryz.underlying67 sz9 (h:=aT 3 rfl (Zak fun D=>Zl rfl rfl lk9 rfl (hc4 _ 0 _ rfl) r4) (h:=aT 4 rfl (Zak fun D=>ZaC rfl rfl Zsl rfl (ZbX _ om2 _) r4) (h:=?_)))
 refine aN 5 rfl (h:=aM 6 rfl (h:=Zal (d:=16) rfl (fun g2=>?_) (fun g2=>?_)))
 try simp only [sQ,ne_eq] at g2
 refine aZ 7 rfl (h:=aZ 8 rfl (h:=aZ 9 rfl (h:=aZ 10 rfl (h:=aZ 11 rfl (h:=aZ 12 rfl (h:=aZ 13 rfl (h:=aZ 14 rfl (h:=aPT 15 rfl (h:=ZC kr kr ?_)))))))))
 refine Zf (Zc (t:=true) rfl (fun _=>Za (xA (h:=Zi (ZM (Zs (Zaa (ZM (Zs ?_)))))))) (fun h=>Bool.noConfusion h))
 exact Z2 .ret (.inl rfl) [_] t1 ⟨Zn (Zhb hx g2),rfl,rfl⟩
 try simp only [sQ,ne_eq] at g2
 refine aM 7 rfl (h:=aM 8 rfl (h:=?_))
 obtain ⟨hq6,q6,cp6,hv6,hr6⟩:=ha.cutE 0 k om om
 have hr6n:=hr6.len
 refine aT 9 rfl (Zak fun D=>Zg3 (a:=0) (b:=k) hv6 om hq6 rfl rfl Tryz.underlying67 sz9 rfl rfl ⟨_,_,rfl,by first | omega | (simp;done) | (simp;omega)⟩ r4) (h:=?_)
 refine aM 10 rfl (h:=aM 11 rfl (h:=aIx 12 rfl Tryz.underlying67 sz9 (h:=aT 13 rfl (Zak fun D=>Zl rfl rfl lk9 rfl (hc4 _ 0 _ rfl) r4) (h:=aT 14 rfl (Zak fun D=>ZaC rfl rfl Zvi rfl (Znw _ _ _ _ _ hr6) r4) (h:=aPF 15 rfl (h:=ZC kr kr ?_))))))
 refine Zf (Zc rfl (fun g3=>?_) (fun g3=>?_))
 try simp only [sQ,ne_eq] at g3
 refine Za (xA (h:=Zi (ZM (Zs (Zaa (ZM (Zs ?_)))))))
 exact Z2 .ret (.inl rfl) [_] t1 ⟨Zn (Zha hx (by simpa using g3)),rfl,rfl⟩
 try simp only [sQ,ne_eq] at g3
 refine Zh (Zy (Zf (Zd (xM (h:=xD (h:=xA (h:=?_)))))))
 exact ZA (k+1) [] so2 ⟨rfl,oz,Zi0 hx g2 hv,ZpU hx hn (by simpa using g3)⟩ t2 rfl
 try simp only [sQ,ne_eq] at g1
 refine ZU (Zad (ZV (ZF (Zf (Za (xM (h:=xV Tryz.underlying67 (h:=ZcE (h:=xA (h:=Zi ?_))))))))))
 exact Z2 .ret (.inl rfl) [_] t1 ⟨Zn (Zih oz hv hn),rfl,rfl⟩

set_option maxHeartbeats 400000 in
theorem ZeK (q:Option Addr) (cp:Nat) (x:DLetter) (B:Kn) (ha:SlK B q cp 1 Zba x.to_) (h1:x.fr.length≤2000000) (h2:x.text.length≤2000000):Za1 (pj J) 59 [.agg #[str x.fr,.slice q x.to_.length cp,str x.text]] B (.bool (ZaO x)):=by
 refine Ze 23 Tryz.func59 rfl rfl rfl (Nat.le_of_ble_eq_true rfl) ?_
 refine Za (xBx [_,_,_] (h:=fun b1=>xA (h:=Zw [_] rfl (Za (xW ZlG (h:=x1 lk9 0 (h:=xR Zsl rfl (ZbX _ om2 _) (h:=?_))))))))
 refine xM (h:=Zt (d:=6) rfl (fun g1=>?_) (fun g1=>?_))
 try simp only [sQ,ne_eq] at g1
 refine xW ZlF (h:=x1 ZhA 0 (h:=xR ZxC rfl (Zox _ _ _ _ ha) (h:=xT (h:=xM (h:=Zt (d:=11) rfl (fun g2=>?_) (fun g2=>?_))))))
 try simp only [sQ,ne_eq] at g2
 refine xW ZlF (h:=x1 ZhA 0 (h:=xV Tryz.underlying67 (h:=Zbx (h:=xT (h:=xM (h:=Zt (d:=17) rfl (fun g3=>?_) (fun g3=>?_)))))))
 try simp only [sQ,ne_eq] at g3
 refine xW Zqu (h:=x1 lk9 0 (h:=xVs Tryz.underlying9 (h:=ZcE (h:=xT (h:=xA (h:=Zi ?_))))))
 exact Z2 .ret (.inl rfl) [_] t1 ⟨Zn (by rw [Bool.eq_iff_iff];simp [ZaO,g1,g2,g3];try omega),rfl,rfl⟩
 try simp only [sQ,ne_eq] at g3
 refine xP (h:=xP (h:=xP (h:=xP (h:=xF (h:=xA (h:=Zi ?_))))))
 exact Z2 .ret (.inl rfl) [_] t1 ⟨Zn (by rw [Bool.eq_iff_iff];simp [ZaO,g1,g2,g3];try omega),rfl,rfl⟩
 try simp only [sQ,ne_eq] at g2
 refine xP (h:=xP (h:=xP (h:=xP (h:=xF (h:=xM (h:=xP (h:=xP (h:=xP (h:=xP (h:=xF (h:=xA (h:=Zi ?_))))))))))))
 exact Z2 .ret (.inl rfl) [_] t1 ⟨Zn (by rw [Bool.eq_iff_iff];simp [ZaO,g1,g2];try omega),rfl,rfl⟩
 try simp only [sQ,ne_eq] at g1
 refine xP (h:=xP (h:=xP (h:=xF (h:=xM (h:=xP (h:=xP (h:=xP (h:=xP (h:=xF (h:=xM (h:=xP (h:=xP (h:=?_)))))))))))))
 refine xP (h:=xP (h:=xF (h:=xA (h:=Zi ?_))))
 exact Z2 .ret (.inl rfl) [_] t1 ⟨Zn (by rw [Bool.eq_iff_iff];simp [ZaO,g1];try omega),rfl,rfl⟩

set_option maxHeartbeats 400000 in
theorem ZtR (q:Option Addr) (cp:Nat) (xs:List Str) (v:Str) (B:Kn) (ha:SlK B q cp 1 Zba xs):Za1 (pj J) 167 [.slice q xs.length cp,str v] B (.int .i64 (Zwe xs v)):=by
 refine Ze 19 Tryz.func167 rfl rfl rfl (Nat.le_of_ble_eq_true rfl) ?_
 have han:=ha.len
 refine Za (xA (h:=Zk (Za (xM (h:=xV Tryz.underlying67 (h:=xM (h:=Zo (ZR (α:=Nat) [0,1,7] (fun k=>[(8,.int .i64 k)]) [] (fun k=>[]) (fun k Bx=>Bx=B∧k≤xs.length∧∀x,x∈xs.take k→decide (x=v)=false) (fun k=>xs.length - k) 0 t1 rfl (⟨rfl,Nat.zero_le _,by simp⟩) (fun k B1 hle1 hI=>?_)))))))))
 obtain ⟨rfl,hk,hn⟩:=hI
 refine ZP [(0,_),(1,_),(7,_),(8,_)] [] t4 rfl (Za (Zae (h:=Zk (Zc rfl (fun g1=>?_) (fun g1=>?_)))))
 try simp only [sQ,ne_eq] at g1
 refine Zh (Zf (Zk (Zo (Za (xM (h:=xA (h:=Za (xM (h:=xM (h:=xM (h:=?_)))))))))))
 obtain ⟨x,hx⟩:=Zan (xs:=xs) (i:=k) om
 obtain ⟨bb3,oo3,rfl⟩:=ha.base hx
 obtain ⟨_,⟨rfl,hb4⟩,hc4⟩:=ha.elem hx
 refine xIx Tryz.underlying67 sz9 (h:=y1 lk9 hc4 0 (h:=ZcF (h:=Zc rfl (fun g2=>?_) (fun g2=>?_))))
 try simp only [sQ,ne_eq] at g2
 refine Za (xM (h:=xA (h:=Zi (ZM (Zs (Zaa (ZM (Zs ?_))))))))
 exact Z2 .ret (.inl rfl) [_] t1 ⟨ZaW (ZhE hx (by simp [g2]) hn).symm,rfl,rfl⟩
 try simp only [sQ,ne_eq] at g2
 refine Zh (Zy (Zf (Zd (xD (h:=xM (h:=?_))))))
 exact ZA (k+1) [] so2 ⟨rfl,oz,Zbo hx hn (by simp [Ne.symm g2])⟩ t4 rfl
 try simp only [sQ,ne_eq] at g1
 refine ZU (Zad (ZV (ZF (Zf (Za (xA (h:=Zi ?_)))))))
 exact Z2 .ret (.inl rfl) [_] t1 ⟨ZaW (ZeY (ZbA oz hn)).symm,rfl,rfl⟩

set_option maxHeartbeats 400000 in
theorem ZoP (q:Option Addr) (cp:Nat) (xs:List Str) (v:Str) (B:Kn) (ha:SlK B q cp 1 Zba xs):Za1 (pj J) 143 [.slice q xs.length cp,str v] B (.bool (decide (v∈xs))):=by
 refine Ze 9 Tryz.func143 rfl rfl rfl (Nat.le_of_ble_eq_true rfl) ?_
 refine Za (xA (h:=Za (xM (h:=xM (h:=xR Zwy rfl (ZtR _ _ _ _ _ ha) (h:=ZdB (h:=xA (h:=Zi ?_))))))))
 exact Z2 .ret (.inl rfl) [_] t1 ⟨Zn (by rw [Bool.eq_iff_iff];simp [Zr5]),rfl,rfl⟩

set_option maxHeartbeats 400000 in
theorem Zmn (q:Option Addr) (cp:Nat) (xs:List Str) (B:Kn) (ha:SlK B q cp 1 Zba xs):Za1 (pj J) 104 [.slice q xs.length cp] B (.bool (decide (1≤xs.length) && ZcK xs)):=by
 refine Ze 31 Tryz.func104 rfl rfl rfl (Nat.le_of_ble_eq_true rfl) ?_
 have han:=ha.len
 refine Za (xA (h:=Zk (Za (xM (h:=xV Tryz.underlying67 (h:=Zae (h:=xM (h:=Zt (d:=8) rfl (fun g1=>?_) (fun g1=>?_)))))))))
 try simp only [sQ,ne_eq] at g1
 refine xP (h:=xP (h:=xP (h:=xT (h:=Zc (t:=true) rfl (fun _=>Za (xA (h:=Zi (Zs ?_)))) (fun h=>Bool.noConfusion h)))))
 exact Z2 .ret (.inl rfl) [_] t1 ⟨Zn (by simp;omega),rfl,rfl⟩
 try simp only [sQ,ne_eq] at g1
 refine xM (h:=xV Tryz.underlying67 (h:=Zbx (h:=xF (h:=Zc rfl (fun g2=>?_) (fun g2=>?_)))))
 try simp only [sQ,ne_eq] at g2
 refine Za (xA (h:=Zi (Zs ?_)))
 exact Z2 .ret (.inl rfl) [_] t1 ⟨Zn (by simp [ZcK];omega),rfl,rfl⟩
 try simp only [sQ,ne_eq] at g2
 refine Zh (Zf (Zk (Za (xM (h:=xV Tryz.underlying67 (h:=xM (h:=Zo (ZR (α:=Nat) [0,12,13,14] (fun k=>[(15,.int .i64 k)]) [] (fun k=>[]) (fun k Bx=>Bx=B∧k≤xs.length∧(xs.take k).all Zaq=true∧(xs.take k).Nodup) (fun k=>xs.length - k) 0 t1 rfl (⟨rfl,Nat.zero_le _,by simp,by simp⟩) (fun k B1 hle1 hI=>?_)))))))))
 obtain ⟨rfl,hk,hv,hn⟩:=hI
 refine ZP [(0,_),(12,_),(13,_),(14,_),(15,_)] [] t5 rfl (Za (Zae (h:=Zk (Zc rfl (fun g3=>?_) (fun g3=>?_)))))
 try simp only [sQ,ne_eq] at g3
 refine Zh (Zf (Zk (Zo (Za (xM (h:=?_))))))
 obtain ⟨x,hx⟩:=Zan (xs:=xs) (i:=k) om
 obtain ⟨bb3,oo3,rfl⟩:=ha.base hx
 obtain ⟨_,⟨rfl,hb4⟩,hc4⟩:=ha.elem hx
 refine xIx Tryz.underlying67 sz9 (h:=y1 lk9 hc4 0 (h:=xA (h:=xA (h:=Za (xM (h:=xR Zs4 rfl (Zcp _ om2 _) (h:=?_)))))))
 refine xN (h:=xM (h:=Zt (d:=23) rfl (fun g4=>?_) (fun g4=>?_)))
 try simp only [sQ,ne_eq] at g4
 refine xP (h:=xP (h:=xP (h:=xP (h:=xP (h:=xT (h:=Zc (t:=true) rfl (fun _=>Za (xA (h:=Zi (ZM (Zs (Zaa (ZM (Zs ?_)))))))) (fun h=>Bool.noConfusion h)))))))
 exact Z2 .ret (.inl rfl) [_] t1 ⟨Zn (by rw [← Zhb hx g4,Bool.and_false]),rfl,rfl⟩
 try simp only [sQ,ne_eq] at g4
 refine xM (h:=xM (h:=?_))
 obtain ⟨hq6,q6,cp6,hv6,hr6⟩:=ha.cutE 0 k om om
 have hr6n:=hr6.len
 refine Zp (Zg3 (a:=0) (b:=k) hv6 om hq6 rfl rfl Tryz.underlying67 sz9 rfl rfl ⟨_,_,rfl,by first | omega | (simp;done) | (simp;omega)⟩ ?_)
 refine xM (h:=xR ZwN rfl (ZoP _ _ _ _ _ hr6) (h:=xF (h:=Zc rfl (fun g5=>?_) (fun g5=>?_))))
 try simp only [sQ,ne_eq] at g5
 refine Za (xA (h:=Zi (ZM (Zs (Zaa (ZM (Zs ?_)))))))
 exact Z2 .ret (.inl rfl) [_] t1 ⟨Zn (by rw [← Zha hx (by simpa using g5),Bool.and_false]),rfl,rfl⟩
 try simp only [sQ,ne_eq] at g5
 refine Zh (Zy (Zf (Zd (xD (h:=xM (h:=?_))))))
 exact ZA (k+1) [] so2 ⟨rfl,oz,Zi0 hx g4 hv,ZpU hx hn (by simpa using g5)⟩ t5 rfl
 try simp only [sQ,ne_eq] at g3
 refine ZU (Zad (ZV (ZF (Zf (Za (xA (h:=Zi ?_)))))))
 exact Z2 .ret (.inl rfl) [_] t1 ⟨Zn (by rw [← Zih oz hv hn];simp;omega),rfl,rfl⟩

set_option maxHeartbeats 400000 in
theorem Zly (q:Option Addr) (cp:Nat) (x:DLetter) (B:Kn) (ha:SlK B q cp 1 Zba x.to_) (h1:x.fr.length≤2000000) (h2:x.text.length≤2000000):Za1 (pj J) 78 [.agg #[str x.fr,.slice q x.to_.length cp,str x.text]] B (.bool (ZaO x)):=by
 refine Ze 17 Tryz.func78 rfl rfl rfl (Nat.le_of_ble_eq_true rfl) ?_
 refine Za (xBx [_,_,_] (h:=fun b1=>xA (h:=Zw [_] rfl (Za (xW ZlG (h:=x1 lk9 0 (h:=xR Zs4 rfl (Zcp _ om2 _) (h:=?_))))))))
 refine xM (h:=Zt (d:=6) rfl (fun g1=>?_) (fun g1=>?_))
 try simp only [sQ,ne_eq] at g1
 refine xW ZlF (h:=x1 ZhA 0 (h:=xR ZwY rfl (Zmn _ _ _ _ ha) (h:=xT (h:=xM (h:=Zt (d:=11) rfl (fun g2=>?_) (fun g2=>?_))))))
 try simp only [sQ,ne_eq] at g2
 refine xW Zqu (h:=x1 lk9 0 (h:=xVs Tryz.underlying9 (h:=ZcE (h:=xT (h:=xA (h:=Zi ?_))))))
 exact Z2 .ret (.inl rfl) [_] t1 ⟨Zn (by rw [ZeV];simp [g1,g2]),rfl,rfl⟩
 try simp only [sQ,ne_eq] at g2
 refine xP (h:=xP (h:=xP (h:=xP (h:=xF (h:=xA (h:=Zi ?_))))))
 exact Z2 .ret (.inl rfl) [_] t1 ⟨Zn (by rw [ZeV];simp [g1,g2]),rfl,rfl⟩
 try simp only [sQ,ne_eq] at g1
 refine xP (h:=xP (h:=xP (h:=xF (h:=xM (h:=xP (h:=xP (h:=xP (h:=xP (h:=xF (h:=xA (h:=Zi ?_)))))))))))
 exact Z2 .ret (.inl rfl) [_] t1 ⟨Zn (by rw [ZeV];simp [g1]),rfl,rfl⟩

set_option maxHeartbeats 400000 in
theorem Zmz (b:Nat) (q:Option Addr) (m cp p:Nat) (hp:p≤900000000000) (hm:m≤2000) (B:Kn) (hbm:Zai B q m):Ex1 (pj J) 93 [ptr ⟨b,0,none⟩] B (rd b q m cp p) (fun v s=>∃x:Str,v=str x∧x.length≤40∧s=rd b q m cp (p+2)):=by
 refine Ze 12 Tryz.func93 rfl rfl rfl (Nat.le_of_ble_eq_true rfl) ?_
 refine Za (xA (h:=Zk (Za (xM (h:=xX 0 rfl Za0 rfl (ZO _ _ _ _ _ _ oz oz oz hm _ hbm) (h:=?_))))))
 rintro _ _ ⟨r1,rfl,r1a,r1b,rfl⟩
 refine ZJ (h:=Zw [_] rfl (Zc rfl (fun g1=>?_) (fun g1=>?_)))
 try simp only [sQ,ne_eq] at g1
 refine Za (xM (h:=xBs [(0,_),(1,_),(2,_),(3,_),(4,_),(5,_),(6,_),(7,_),(8,_)] [_,_,_,_,_,_,_,_,_] Tryz.underlying67 sz9 zo9 (h:=fun b2=>Zp (Zab [0,1] rfl rfl rfl rfl ZnI rfl (ZpO _ _ _ _ _ _ ([[],[46],[97,46,46,98],[97,46,98,46,99,46,100],[97,46,98,46,99],[97,98,99,100,101,102,103,104,46,97,98,99,100,101,102,103,104,46,97,98,99],[97,98,99,100,101,102,103,104,46,97,98,99,100,101,102,103,104,46,97,98],[104,111,115,116,46],[72,111,115,116,46,111,114,103]]:List Str) oz (by decide) (by decide) hm _ hbm) ?_))))
 rintro _ _ _ hle3 ⟨rfl,x3,hx3,rfl,rfl⟩
 replace hx3:=(show∀y∈( ([[],[46],[97,46,46,98],[97,46,98,46,99,46,100],[97,46,98,46,99],[97,98,99,100,101,102,103,104,46,97,98,99,100,101,102,103,104,46,97,98,99],[97,98,99,100,101,102,103,104,46,97,98,99,100,101,102,103,104,46,97,98],[104,111,115,116,46],[72,111,115,116,46,111,114,103]]:List Str):List Str),y.length≤40 from by decide) _ hx3
 refine xA (h:=Zw [_,_] rfl (Zi (Zs ?_)))
 exact ZfW .ret (.inl rfl) [_] 0 rfl t1 ⟨rfl,_,rfl,_,rfl,hx3,rfl⟩
 try simp only [sQ,ne_eq] at g1
 refine Zh (Zf (Za (xM (h:=xBs [(0,_),(1,_),(2,_),(3,_)] [_,_,_,_] Tryz.underlying67 sz9 zo9 (h:=fun b4=>Zp (Zab [0,1] rfl rfl rfl rfl ZnI rfl (ZpO _ _ _ _ _ _ ([[104,111,115,116,46,111,114,103],[104,111,115,116],[97,46,98,46,99],[111,116,104,101,114,46,110,101,116]]:List Str) oz (by decide) (by decide) hm _ hbm) ?_))))))
 rintro _ _ _ hle5 ⟨rfl,x5,hx5,rfl,rfl⟩
 replace hx5:=(show∀y∈( ([[104,111,115,116,46,111,114,103],[104,111,115,116],[97,46,98,46,99],[111,116,104,101,114,46,110,101,116]]:List Str):List Str),y.length≤40 from by decide) _ hx5
 refine xA (h:=Zw [_,_] rfl (Zi ?_))
 exact ZfW .ret (.inl rfl) [_] 0 rfl t1 ⟨rfl,_,rfl,_,rfl,hx5,rfl⟩

set_option maxHeartbeats 400000 in
theorem ZfF (aq:Option Addr) (cq:Nat) (q:DQueue) (B:Kn) (hq:SlK B aq cq 4 Zj q.items):Za1 (pj J) 31 [.agg #[.int .i64 q.next,.slice aq q.items.length cq]] B (.bool (Zah q)):=by
 refine Ze 48 Tryz.func31 rfl rfl rfl (Nat.le_of_ble_eq_true rfl) ?_
 have hqn:=hq.len
 refine Za (xBx [_,_] (h:=fun b1=>xA (h:=Zw [_] rfl (Za (xA (h:=Zk (Za (xA (h:=Zo (ZR (α:=Nat × Int) [0,1] (fun p=>[(3,.int .i64 p.2),(4,.int .i64 p.1)]) [] (fun p=>[]) (fun p Bx=>Bx=B∧p.1≤q.items.length∧ZcV 0 q.items=ZcV p.2 (q.items.drop p.1)∧0≤p.2∧p.2≤99) (fun p=>q.items.length - p.1) (0,0) t2 rfl (⟨rfl,Nat.zero_le _,rfl,by decide,by decide⟩) (fun p B2 hle2 hI=>?_)))))))))))
 obtain ⟨rfl,hk,hs,hl0,hl1⟩:=hI
 refine ZP [(0,_),(1,_),(3,_),(4,_)] [_] t4 rfl (Zk (Za (xM (h:=xW ZaM (h:=x1 ZfP 0 (h:=xV Tryz.underlying25 (h:=Zae (h:=Zc rfl (fun g1=>?_) (fun g1=>?_)))))))))
 try simp only [sQ,ne_eq] at g1
 refine Zh (Zf (Zk (Zo (Za (xW ZaM (h:=x1 ZfP 0 (h:=xM (h:=?_))))))))
 obtain ⟨x,hx⟩:=Zan (xs:=q.items) (i:=p.1) om
 obtain ⟨bb4,oo4,rfl⟩:=hq.base hx
 obtain ⟨_,⟨qi5,ci5,rfl,hi5,hb5,hb5b⟩,hc5⟩:=hq.elem hx
 have hi5n:=hi5.len
 refine xIx Tryz.underlying25 ZeA (h:=?_)
 replace hs:=ZpE hs hx
 refine yL [_,_,_,_] Zl3 hc5 0 (h:=xAl [_,_,_,_] Zi3 (h:=fun b6=>xS [_,_,_,_] 1 [_,_,_,_] ZeA (h:=Zw [_,_] rfl (Zk (Za (xW Ze2 (h:=x1 lk3 1 (h:=xM (h:=xD (h:=xR ZjP rfl (Zco _ _ _ _) (h:=xN (h:=xM (h:=?_)))))))))))))
 refine Zt (d:=24) rfl (fun g2=>?_) (fun g2=>?_)
 try simp only [sQ,ne_eq] at g2
 refine xP (h:=xP (h:=xP (h:=xP (h:=xP (h:=xP (h:=xP (h:=xP (h:=xP (h:=xT (h:=Zc (t:=true) rfl (fun _=>Za (xA (h:=?_))) (fun h=>Bool.noConfusion h)))))))))))
 refine Zi (Zs (ZM (Zs (Zaa (ZM (Zs ?_))))))
 exact Z2 .ret (.inl rfl) [_] t1 ⟨Zn (Znn (by rw [hs,if_neg];intro h;simp [h.1] at g2)),rfl,rfl⟩
 try simp only [sQ,ne_eq] at g2
 simp only [Bool.and_eq_true,decide_eq_true_eq] at g2
 refine xW ZnB (h:=x1 lk9 1 (h:=xW ZbM (h:=x1 ZhA 1 (h:=xW Zqv (h:=x1 lk9 1 (h:=xB [(0,_),(1,_),(2,_)] [_,_,_] [_,_,_] ZvC Zuq (h:=xR Zwi rfl (ZeK _ _ ⟨x.fr,x.left,x.text⟩ _ hi5 oa oa) (h:=?_))))))))
 refine xN (h:=xF (h:=Zc rfl (fun g3=>?_) (fun g3=>?_)))
 try simp only [sQ,ne_eq] at g3
 refine Za (xA (h:=Zi (Zs (ZM (Zs (Zaa (ZM (Zs ?_))))))))
 exact Z2 .ret (.inl rfl) [_] t1 ⟨Zn (Znn (by rw [hs,if_neg];intro h;rw [ZcB,g3] at h;cases h.2)),rfl,rfl⟩
 try simp only [sQ,ne_eq] at g3
 refine Zh (Zf (Zd (xW Ze2 (h:=x1 lk3 1 (h:=xA (h:=Zy (Zf (Zd (xM (h:=xD (h:=xA (h:=?_))))))))))))
 exact ZA (p.1+1,x.id) [0] so2 ⟨rfl,so,by rw [hs,if_pos ⟨g2,g3⟩],so,so⟩ t4 rfl
 try simp only [sQ,ne_eq] at g1
 rw [ZqL oz,ZcV] at hs
 refine ZU (Zad (ZV (ZF (Zf (Za (xW Ze3 (h:=x1 lk3 0 (h:=xM (h:=xD (h:=xR ZjP rfl (Zco _ _ _ _) (h:=xM (h:=Zt (d:=42) rfl (fun g1=>?_) (fun g1=>?_)))))))))))))
 try simp only [sQ,ne_eq] at g1
 refine xW ZaM (h:=x1 ZfP 0 (h:=xV Tryz.underlying25 (h:=ZcE (h:=xT (h:=xA (h:=Zi ?_))))))
 exact Z2 .ret (.inl rfl) [_] t1 ⟨Zn (by rw [← Znm hs,Bool.eq_iff_iff];simp [g1,g1];try omega),rfl,rfl⟩
 try simp only [sQ,ne_eq] at g1
 refine xP (h:=xP (h:=xP (h:=xP (h:=xF (h:=xA (h:=Zi ?_))))))
 exact Z2 .ret (.inl rfl) [_] t1 ⟨Zn (by rw [← Znm hs,Bool.eq_iff_iff];simp [g1,g1];try omega),rfl,rfl⟩

set_option maxHeartbeats 400000 in
theorem ZrY (l:Str) (n:Nat) (hl:l.length*n≤100000) (hn:n≤100000) (hl2:l.length≤100000) (B:Kn):Za1 (pj J) 156 [str l,.int .i64 n] B (str (rep l n)):=by
 refine Ze 20 Tryz.func156 rfl rfl rfl (Nat.le_of_ble_eq_true rfl) ?_
 refine Za (xA (h:=Za (xA (h:=Zk (Zo (ZR (α:=Str × Str × Nat) [4] (fun p=>[(0,str p.1),(1,.int .i64 p.2.2),(5,str p.2.1)]) [] (fun p=>[]) (fun p Bx=>Bx=B∧rep l n=p.2.1 ++ rep p.1 p.2.2∧p.2.2≤n∧p.1.length≤200000∧p.2.1.length≤100000∧(0<p.2.2→p.1.length≤100000)) (fun p=>p.2.2) (l,[],n) t3 rfl (⟨rfl,rfl,Nat.le_refl _,so,by simp,fun _=>hl2⟩) (fun p B1 hle1 hI=>?_)))))))
 obtain ⟨rfl,hr,h1,h2,h3,h4⟩:=hI
 have hrl:=congrArg List.length hr
 rw [List.length_append,Zj6,Zj6,Nat.mul_comm] at hrl
 refine ZP [(0,_),(1,_),(4,_),(5,_)] [] t4 rfl (Zk (Za (xM (h:=Zbx (h:=Zc rfl (fun g1=>?_) (fun g1=>?_))))))
 try simp only [sQ,ne_eq] at g1
 have hp0:0<p.2.2:=by omega
 replace h4:=h4 hp0
 have hm1:=Nat.le_mul_of_pos_left p.1.length hp0
 have e1:Int.tdiv (p.2.2:Int) 2=((p.2.2 / 2:Nat):Int):=by rw [Int.tdiv_eq_ediv_of_nonneg oz];omega
 have e2:Int.tmod (p.2.2:Int) 2=((p.2.2 % 2:Nat):Int):=by rw [Int.tmod_eq_emod_of_nonneg oz];omega
 refine Zh (Zf (Zo (Zk (Za (xM (h:=Zp (Zf3 rfl rfl rfl rfl oz rfl ?_)))))))
 refine ZJ (h:=Zc rfl (fun g2=>?_) (fun g2=>?_))
 try simp only [sQ,ne_eq] at g2
 rw [e2] at g2
 have hro:=Ztq p.1 p.2.2 oz
 have hol:=Zj6 (p.1 ++ p.1) (p.2.2 / 2)
 refine Zd (xM (h:=xM (h:=Zp (Zth rfl rfl rfl rfl (by first | omega | (simp;omega)) ?_))))
 refine xA (h:=Zf (Za (xM (h:=xM (h:=Zp (Zth rfl rfl rfl rfl (by first | omega | (simp;omega)) ?_))))))
 refine xA (h:=Zd (xM (h:=Zp (Zfz rfl rfl rfl rfl oz (by first | exact ZaN om om | rfl) ?_))))
 refine xA (h:=Zy ?_)
 exact ZA (p.1 ++ p.1,p.2.1 ++ p.1,p.2.2 / 2) [] so2 ⟨rfl,by rw [hr,hro,List.append_assoc],so,by simp only [List.length_append];omega,by simp only [List.length_append];omega,fun h=>by simp only [List.length_append] at h ⊢;have:=Nat.mul_le_mul_right p.1.length (show 2≤p.2.2 by omega);omega⟩ t4 rfl
 try simp only [sQ,ne_eq] at g2
 rw [e2] at g2
 have hro:=Zrz p.1 p.2.2 oz
 refine Zh (Zf (Za (xM (h:=xM (h:=Zp (Zth rfl rfl rfl rfl (by first | omega | (simp;omega)) ?_))))))
 refine xA (h:=Zd (xM (h:=Zp (Zfz rfl rfl rfl rfl oz (by first | exact ZaN om om | rfl) ?_))))
 refine xA (h:=Zy ?_)
 exact ZA (p.1 ++ p.1,p.2.1,p.2.2 / 2) [] so2 ⟨rfl,by rw [hr,hro],so,by simp only [List.length_append];omega,h3,fun h=>by simp only [List.length_append] at h ⊢;have:=Nat.mul_le_mul_right p.1.length (show 2≤p.2.2 by omega);omega⟩ t4 rfl
 try simp only [sQ,ne_eq] at g1
 refine ZU (Zad (ZV (ZF (Zf (Za (xM (h:=xA (h:=Zi ?_))))))))
 exact Z2 .ret (.inl rfl) [_] t1 ⟨ZuT (by rw [hr,show p.2.2=0 from by omega];simp [rep]),rfl,rfl⟩

set_option maxHeartbeats 400000 in
theorem ZeW (b:Nat) (q:Option Addr) (m cp p:Nat) (hp:p≤900000000000) (hm:m≤2000) (B:Kn) (hbm:Zai B q m):Ex1 (pj J) 136 [ptr ⟨b,0,none⟩] B (rd b q m cp p) (fun v s=>∃x:Str,v=str x∧x.length≤40∧s=rd b q m cp (p+2)):=by
 refine Ze 13 Tryz.func136 rfl rfl rfl (Nat.le_of_ble_eq_true rfl) ?_
 refine Za (xA (h:=Zk (Za (xM (h:=xX 0 rfl Za0 rfl (ZO _ _ _ _ _ _ oz oz oz hm _ hbm) (h:=?_))))))
 rintro _ _ ⟨r1,rfl,r1a,r1b,rfl⟩
 refine ZJ (h:=Zw [_] rfl (Zc rfl (fun g1=>?_) (fun g1=>?_)))
 try simp only [sQ,ne_eq] at g1
 refine Za (xM (h:=xX 0 rfl Za0 rfl (ZO _ _ _ _ _ _ oz oz oz hm _ hbm) (h:=?_)))
 rintro _ _ ⟨ra,rfl,raa,rab,rfl⟩
 refine xD (h:=?_)
 obtain ⟨n3,hn3⟩:=Int.eq_ofNat_of_zero_le (show 0≤19+ra by omega)
 rw [hn3]
 refine xR ZwI rfl (ZrY [120] n3 (by simp;omega) oz (by decide) _) (h:=?_)
 refine xA (h:=Zw [_] rfl (Zi (Zs ?_)))
 exact ZfW .ret (.inl rfl) [_] 0 rfl t1 ⟨rfl,_,rfl,_,rfl,by rw [Zj6];simp;omega,rfl⟩
 try simp only [sQ,ne_eq] at g1
 refine Zh (Zf (Za (xM (h:=xBs [(0,_),(1,_),(2,_),(3,_),(4,_),(5,_)] [_,_,_,_,_,_] Tryz.underlying67 sz9 zo9 (h:=fun b4=>Zp (Zab [0,1] rfl rfl rfl rfl ZnI rfl (ZpO _ _ _ _ _ _ ([[],[104,101,108,108,111],[97,109,121,32,97,110,100,32,98,111,98],[120],[98,111,120,49,32,111,114,32,120],[116,111,32,98,111,98]]:List Str) oz (by decide) (by decide) hm _ hbm) ?_))))))
 rintro _ _ _ hle5 ⟨rfl,x5,hx5,rfl,rfl⟩
 replace hx5:=(show∀y∈( ([[],[104,101,108,108,111],[97,109,121,32,97,110,100,32,98,111,98],[120],[98,111,120,49,32,111,114,32,120],[116,111,32,98,111,98]]:List Str):List Str),y.length≤40 from by decide) _ hx5
 refine xA (h:=Zw [_,_] rfl (Zi ?_))
 exact ZfW .ret (.inl rfl) [_] 0 rfl t1 ⟨rfl,_,rfl,_,rfl,hx5,rfl⟩

set_option maxHeartbeats 400000 in
theorem ZtJ (b:Nat) (q:Option Addr) (m cp p:Nat) (hp:p≤900000000000) (hm:m≤2000) (B:Kn) (hbm:Zai B q m):ZN (pj J) 157 [ptr ⟨b,0,none⟩] B [rd b q m cp p] (fun v B' Ls=>∃q' cp' xs p',v = .slice q' xs.length cp'∧SlK B' q' cp' 1 Zba xs∧xs.length≤6∧p'≤p+6∧Ls=[rd b q m cp p']):=by
 refine Ze 53 Tryz.func157 rfl rfl rfl (Nat.le_of_ble_eq_true rfl) ?_
 refine Za (xA (h:=Za (xBs [] [] Tryz.underlying67 sz9 zo9 (h:=fun b1=>xA (h:=Zw [_,_] rfl (Za (xBs [(0,_),(1,_),(2,_),(3,_)] [_,_,_,_] Tryz.underlying67 sz9 zo9 (h:=fun b2=>xA (h:=Zw [_,_,_] rfl (ZdD 2 rfl (Z4.strs (ls:=([[97,109,121],[98,111,98],[99,121,100],[100,97,110]]:List Str)) (by first | decide | (simp;done) | (simp;omega))) Zba.mono om3 (fun B3 hle3 hr3=>?_)))))))))))
 replace hbm:=hbm.mono hle3
 have hr3n:=hr3.len
 refine Zk (Za (xA (h:=Zw [_,_,_] rfl (Zo (ZR (α:=Gh Str) [0,2,4] (fun x=>[(3,.slice x.a x.xs.length x.c),(5,.int .i64 x.k)]) [0,1] (fun x=>[rd b q m cp x.p,x.l]) (fun x Bx=>Bx=B3∧x.k≤3∧x.xs.length≤x.k∧x.p≤p+x.k∧Z4 Bx x.l x.a x.c 9 1 Zba x.xs) (fun x=>3 - x.k) ⟨0,p,_,_,_,[]⟩ t2 rfl (⟨rfl,Nat.zero_le _,Nat.le_refl _,Nat.le_refl _,.lit0⟩) (fun x B4 hle4 hI=>?_))))))
 obtain ⟨rfl,hk,hxk,hxp,hv⟩:=hI
 refine ZP [(0,_),(2,_),(3,_),(4,_),(5,_)] [_,_,_] t5 rfl (Zk (Za (xM (h:=Zae (h:=Zc rfl (fun g1=>?_) (fun g1=>?_))))))
 try simp only [sQ,ne_eq] at g1
 refine Zh (Zf (Zk (Zo (Za (xM (h:=xX 0 rfl Za0 rfl (ZO _ _ _ _ _ _ oz oz oz hm _ hbm) (h:=?_)))))))
 rintro _ _ ⟨r5,rfl,r5a,r5b,rfl⟩
 refine ZJ (h:=Zw [_,_,_] rfl (Zc rfl (fun g2=>?_) (fun g2=>?_)))
 try simp only [sQ,ne_eq] at g2
 refine Zd (xM (h:=xM (h:=xM (h:=?_))))
 obtain ⟨y,hy⟩:=Zan (xs:=([[97,109,121],[98,111,98],[99,121,100],[100,97,110]]:List Str)) (i:=x.k) om
 obtain ⟨_,⟨rfl,hb7⟩,hc7⟩:=hr3.elem hy
 refine xIx Tryz.underlying67 sz9 (h:=y1 lk9 hc7 0 (h:=xBs [(0,_)] [_] Tryz.underlying67 sz9 zo9 (h:=fun b8=>Zp (ZaK (z:=y) (R:=Zba) 1 rfl hv rfl rfl rfl Zo1 ZoZ rfl rfl (ZaI.box 3 rfl) rfl rfl (⟨rfl,by first | assumption | omega | (simp;done) | (simp;omega)⟩) om (fun l9 p9 c9 hv9=>?_)))))
 refine xA (h:=Zy (Zf (Zd (xM (h:=xD (h:=xA (h:=?_)))))))
 exact ZA ⟨x.k+1,(x.p+1),l9,p9,c9,(x.xs ++ [y])⟩ [0,1,2] so2 ⟨rfl,so,by simp;omega,so,hv9⟩ t5 rfl
 try simp only [sQ,ne_eq] at g2
 refine Zh (Zy (Zf (Zd (xM (h:=xD (h:=xA (h:=?_)))))))
 exact ZA ⟨x.k+1,(x.p+1),x.l,x.a,x.c,x.xs⟩ [0,1,2] so2 ⟨rfl,so,so,so,hv⟩ t5 rfl
 try simp only [sQ,ne_eq] at g1
 refine ZU (Zad (ZV (ZF (Zf (Zk (Za (xM (h:=xV Tryz.underlying67 (h:=ZJ (h:=Zc rfl (fun g3=>?_) (fun g3=>?_)))))))))))
 try simp only [sQ,ne_eq] at g3
 refine Zd (xM (h:=xM (h:=xM (h:=xX 0 rfl Za0 rfl (ZO _ _ _ _ _ _ oz oz oz hm _ hbm) (h:=?_)))))
 rintro _ _ ⟨r10,rfl,r10a,r10b,rfl⟩
 obtain ⟨z,hz⟩:=Zex (xs:=([[97,109,121],[98,111,98],[99,121,100],[100,97,110]]:List Str)) (i:=r10) om om
 obtain ⟨_,⟨rfl,hb12⟩,hc12⟩:=hr3.elem hz
 refine xIx Tryz.underlying67 sz9 (h:=y1 lk9 hc12 0 (h:=xBs [(0,_)] [_] Tryz.underlying67 sz9 zo9 (h:=fun b13=>Zp (ZaK (z:=z) (R:=Zba) 1 rfl hv rfl rfl rfl Zo1 ZoZ rfl rfl (ZaI.box 3 rfl) rfl rfl (⟨rfl,by first | assumption | omega | (simp;done) | (simp;omega)⟩) om (fun l14 p14 c14 hv14=>?_)))))
 refine xA (h:=Zf (Zk (Za (xM (h:=xX 0 rfl Za0 rfl (ZO _ _ _ _ _ _ oz oz oz hm _ hbm) (h:=?_))))))
 rintro _ _ ⟨r15,rfl,r15a,r15b,rfl⟩
 refine Zw [_,_,_,_] rfl (Zo (Za (ZJ (h:=xA (h:=Zc rfl (fun g4=>?_) (fun g4=>?_))))))
 try simp only [sQ,ne_eq] at g4
 refine Zd (xM (h:=xM (h:=?_)))
 obtain ⟨w,hw⟩:=Zan (xs:=(x.xs ++ [z])) (i:=0) om
 obtain ⟨bb17,_,hp17,⟨rfl,hb17⟩,hw17,hc17⟩:=hv14.row hw
 refine xIp hp17 Tryz.underlying67 sz9 (h:=Zp (Zl rfl rfl lk9 rfl (hc17 _ 1 rfl 0 _ rfl) (xBs [(0,_)] [_] Tryz.underlying67 sz9 zo9 (h:=fun b18=>Zp (ZaK (z:=w) (R:=Zba) 1 rfl hv14 rfl rfl rfl Zo1 ZoZ rfl rfl (ZaI.box 4 rfl) rfl rfl (⟨rfl,by first | assumption | omega | (simp;done) | (simp;omega)⟩) om (fun l19 p19 c19 hv19=>?_))))))
 refine xA (h:=Zy (Zf (ZdD 1 rfl hv19 Zba.mono om3 (fun B20 hle20 hr20=>?_))))
 replace hr3:=hr3.mono Zba.mono hle20
 replace hbm:=hbm.mono hle20
 have hr20n:=hr20.len
 refine Za (xM (h:=xA (h:=Zw [_,_,_,_,_] rfl (Zi ?_))))
 exact Zag .ret (.inl rfl) [_] [0] rfl t1 ⟨_,_,_,_,rfl,hr20,by first | omega | (simp;done) | (simp;omega),oz,rfl⟩
 try simp only [sQ,ne_eq] at g4
 refine Za (ZJ (h:=xA (h:=Zc rfl (fun g5=>?_) (fun g5=>?_))))
 try simp only [sQ,ne_eq] at g5
 refine Zd (xM (h:=Zp (Zfc rfl rfl Tryz.underlying67 sz9 rfl (a:=0) (b:=0) rfl ⟨_,_,rfl,rfl⟩ oz oz ?_)))
 refine xA (h:=Zy (Zf (Za (xM (h:=xA (h:=Zi ?_))))))
 exact Zag .ret (.inl rfl) [_] [0] rfl t1 ⟨_,_,[],_,rfl,SlK.nil,Nat.zero_le _,oz,rfl⟩
 try simp only [sQ,ne_eq] at g5
 refine Za (ZJ (h:=xA (h:=Zc rfl (fun g6=>?_) (fun g6=>?_))))
 try simp only [sQ,ne_eq] at g6
 refine Zd (xM (h:=xBs [(0,_),(1,_)] [_,_] Tryz.underlying67 sz9 zo9 (h:=fun b21=>Zp (Znb (rows:=(([[100,97,110],[101,118,101]]:List Str)).map fun x=>[str x]) (ys:=([[100,97,110],[101,118,101]]:List Str)) (R:=Zba) 1 rfl hv14 rfl rfl rfl Zo1 ZoZ rfl rfl rfl (ZaI.box 4 rfl) rfl Zux (Zui (by decide)) om (fun l22 p22 c22 hv22=>?_)))))
 refine xA (h:=Zy (Zf (ZdD 1 rfl hv22 Zba.mono om3 (fun B23 hle23 hr23=>?_))))
 replace hr3:=hr3.mono Zba.mono hle23
 replace hbm:=hbm.mono hle23
 have hr23n:=hr23.len
 refine Za (xM (h:=xA (h:=Zw [_,_,_,_,_] rfl (Zi ?_))))
 exact Zag .ret (.inl rfl) [_] [0] rfl t1 ⟨_,_,_,_,rfl,hr23,by first | omega | (simp;done) | (simp;omega),oz,rfl⟩
 try simp only [sQ,ne_eq] at g6
 refine Zh (Zy (Zf (ZdD 1 rfl hv14 Zba.mono om3 (fun B24 hle24 hr24=>?_))))
 replace hr3:=hr3.mono Zba.mono hle24
 replace hbm:=hbm.mono hle24
 have hr24n:=hr24.len
 refine Za (xM (h:=xA (h:=Zw [_,_,_,_] rfl (Zi ?_))))
 exact Zag .ret (.inl rfl) [_] [0] rfl t1 ⟨_,_,_,_,rfl,hr24,by first | omega | (simp;done) | (simp;omega),oz,rfl⟩
 try simp only [sQ,ne_eq] at g3
 refine Zh (Zf (Zk (Za (xM (h:=xX 0 rfl Za0 rfl (ZO _ _ _ _ _ _ oz oz oz hm _ hbm) (h:=?_))))))
 rintro _ _ ⟨r25,rfl,r25a,r25b,rfl⟩
 refine Zw [_,_,_] rfl (Zo (Za (ZJ (h:=xA (h:=Zc rfl (fun g4=>?_) (fun g4=>?_))))))
 try simp only [sQ,ne_eq] at g4
 refine Zd (xM (h:=xM (h:=?_)))
 obtain ⟨w,hw⟩:=Zan (xs:=x.xs) (i:=0) om
 obtain ⟨bb27,_,hp27,⟨rfl,hb27⟩,hw27,hc27⟩:=hv.row hw
 refine xIp hp27 Tryz.underlying67 sz9 (h:=Zp (Zl rfl rfl lk9 rfl (hc27 _ 1 rfl 0 _ rfl) (xBs [(0,_)] [_] Tryz.underlying67 sz9 zo9 (h:=fun b28=>Zp (ZaK (z:=w) (R:=Zba) 1 rfl hv rfl rfl rfl Zo1 ZoZ rfl rfl (ZaI.box 3 rfl) rfl rfl (⟨rfl,by first | assumption | omega | (simp;done) | (simp;omega)⟩) om (fun l29 p29 c29 hv29=>?_))))))
 refine xA (h:=Zy (Zf (ZdD 1 rfl hv29 Zba.mono om3 (fun B30 hle30 hr30=>?_))))
 replace hr3:=hr3.mono Zba.mono hle30
 replace hbm:=hbm.mono hle30
 have hr30n:=hr30.len
 refine Za (xM (h:=xA (h:=Zw [_,_,_,_] rfl (Zi ?_))))
 exact Zag .ret (.inl rfl) [_] [0] rfl t1 ⟨_,_,_,_,rfl,hr30,by first | omega | (simp;done) | (simp;omega),oz,rfl⟩
 try simp only [sQ,ne_eq] at g4
 refine Za (ZJ (h:=xA (h:=Zc rfl (fun g5=>?_) (fun g5=>?_))))
 try simp only [sQ,ne_eq] at g5
 refine Zd (xM (h:=Zp (Zfc rfl rfl Tryz.underlying67 sz9 rfl (a:=0) (b:=0) rfl ⟨_,_,rfl,rfl⟩ oz oz ?_)))
 refine xA (h:=Zy (Zf (Za (xM (h:=xA (h:=Zi ?_))))))
 exact Zag .ret (.inl rfl) [_] [0] rfl t1 ⟨_,_,[],_,rfl,SlK.nil,Nat.zero_le _,oz,rfl⟩
 try simp only [sQ,ne_eq] at g5
 refine Za (ZJ (h:=xA (h:=Zc rfl (fun g6=>?_) (fun g6=>?_))))
 try simp only [sQ,ne_eq] at g6
 refine Zd (xM (h:=xBs [(0,_),(1,_)] [_,_] Tryz.underlying67 sz9 zo9 (h:=fun b31=>Zp (Znb (rows:=(([[100,97,110],[101,118,101]]:List Str)).map fun x=>[str x]) (ys:=([[100,97,110],[101,118,101]]:List Str)) (R:=Zba) 1 rfl hv rfl rfl rfl Zo1 ZoZ rfl rfl rfl (ZaI.box 3 rfl) rfl Zux (Zui (by decide)) om (fun l32 p32 c32 hv32=>?_)))))
 refine xA (h:=Zy (Zf (ZdD 1 rfl hv32 Zba.mono om3 (fun B33 hle33 hr33=>?_))))
 replace hr3:=hr3.mono Zba.mono hle33
 replace hbm:=hbm.mono hle33
 have hr33n:=hr33.len
 refine Za (xM (h:=xA (h:=Zw [_,_,_,_] rfl (Zi ?_))))
 exact Zag .ret (.inl rfl) [_] [0] rfl t1 ⟨_,_,_,_,rfl,hr33,by first | omega | (simp;done) | (simp;omega),oz,rfl⟩
 try simp only [sQ,ne_eq] at g6
 refine Zh (Zy (Zf (ZdD 1 rfl hv Zba.mono om3 (fun B34 hle34 hr34=>?_))))
 replace hr3:=hr3.mono Zba.mono hle34
 replace hbm:=hbm.mono hle34
 have hr34n:=hr34.len
 refine Za (xM (h:=xA (h:=Zw [_,_,_] rfl (Zi ?_))))
 exact Zag .ret (.inl rfl) [_] [0] rfl t1 ⟨_,_,_,_,rfl,hr34,by first | omega | (simp;done) | (simp;omega),oz,rfl⟩

set_option maxHeartbeats 400000 in
theorem ZaA (aq:Option Addr) (cq:Nat) (q:DQueue) (B:Kn) (hq:SlK B aq cq 4 Zj q.items):ZN (pj J) 133 [.agg #[.int .i64 q.next,.slice aq q.items.length cq]] B [] (fun v B' Ls=>∃l a cp,Ls=[l]∧v = .agg #[.int .i64 q.next,.slice a q.items.length cp]∧Z4 (B'.less B) l a cp 69 4 Zj q.items):=by
 refine Ze 34 Tryz.func133 rfl rfl rfl (Nat.le_of_ble_eq_true rfl) ?_
 have hqn:=hq.len
 refine Za (xBx [_,_] (h:=fun b1=>xAl [_,_] Zi6 (h:=fun b2=>Zw [_,_] rfl (Za (xW Ze3 (h:=x1 lk3 0 (h:=xBs [] [] Tryz.underlying25 ZeA Zi3 (h:=fun b3=>xB [(0,_),(1,_)] [_,_] [_,_] Zts Zi6 (h:=xAl [_,_] Zi6 (h:=fun b4=>xS [_,_] 3 [_,_] Zf0 (h:=Zw [_,_,_,_] rfl (Zk ?_))))))))))))
 refine Za (xA (h:=Zo (ZR (α:=Gh DItem) [0,1,2,3] (fun g=>[(4,.int .i64 g.k)]) [2,3] (fun g=>[g.l,Zbm b4 [.int .i64 q.next,.slice g.a g.xs.length g.c] 27]) (fun g Bx=>g.k≤q.items.length∧g.xs=q.items.take g.k∧Z4 (Bx.less B) g.l g.a g.c 69 4 Zj g.xs) (fun g=>q.items.length - g.k) ⟨0,0,_,_,_,[]⟩ t1 rfl (⟨Nat.zero_le _,rfl,.lit0⟩) (fun g B5 hle5 hI=>?_))))
 obtain ⟨hk,hxs,hv⟩:=hI
 have hxn:=congrArg List.length hxs
 rw [List.length_take] at hxn
 replace hq:=hq.mono Zj.mono hle5
 refine ZP [(0,_),(1,_),(2,_),(3,_),(4,_)] [_,_,_,_] t5 rfl (Zk (Za (xM (h:=xW ZaM (h:=x1 ZfP 0 (h:=xV Tryz.underlying25 (h:=Zae (h:=Zc rfl (fun g1=>?_) (fun g1=>?_)))))))))
 try simp only [sQ,ne_eq] at g1
 refine Zh (Zf (Zk (Zo (Za (xW ZaM (h:=x1 ZfP 0 (h:=xM (h:=?_))))))))
 obtain ⟨x,hx⟩:=Zan (xs:=q.items) (i:=g.k) om
 obtain ⟨bb7,oo7,rfl⟩:=hq.base hx
 obtain ⟨_,⟨qi8,ci8,rfl,hi8,hb8,hb8b⟩,hc8⟩:=hq.elem hx
 have hi8n:=hi8.len
 refine xIx Tryz.underlying25 ZeA (h:=yL [_,_,_,_] Zl3 hc8 0 (h:=xAl [_,_,_,_] Zi3 (h:=fun b9=>xS [_,_,_,_] 4 [_,_,_,_] ZeA (h:=Zw [_,_,_,_,_] rfl (Za (xBs [] [] Tryz.underlying67 sz9 zo9 (h:=fun b10=>xW ZbM (h:=x1 ZhA 4 (h:=Zp (ZaV (R:=Zba) 5 rfl (Z4.lit0 (R:=Zba)) rfl rfl rfl Zo1 ZoZ rfl rfl rfl hi8.rows Zba.one rfl om (fun l11 p11 c11 hv11=>?_)))))))))))
 refine xW ZbM (h:=xS [_] 4 [_,_,_,_] ZuM (h:=Zw [_,_,_,_,_,_] rfl (Zo7 5 rfl hv11 Zba.any om3 hle5 (fun B12 hle12 hr12f=>?_))))
 have hr12:=hr12f.mono Zba.mono Kn.less_le
 replace hq:=hq.mono Zj.mono hle12
 replace hv:=hv.mono Zj.mono (Kn.less_mono hle12)
 have hr12n:=hr12.len
 refine Zd (xW ZaM (h:=x1 ZfP 3 (h:=xL [_,_,_,_] Zl3 4 (h:=xBs [(0,_)] [_,_,_,_] Tryz.underlying25 ZeA Zi3 (h:=fun b13=>Zp (ZaK (z:=⟨x.id,x.fr,x.text,x.left⟩) (R:=Zj) 2 rfl hv rfl rfl rfl Zu8 ZuR rfl rfl (ZaI.box 6 rfl) rfl rfl (⟨_,_,rfl,hr12f,by first | assumption | omega | (simp;done) | (simp;omega),by first | assumption | omega | (simp;done) | (simp;omega)⟩) om (fun l14 p14 c14 hv14=>?_)))))))
 refine xW ZaM (h:=xS [_] 3 [_,_] ZuN (h:=Zy (Zf (Zd (xM (h:=xD (h:=xA (h:=?_))))))))
 exact ZA ⟨g.k+1,0,l14,p14,c14,(g.xs ++ [⟨x.id,x.fr,x.text,x.left⟩])⟩ [0,1,2,3] so2 ⟨so,by simp only [];rw [Zas hx,hxs],hv14⟩ t5 rfl
 try simp only [sQ,ne_eq] at g1
 have hxe:g.xs=q.items:=by rw [hxs];exact List.take_of_length_le oz
 refine ZU (Zad (ZV (ZF (Zf (Za (xL [_,_] Zel 3 (h:=xS [_,_] 1 [_,_] Zf0 (h:=Zw [_,_,_,_] rfl (Zi ?_)))))))))
 exact Zag .ret (.inl rfl) [_] [2] rfl ⟨⟨_,rfl,.inr ⟨[_,_],Zel,Zaj 1 rfl rfl rfl,rfl⟩⟩,trivial⟩ ⟨_,_,_,rfl,by rw [← hxe];rfl,hxe ▸ hv⟩

set_option maxHeartbeats 400000 in
theorem Zgb (aq:Option Addr) (cq:Nat) (q:DQueue) (qx:Option Addr) (cx:Nat) (x:DLetter) (B:Kn) (hq:SlK B aq cq 4 Zj q.items) (hx:SlK B qx cx 1 Zba x.to_) (h1:x.fr.length≤2000000) (h2:x.text.length≤2000000):ZN (pj J) 138 [.agg #[.int .i64 q.next,.slice aq q.items.length cq],.agg #[str x.fr,.slice qx x.to_.length cx,str x.text]] B [] (fun v B' Ls=>(∃l a cp,Ls=[l]∧v = .tuple #[.agg #[.int .i64 (ZhM q x).1.next,.slice a (ZhM q x).1.items.length cp],.bool (ZhM q x).2]∧Z4 (B'.less B) l a cp 69 4 Zj (ZhM q x).1.items)):=by
 refine Ze 49 Tryz.func138 rfl rfl rfl (Nat.le_of_ble_eq_true rfl) ?_
 have hqn:=hq.len
 have hxn:=hx.len
 refine Za (xBx [_,_] (h:=fun b1=>xBx [_,_,_] (h:=fun b2=>xAl [_,_] Zi6 (h:=fun b3=>xA (h:=Zw [_,_,_] rfl (Zk (Za (xL [_,_] Zel 0 (h:=xR Zwl rfl (ZfF _ _ q _ hq) (h:=xN (h:=xM (h:=Zt (d:=10) rfl (fun g1=>?_) (fun g1=>?_)))))))))))))
 try simp only [sQ,ne_eq] at g1
 refine xP (h:=xP (h:=xP (h:=xT (h:=Zc (t:=true) rfl (fun _=>Za (xB [] [_,_] [_,_] Zts Zi6 (h:=xS [_,_] 2 [_,_] Zf0 (h:=xA (h:=Zw [_,_,_] rfl (Zi (Zs ?_))))))) (fun h=>Bool.noConfusion h)))))
 have he:=Zq4 (x:=x) g1
 exact Zt6 .ret (.inl rfl) [_,_] ⟨⟨_,rfl,.inr ⟨[_,_],Zel,Zaj 2 rfl rfl rfl,rfl⟩⟩,rfl,trivial⟩ ⟨_,none,0,rfl,by rw [he];rfl,by rw [he];exact Z4.nil⟩
 try simp only [sQ,ne_eq] at g1
 refine xL [_,_,_] ZtG 1 (h:=xR Zwi rfl (ZeK _ _ x _ hx oa oa) (h:=?_))
 refine xN (h:=xF (h:=Zc rfl (fun g2=>?_) (fun g2=>?_)))
 try simp only [sQ,ne_eq] at g2
 refine Za (xB [] [_,_] [_,_] Zts Zi6 (h:=xS [_,_] 2 [_,_] Zf0 (h:=xA (h:=Zw [_,_,_] rfl (Zi (Zs ?_))))))
 have he:=Zq3 (q:=q) g2
 exact Zt6 .ret (.inl rfl) [_,_] ⟨⟨_,rfl,.inr ⟨[_,_],Zel,Zaj 2 rfl rfl rfl,rfl⟩⟩,rfl,trivial⟩ ⟨_,none,0,rfl,by rw [he];rfl,by rw [he];exact Z4.nil⟩
 try simp only [sQ,ne_eq] at g2
 have hqb:=ZeO g1
 refine Zh (Zf (Za (xL [_,_] Zel 0 (h:=Zp (Zaf rfl rfl Zea rfl (ZaA _ _ q _ hq) ?_)))))
 rintro _ Bk _ hlek ⟨lk,ak,ck,rfl,rfl,hvk⟩
 replace hq:=hq.mono Zj.mono hlek
 replace hx:=hx.mono Zba.mono hlek
 replace hvk:=hvk.mono Zj.mono (Kn.less_up (Kn.le.refl _) (Kn.le.refl _))
 refine xAl [_,_] Zi6 (h:=fun b7=>xS [_,_] 4 [_,_] Zf0 (h:=Zw [_,_,_,_,_] rfl (Zk (Za (xW ZaM (h:=x1 ZfP 0 (h:=xV Tryz.underlying25 (h:=ZdB (h:=xM (h:=Zt (d:=22) rfl (fun g3=>?_) (fun g3=>?_)))))))))))
 try simp only [sQ,ne_eq] at g3
 refine xP (h:=xP (h:=xP (h:=xT (h:=Zc (t:=true) rfl (fun _=>Za (xL [_,_] Zel 4 (h:=xS [_,_] 2 [_,_] Zf0 (h:=xA (h:=Zw [_,_,_,_,_] rfl (Zi (Zs ?_))))))) (fun h=>Bool.noConfusion h)))))
 have he:=ZlX g1 g2 (.inl oz)
 exact Zag .ret (.inl rfl) [_,_] [3] rfl ⟨⟨_,rfl,.inr ⟨[_,_],Zel,Zaj 2 rfl rfl rfl,rfl⟩⟩,rfl,trivial⟩ ⟨_,_,_,rfl,by rw [he];rfl,by rw [he];exact hvk⟩
 try simp only [sQ,ne_eq] at g3
 refine xW Ze3 (h:=x1 lk3 0 (h:=Zbx (h:=xF (h:=Zc rfl (fun g4=>?_) (fun g4=>?_)))))
 try simp only [sQ,ne_eq] at g4
 refine Za (xL [_,_] Zel 4 (h:=xS [_,_] 2 [_,_] Zf0 (h:=xA (h:=Zw [_,_,_,_,_] rfl (Zi (Zs ?_))))))
 have he:=ZlX g1 g2 (.inr oz)
 exact Zag .ret (.inl rfl) [_,_] [3] rfl ⟨⟨_,rfl,.inr ⟨[_,_],Zel,Zaj 2 rfl rfl rfl,rfl⟩⟩,rfl,trivial⟩ ⟨_,_,_,rfl,by rw [he];rfl,by rw [he];exact hvk⟩
 try simp only [sQ,ne_eq] at g4
 refine Zh (Zf (Zk (Z7 (keeps _ [0,1,4] _) mo kr ⟨Kn.le.refl _,Zat.refl _ _⟩ (fun _ _=>?_))))
 refine aW 0 rfl ZaM (h:=aT 1 rfl (ZG fun D B L hI=>Zl rfl rfl ZfP rfl (atL 4 (hI.2.2.2.1.trans rfl) rfl rfl) r4) (h:=aW 2 rfl Ze3 (h:=aT 3 rfl (ZG fun D B L hI=>Zl rfl rfl lk3 rfl (atL 0 (hI.2.1.trans rfl) rfl rfl) r4) (h:=aW 4 rfl ZlG (h:=aT 5 rfl (ZG fun D B L hI=>Zl rfl rfl lk9 rfl (atL 1 (hI.2.2.1.trans rfl) rfl rfl) r4) (h:=aW 6 rfl Zqu (h:=aT 7 rfl (ZG fun D B L hI=>Zl rfl rfl lk9 rfl (atL 1 (hI.2.2.1.trans rfl) rfl rfl) r4) (h:=aW 9 rfl ZlF (h:=aT 10 rfl (ZG fun D B L hI=>Zl rfl rfl ZhA rfl (atL 1 (hI.2.2.1.trans rfl) rfl rfl) r4) (h:=Zr 8 kr rfl kr (Zu (parts:=[]) [] rfl rfl Tryz.underlying67 sz9 zo9 rfl rfl rfl rfl rfl (fun b8=>?_))))))))))))
 refine ⟨⟨Kn.le.refl _,t3⟩,(Zr 11 kr rfl kr (ZaV (R:=Zba) 5 rfl (Z4.lit0 (R:=Zba)) rfl rfl rfl Zo1 ZoZ rfl rfl rfl hx.rows Zba.one rfl om (fun l9 p9 c9 hv9=>?_)))⟩
 refine ⟨⟨Kn.le.refl _,t3⟩,(Zvu 5 rfl hv9 Zba.any om3 hlek (fun B' hle'=>⟨hle',t3⟩) (fun B10 hle10 hr10f=>?_))⟩
 have hr10:=hr10f.mono Zba.mono Kn.less_le
 replace hq:=hq.mono Zj.mono hle10
 replace hx:=hx.mono Zba.mono hle10
 replace hvk:=hvk.mono Zj.mono (Kn.less_mono hle10)
 have hr10n:=hr10.len
 refine aT 12 rfl (ZG fun D B L hI=>Zav (parts:=[(0,_),(1,_),(2,_),(3,_)]) [_,_,_,_] [_,_,_,_] rfl rfl Zxp Zi3 rfl rfl rfl r4) (h:=Zr 13 kr rfl kr (Zu (parts:=[(0,_)]) [_,_,_,_] rfl rfl Tryz.underlying25 ZeA Zi3 rfl rfl rfl rfl rfl (fun b11=>?_)))
 refine ⟨⟨hle10,t3⟩,(Zr 14 kr rfl kr (ZaK (z:=⟨q.next,x.fr,x.text,x.to_⟩) (R:=Zj) 3 rfl hvk rfl rfl rfl Zu8 ZuR rfl rfl (ZaI.box 6 rfl) rfl rfl (⟨_,_,rfl,hr10f,by first | assumption | omega | (simp;done) | (simp;omega),by first | assumption | omega | (simp;done) | (simp;omega)⟩) om (fun l12 p12 c12 hv12=>?_)))⟩
 refine ⟨⟨hle10,t3⟩,(aW 15 rfl ZaM (h:=Z0 16 kr rfl kr kr kr (ZQ [_] 4 [_,_] rfl rfl ZuN rfl rfl rfl rfl rfl rfl rfl rfl ?_)))⟩
 refine Zf (Zw [_,_,_,_,_,_,_] rfl (Za (xW Ze3 (h:=x1 lk3 0 (h:=xD (h:=xW Ze3 (h:=xS [_] 4 [_,_] sz3 (h:=Zw [_,_,_,_,_,_,_] rfl (Za (xL [_,_] Zel 4 (h:=xS [_,_] 2 [_,_] Zf0 (h:=xA (h:=?_)))))))))))))
 refine Zw [_,_,_,_,_,_,_] rfl (Zi ?_)
 have he:=Zuj g1 g2 oz oz
 exact Zag .ret (.inl rfl) [_,_] [3] rfl ⟨⟨_,rfl,.inr ⟨[_,_],Zel,Zaj 2 rfl rfl rfl,rfl⟩⟩,rfl,trivial⟩ ⟨_,_,_,rfl,by rw [he];rfl,by rw [he];exact hv12⟩

set_option maxHeartbeats 400000 in
theorem Zlv (q:Option Addr) (cp:Nat) (xs:List Str) (u:Str) (B:Kn) (ha:SlK B q cp 1 Zba xs):ZN (pj J) 168 [.slice q xs.length cp,str u] B [] (fun v B' Ls=>Ls=[]∧∃a cp,v = .slice a (without xs u).length cp∧SlK (B'.less B) a cp 1 Zba (without xs u)):=by
 refine Ze 28 Tryz.func168 rfl rfl rfl (Nat.le_of_ble_eq_true rfl) ?_
 have han:=ha.len
 refine Za (xA (h:=Za (xBs [] [] Tryz.underlying67 sz9 zo9 (h:=fun b1=>xA (h:=Zw [_] rfl (Zk (Za (xA (h:=Zo (ZR (α:=Gh Str) [0,1,4] (fun g=>[(5,.slice g.a g.xs.length g.c),(6,.int .i64 g.k)]) [0] (fun g=>[g.l]) (fun g Bx=>Bx=B∧g.k≤xs.length∧g.xs=without (xs.take g.k) u∧g.xs.length≤g.k∧Z4 Bx g.l g.a g.c 9 1 Zba g.xs) (fun g=>xs.length - g.k) ⟨0,0,_,_,_,[]⟩ t2 rfl (⟨rfl,Nat.zero_le _,rfl,Nat.le_refl _,.lit0⟩) (fun g B2 hle2 hI=>?_)))))))))))
 obtain ⟨rfl,hk,hxs,hgl,hv⟩:=hI
 refine ZP [(0,_),(1,_),(4,_),(5,_),(6,_)] [_] t5 rfl (Zk (Za (xM (h:=xM (h:=xV Tryz.underlying67 (h:=Zae (h:=Zc rfl (fun g1=>?_) (fun g1=>?_))))))))
 try simp only [sQ,ne_eq] at g1
 refine Zh (Zf (Zk (Zo (Za (xM (h:=xM (h:=?_)))))))
 obtain ⟨x,hx⟩:=Zan (xs:=xs) (i:=g.k) om
 obtain ⟨bb4,oo4,rfl⟩:=ha.base hx
 obtain ⟨_,⟨rfl,hb5⟩,hc5⟩:=ha.elem hx
 refine xIx Tryz.underlying67 sz9 (h:=y1 lk9 hc5 0 (h:=xM (h:=Zjg (h:=Zc rfl (fun g2=>?_) (fun g2=>?_)))))
 try simp only [sQ,ne_eq] at g2
 refine Zd (xM (h:=xM (h:=xM (h:=xIx Tryz.underlying67 sz9 (h:=y1 lk9 hc5 0 (h:=xBs [(0,_)] [_] Tryz.underlying67 sz9 zo9 (h:=fun b6=>Zp (ZaK (z:=x) (R:=Zba) 0 rfl hv rfl rfl rfl Zo1 ZoZ rfl rfl (ZaI.box 1 rfl) rfl rfl (⟨rfl,by first | assumption | omega | (simp;done) | (simp;omega)⟩) om (fun l7 p7 c7 hv7=>?_)))))))))
 refine xA (h:=Zy (Zf (Zd (xM (h:=xD (h:=xA (h:=?_)))))))
 exact ZA ⟨g.k+1,0,l7,p7,c7,(g.xs ++ [x])⟩ [0] so2 ⟨rfl,so,by simp only [];rw [ZkK hx g2,hxs],by simp;omega,hv7⟩ t5 rfl
 try simp only [sQ,ne_eq] at g2
 refine Zh (Zy (Zf (Zd (xM (h:=xD (h:=xA (h:=?_)))))))
 exact ZA ⟨g.k+1,0,g.l,g.a,g.c,g.xs⟩ [0] so2 ⟨rfl,so,by simp only [];rw [ZkJ hx g2,hxs],so,hv⟩ t5 rfl
 try simp only [sQ,ne_eq] at g1
 have hxe:g.xs=without xs u:=by rw [hxs,List.take_of_length_le oz]
 refine ZU (Zad (ZV (ZF (Zf (Zo7 0 rfl hv Zba.any om3 (Kn.le.refl _) (fun B8 hle8 hr8f=>?_))))))
 have hr8:=hr8f.mono Zba.mono Kn.less_le
 replace ha:=ha.mono Zba.mono hle8
 have hr8n:=hr8.len
 refine Za (xM (h:=xA (h:=Zw [_] rfl (Zi ?_))))
 exact Zag .ret (.inl rfl) [_] [] rfl t1 ⟨rfl,_,_,by rw [← hxe];rfl,hxe ▸ hr8f⟩

set_option maxHeartbeats 400000 in
theorem Zlw (aq:Option Addr) (cq:Nat) (q:DQueue) (id:Int) (u:Str) (B:Kn) (hq:SlK B aq cq 4 Zj q.items):ZN (pj J) 158 [.agg #[.int .i64 q.next,.slice aq q.items.length cq],.int .i64 id,str u] B [] (fun v B' Ls=>(∃l a cp,Ls=[l]∧v = .tuple #[.agg #[.int .i64 (Zb9 q id u).1.next,.slice a (Zb9 q id u).1.items.length cp],str (Zb9 q id u).2.1,.bool (Zb9 q id u).2.2]∧Z4 (B'.less B) l a cp 69 4 Zj (Zb9 q id u).1.items∧(Zb9 q id u).2.1.length≤2000000)):=by
 refine Ze 65 Tryz.func158 rfl rfl rfl (Nat.le_of_ble_eq_true rfl) ?_
 have hqn:=hq.len
 refine Za (xBx [_,_] (h:=fun b1=>xAl [_,_] Zi6 (h:=fun b2=>xA (h:=xA (h:=Zw [_,_] rfl (Za (xW Ze3 (h:=x1 lk3 0 (h:=xBs [] [] Tryz.underlying25 ZeA Zi3 (h:=fun b3=>xB [(0,_),(1,_)] [_,_] [_,_] Zts Zi6 (h:=xAl [_,_] Zi6 (h:=fun b4=>xS [_,_] 3 [_,_] Zf0 (h:=?_)))))))))))))
 refine Zw [_,_,_,_] rfl (Za (xA (h:=Za (xA (h:=Zk (Za (xA (h:=Zo (ZR (α:=Gh2 DItem (Str × Bool)) [0,1,2,3,6,7,8,9] (fun g=>[(10,str g.e.1),(11,.bool g.e.2),(12,.int .i64 g.k)]) [2,3] (fun g=>[g.l,Zbm b4 [.int .i64 q.next,.slice g.a g.xs.length g.c] 27]) (fun g Bx=>g.k≤q.items.length∧g.e=ZfD id u (q.items.take g.k)∧g.e.1.length≤2000000∧g.xs=Zez id u (q.items.take g.k)∧Z4 (Bx.less B) g.l g.a g.c 69 4 Zj g.xs) (fun g=>q.items.length - g.k) ⟨0,0,_,_,_,[],([],false)⟩ t3 rfl (⟨Nat.zero_le _,rfl,Nat.zero_le _,rfl,.lit0⟩) (fun g B5 hle5 hI=>?_))))))))))
 obtain ⟨hk,he,htl,hxs,hv⟩:=hI
 have hxn:g.xs.length≤g.k:=by rw [hxs];exact Nat.le_trans (Zh0 _ _ _) (by rw [List.length_take];omega)
 replace hq:=hq.mono Zj.mono hle5
 refine ZP [(0,_),(1,_),(2,_),(3,_),(6,_),(7,_),(8,_),(9,_),(10,_),(11,_),(12,_)] [_,_,_,_] t11 rfl (Zk (Za (xM (h:=xW ZaM (h:=x1 ZfP 0 (h:=xV Tryz.underlying25 (h:=Zae (h:=Zc rfl (fun g1=>?_) (fun g1=>?_)))))))))
 try simp only [sQ,ne_eq] at g1
 refine Zh (Zf (Zk (Zo (Za (xW ZaM (h:=x1 ZfP 0 (h:=xM (h:=?_))))))))
 obtain ⟨x,hx⟩:=Zan (xs:=q.items) (i:=g.k) om
 obtain ⟨bb7,oo7,rfl⟩:=hq.base hx
 obtain ⟨_,⟨qi8,ci8,rfl,hi8,hb8,hb8b⟩,hc8⟩:=hq.elem hx
 have hi8n:=hi8.len
 refine xIx Tryz.underlying25 ZeA (h:=yL [_,_,_,_] Zl3 hc8 0 (h:=xAl [_,_,_,_] Zi3 (h:=fun b9=>xS [_,_,_,_] 4 [_,_,_,_] ZeA (h:=Zw [_,_,_,_,_] rfl (Za (xBs [] [] Tryz.underlying67 sz9 zo9 (h:=fun b10=>xW ZbM (h:=x1 ZhA 4 (h:=Zp (ZaV (R:=Zba) 5 rfl (Z4.lit0 (R:=Zba)) rfl rfl rfl Zo1 ZoZ rfl rfl rfl hi8.rows Zba.one rfl om (fun l11 p11 c11 hv11=>?_)))))))))))
 refine xW ZbM (h:=xS [_] 4 [_,_,_,_] ZuM (h:=Zw [_,_,_,_,_,_] rfl (Zk (Zo7 5 rfl hv11 Zba.any om3 hle5 (fun B12 hle12 hr12f=>?_)))))
 have hr12:=hr12f.mono Zba.mono Kn.less_le
 replace hq:=hq.mono Zj.mono hle12
 replace hv:=hv.mono Zj.mono (Kn.less_mono hle12)
 have hr12n:=hr12.len
 refine Za (xW Ze2 (h:=x1 lk3 4 (h:=xM (h:=ZJ (h:=xM (h:=Zt (d:=39) rfl (fun g2=>?_) (fun g2=>?_)))))))
 try simp only [sQ,ne_eq] at g2
 refine xW ZbM (h:=x1 ZhA 4 (h:=xM (h:=xR Zvi rfl (Znw _ _ _ _ _ hr12) (h:=xT (h:=Zw [_,_,_,_,_,_] rfl (Zc rfl (fun g3=>?_) (fun g3=>?_)))))))
 try simp only [sQ,ne_eq] at g3
 have hwl:=ZhP x.left u
 refine Za (xA (h:=Za (xW Zqv (h:=x1 lk9 4 (h:=xA (h:=Zd (xW ZbM (h:=x1 ZhA 4 (h:=xM (h:=Zp (Zac rfl rfl Zwx rfl (Zlv _ _ _ _ _ hr12) ?_)))))))))))
 intro v14 B14 hle14
 rintro ⟨a14,c14,rfl,hw14f⟩
 replace hq:=hq.mono Zj.mono hle14
 replace hr12:=hr12.mono Zba.mono hle14
 replace hr12f:=hr12f.mono Zba.mono (Kn.less_mono hle14)
 replace hv:=hv.mono Zj.mono (Kn.less_mono hle14)
 replace hw14f:=hw14f.mono Zba.mono (Kn.less_up (hle5.trans hle12) (Kn.le.refl _))
 have hw14:=hw14f.mono Zba.mono Kn.less_le
 refine xW ZbM (h:=xS [_] 4 [_,_,_,_] ZuM (h:=Zf (Za (xW ZbM (h:=x1 ZhA 4 (h:=xV Tryz.underlying67 (h:=Zbx (h:=Zw [_,_,_,_,_,_] rfl (Zc rfl (fun g4=>?_) (fun g4=>?_))))))))))
 try simp only [sQ,ne_eq] at g4
 refine Zd (xW ZaM (h:=x1 ZfP 3 (h:=xL [_,_,_,_] Zl3 4 (h:=xBs [(0,_)] [_,_,_,_] Tryz.underlying25 ZeA Zi3 (h:=fun b15=>Zp (ZaK (z:=⟨x.id,x.fr,x.text,(without x.left u)⟩) (R:=Zj) 2 rfl hv rfl rfl rfl Zu8 ZuR rfl rfl (ZaI.box 6 rfl) rfl rfl (⟨_,_,rfl,hw14f,by first | assumption | omega | (simp;done) | (simp;omega),by first | assumption | omega | (simp;done) | (simp;omega)⟩) om (fun l16 p16 c16 hv16=>?_)))))))
 refine xW ZaM (h:=xS [_] 3 [_,_] ZuN (h:=Zy (Zf (Zd (xM (h:=xD (h:=xA (h:=?_))))))))
 exact ZA ⟨g.k+1,0,l16,p16,c16,(g.xs ++ [⟨x.id,x.fr,x.text,(without x.left u)⟩]),(x.text,true)⟩ [0,1,2,3] so2 ⟨so,by simp only [];rw [Zk2 hx g2 g3],by simp only [];first | assumption | omega,by simp only [];rw [hxs,Zh1 hx (ZeI g2 g3) (by simpa using g4)],hv16⟩ t11 rfl
 try simp only [sQ,ne_eq] at g4
 refine Zh (Zy (Zf (Zd (xM (h:=xD (h:=xA (h:=?_)))))))
 exact ZA ⟨g.k+1,0,g.l,g.a,g.c,g.xs,(x.text,true)⟩ [0,1,2,3] so2 ⟨so,by simp only [];rw [Zk2 hx g2 g3],by simp only [];first | assumption | omega,by simp only [];rw [hxs,Zgy hx (ZeI g2 g3) (by simpa using g4)],hv⟩ t11 rfl
 try simp only [sQ,ne_eq] at g3
 refine Zh (Zf (Za (xW ZbM (h:=x1 ZhA 4 (h:=xV Tryz.underlying67 (h:=Zbx (h:=Zc rfl (fun g4=>?_) (fun g4=>?_))))))))
 try simp only [sQ,ne_eq] at g4
 refine Zd (xW ZaM (h:=x1 ZfP 3 (h:=xL [_,_,_,_] Zl3 4 (h:=xBs [(0,_)] [_,_,_,_] Tryz.underlying25 ZeA Zi3 (h:=fun b17=>Zp (ZaK (z:=⟨x.id,x.fr,x.text,x.left⟩) (R:=Zj) 2 rfl hv rfl rfl rfl Zu8 ZuR rfl rfl (ZaI.box 6 rfl) rfl rfl (⟨_,_,rfl,hr12f,by first | assumption | omega | (simp;done) | (simp;omega),by first | assumption | omega | (simp;done) | (simp;omega)⟩) om (fun l18 p18 c18 hv18=>?_)))))))
 refine xW ZaM (h:=xS [_] 3 [_,_] ZuN (h:=Zy (Zf (Zd (xM (h:=xD (h:=xA (h:=?_))))))))
 exact ZA ⟨g.k+1,0,l18,p18,c18,(g.xs ++ [⟨x.id,x.fr,x.text,x.left⟩]),g.e⟩ [0,1,2,3] so2 ⟨so,by simp only [];rw [Zk0 hx g3];exact he,by simp only [];first | assumption | omega,by simp only [];rw [hxs,Zh1 hx (Zg6 g3) (by simpa using g4)],hv18⟩ t11 rfl
 try simp only [sQ,ne_eq] at g4
 refine Zh (Zy (Zf (Zd (xM (h:=xD (h:=xA (h:=?_)))))))
 exact ZA ⟨g.k+1,0,g.l,g.a,g.c,g.xs,g.e⟩ [0,1,2,3] so2 ⟨so,by simp only [];rw [Zk0 hx g3];exact he,by simp only [];first | assumption | omega,by simp only [];rw [hxs,Zgy hx (Zg6 g3) (by simpa using g4)],hv⟩ t11 rfl
 try simp only [sQ,ne_eq] at g2
 refine xP (h:=xP (h:=xP (h:=xP (h:=xF (h:=Zw [_,_,_,_,_,_] rfl (Zc (t:=false) rfl (fun h=>Bool.noConfusion h) (fun _=>Zh (Zf (Za (xW ZbM (h:=x1 ZhA 4 (h:=xV Tryz.underlying67 (h:=?_)))))))))))))
 refine Zbx (h:=Zc rfl (fun g3=>?_) (fun g3=>?_))
 try simp only [sQ,ne_eq] at g3
 refine Zd (xW ZaM (h:=x1 ZfP 3 (h:=xL [_,_,_,_] Zl3 4 (h:=xBs [(0,_)] [_,_,_,_] Tryz.underlying25 ZeA Zi3 (h:=fun b19=>Zp (ZaK (z:=⟨x.id,x.fr,x.text,x.left⟩) (R:=Zj) 2 rfl hv rfl rfl rfl Zu8 ZuR rfl rfl (ZaI.box 6 rfl) rfl rfl (⟨_,_,rfl,hr12f,by first | assumption | omega | (simp;done) | (simp;omega),by first | assumption | omega | (simp;done) | (simp;omega)⟩) om (fun l20 p20 c20 hv20=>?_)))))))
 refine xW ZaM (h:=xS [_] 3 [_,_] ZuN (h:=Zy (Zf (Zd (xM (h:=xD (h:=xA (h:=?_))))))))
 exact ZA ⟨g.k+1,0,l20,p20,c20,(g.xs ++ [⟨x.id,x.fr,x.text,x.left⟩]),g.e⟩ [0,1,2,3] so2 ⟨so,by simp only [];rw [Zk1 hx g2];exact he,by simp only [];first | assumption | omega,by simp only [];rw [hxs,Zh1 hx (Zg7 g2) (by simpa using g3)],hv20⟩ t11 rfl
 try simp only [sQ,ne_eq] at g3
 refine Zh (Zy (Zf (Zd (xM (h:=xD (h:=xA (h:=?_)))))))
 exact ZA ⟨g.k+1,0,g.l,g.a,g.c,g.xs,g.e⟩ [0,1,2,3] so2 ⟨so,by simp only [];rw [Zk1 hx g2];exact he,by simp only [];first | assumption | omega,by simp only [];rw [hxs,Zgy hx (Zg7 g2) (by simpa using g3)],hv⟩ t11 rfl
 try simp only [sQ,ne_eq] at g1
 have hkl:q.items.take g.k=q.items:=List.take_of_length_le oz
 rw [hkl] at he hxs
 refine ZU (Zad (ZV (ZF (Zf (Za (xL [_,_] Zel 3 (h:=xM (h:=xM (h:=xS [_,_] 1 [_,_] Zf0 (h:=xA (h:=xA (h:=Zw [_,_,_,_] rfl (Zi ?_)))))))))))))
 exact Zag .ret (.inl rfl) [_,_,_] [2] rfl ⟨⟨_,rfl,.inr ⟨[_,_],Zel,Zaj 1 rfl rfl rfl,rfl⟩⟩,rfl,rfl,trivial⟩ ⟨_,_,_,rfl,by simp only [Zb9,← he,← hxs];rfl,by simp only [Zb9,← hxs];exact hv,by simp only [Zb9,← he];exact htl⟩

set_option maxHeartbeats 400000 in
theorem Zjr (aq:Option Addr) (cq:Nat) (q:DQueue) (id:Int) (u:Str) (B:Kn) (hq:SlK B aq cq 4 Zj q.items):ZN (pj J) 140 [.agg #[.int .i64 q.next,.slice aq q.items.length cq],.int .i64 id,str u] B [] (fun v B' Ls=>(∃l a cp,Ls=[l]∧v = .tuple #[.agg #[.int .i64 (Zc3 q id u).1.next,.slice a (Zc3 q id u).1.items.length cp],str (Zc3 q id u).2.1,.bool (Zc3 q id u).2.2]∧Z4 (B'.less B) l a cp 69 4 Zj (Zc3 q id u).1.items∧(Zc3 q id u).2.1.length≤2000000)):=by
 refine Ze 20 Tryz.func140 rfl rfl rfl (Nat.le_of_ble_eq_true rfl) ?_
 refine Za (xBx [_,_] (h:=fun b1=>xAl [_,_] Zi6 (h:=fun b2=>xA (h:=xA (h:=Zw [_,_] rfl (Zk (Za (xL [_,_] Zel 0 (h:=xR Zwl rfl (ZfF _ _ q _ hq) (h:=xN (h:=Zc rfl (fun g1=>?_) (fun g1=>?_))))))))))))
 try simp only [sQ,ne_eq] at g1
 refine Za (xB [] [_,_] [_,_] Zts Zi6 (h:=xS [_,_] 1 [_,_] Zf0 (h:=xA (h:=xA (h:=Zw [_,_] rfl (Zi (Zs ?_)))))))
 have he:Zc3 q id u=(⟨0,[]⟩,[],false):=by simp [Zc3,g1]
 exact Zt6 .ret (.inl rfl) [_,_,_] ⟨⟨_,rfl,.inr ⟨[_,_],Zel,Zaj 1 rfl rfl rfl,rfl⟩⟩,rfl,rfl,trivial⟩ ⟨_,none,0,rfl,by rw [he];rfl,by rw [he];exact Z4.nil,by rw [he];exact Nat.zero_le _⟩
 try simp only [sQ,ne_eq] at g1
 refine Zh (Zf (Za (xL [_,_] Zel 0 (h:=xM (h:=xM (h:=Zp (Zaf rfl rfl Zvc rfl (Zlw _ _ q id u _ hq) ?_)))))))
 rintro _ Bk _ hlek ⟨lk,ak,ck,rfl,rfl,hvk,htk⟩
 replace hq:=hq.mono Zj.mono hlek
 replace hvk:=hvk.mono Zj.mono (Kn.less_up (Kn.le.refl _) (Kn.le.refl _))
 refine xE (h:=xE (h:=xE (h:=xS [_,_] 1 [_,_] Zf0 (h:=xA (h:=xA (h:=Zw [_,_,_] rfl (Zi ?_)))))))
 have he:Zc3 q id u=Zb9 q id u:=by simp [Zc3,g1]
 exact Zag .ret (.inl rfl) [_,_,_] [2] rfl ⟨⟨_,rfl,.inr ⟨[_,_],Zel,Zaj 1 rfl rfl rfl,rfl⟩⟩,rfl,rfl,trivial⟩ ⟨_,_,_,rfl,by rw [he];rfl,by rw [he];exact hvk,by rw [he];exact htk⟩

set_option maxHeartbeats 400000 in
theorem Zip (b:Nat) (q:Option Addr) (m cp p:Nat) (hp:p≤850000000000) (hm:m≤2000) (B:Kn) (hbm:Zai B q m):ZN (pj J) 139 [ptr ⟨b,0,none⟩] B [rd b q m cp p] (fun v B' Ls=>∃(qx:Option Addr) (cx:Nat) (x:DLetter) (p':Nat),v = .agg #[str x.fr,.slice qx x.to_.length cx,str x.text]∧SlK B' qx cx 1 Zba x.to_∧x.fr.length≤40∧x.text.length≤40∧x.to_.length≤6∧p'≤p+20∧Ls=[rd b q m cp p']):=by
 refine Ze 19 Tryz.func139 rfl rfl rfl (Nat.le_of_ble_eq_true rfl) ?_
 refine Za (xAl [_,_,_] Zuq (h:=fun b1=>Zw [_,_] rfl (Za (xM (h:=xBs [(0,_),(1,_),(2,_)] [_,_,_] Tryz.underlying67 sz9 zo9 (h:=fun b2=>Zp (Zab [0,2] rfl rfl rfl rfl ZnI rfl (ZpO _ _ _ _ _ _ ([[97,109,121],[98,111,98],[99,121,100]]:List Str) oz (by decide) (by decide) hm _ hbm) ?_)))))))
 rintro _ _ _ hle3 ⟨rfl,x3,hx3,rfl,rfl⟩
 replace hx3:=(show∀y∈( ([[97,109,121],[98,111,98],[99,121,100]]:List Str):List Str),y.length≤40 from by decide) _ hx3
 refine xM (h:=Zp (Zab [0] rfl rfl rfl rfl ZwH rfl (ZtJ _ _ _ _ _ oz hm _ hbm) ?_))
 rintro _ B4 _ hle4 ⟨q4,cp4,xs4,p4,rfl,ht4,htn4,hp4,rfl⟩
 replace hbm:=hbm.mono hle4
 refine xM (h:=xX 0 rfl ZqI rfl (ZeW _ _ _ _ _ oz hm _ hbm) (h:=?_))
 rintro _ _ ⟨x5,rfl,hx5,rfl⟩
 refine xB [(0,_),(1,_),(2,_)] [_,_,_] [_,_,_] ZvC Zuq (h:=xAl [_,_,_] Zuq (h:=fun b6=>xS [_,_,_] 3 [_,_,_] Zv0 (h:=Zw [_,_,_,_] rfl (Zk (Za (xM (h:=xX 0 rfl Za0 rfl (ZO _ _ _ _ _ _ oz oz oz hm _ hbm) (h:=?_))))))))
 rintro _ _ ⟨r7,rfl,r7a,r7b,rfl⟩
 refine ZJ (h:=Zw [_,_,_,_] rfl (Zc rfl (fun g1=>?_) (fun g1=>?_)))
 try simp only [sQ,ne_eq] at g1
 refine Zd (xM (h:=xX 0 rfl Zsk rfl (Zcz _ _ _ _ _ oz hm _ hbm) (h:=?_)))
 rintro _ _ ⟨x8,rfl,hx8,rfl⟩
 refine xW ZlG (h:=xS [_] 3 [_,_,_] sz9 (h:=Zf (Za (xL [_,_,_] ZtG 3 (h:=xS [_,_,_] 1 [_,_,_] Zv0 (h:=Zw [_,_,_,_] rfl (Zi ?_)))))))
 exact Zag .ret (.inl rfl) [_] [0] rfl ⟨⟨_,rfl,.inr ⟨[_,_,_],ZtG,Zaj 1 rfl rfl rfl,rfl⟩⟩,trivial⟩ ⟨_,_,⟨x8,xs4,x5⟩,_,rfl,ht4,so2,so2,so2,oz,rfl⟩
 try simp only [sQ,ne_eq] at g1
 refine Zh (Zf (Za (xL [_,_,_] ZtG 3 (h:=xS [_,_,_] 1 [_,_,_] Zv0 (h:=Zw [_,_,_,_] rfl (Zi ?_))))))
 exact Zag .ret (.inl rfl) [_] [0] rfl ⟨⟨_,rfl,.inr ⟨[_,_,_],ZtG,Zaj 1 rfl rfl rfl,rfl⟩⟩,trivial⟩ ⟨_,_,⟨x3,xs4,x5⟩,_,rfl,ht4,so2,so2,so2,oz,rfl⟩

set_option maxHeartbeats 400000 in
theorem Zou (b:Nat) (q:Option Addr) (m cp p:Nat) (hp:p≤800000000000) (hm:m≤2000) (B:Kn) (hbm:Zai B q m):ZN (pj J) 97 [ptr ⟨b,0,none⟩] B [rd b q m cp p] (fun v B' Ls=>∃(aq:Option Addr) (cq:Nat) (qq:DQueue) (p':Nat),v = .agg #[.int .i64 qq.next,.slice aq qq.items.length cq]∧SlK B' aq cq 4 Zj qq.items∧p'≤p+1000∧Ls=[rd b q m cp p']):=by
 refine Ze 84 Tryz.func97 rfl rfl rfl (Nat.le_of_ble_eq_true rfl) ?_
 refine Za (xAl [_,_] Zi6 (h:=fun b1=>Zw [_,_] rfl (Za (xM (h:=xX 0 rfl Za0 rfl (ZO _ _ _ _ _ _ oz oz oz hm _ hbm) (h:=?_))))))
 rintro _ _ ⟨ra,rfl,raa,rab,rfl⟩
 refine xD (h:=xBs [] [] Tryz.underlying25 ZeA Zi3 (h:=fun b3=>xB [(0,_),(1,_)] [_,_] [_,_] Zts Zi6 (h:=xAl [_,_] Zi6 (h:=fun b4=>xS [_,_] 3 [_,_] Zf0 (h:=Zw [_,_,_,_] rfl (Za (xM (h:=xX 0 rfl Za0 rfl (ZO _ _ _ _ _ _ oz oz oz hm _ hbm) (h:=?_)))))))))
 rintro _ _ ⟨rb,rfl,rba,rbb,rfl⟩
 refine xA (h:=Zw [_,_,_,_] rfl (Zk (Za (xA (h:=Zo (ZR (α:=GQ) [0,2,3,4] (fun g=>[(5,.int .i64 g.k)]) [0,2,3] (fun g=>[rd b q m cp g.p,g.l,Zbm b4 [.int .i64 g.q.next,.slice g.a g.q.items.length g.c] 27]) (fun g Bx=>g.k≤8∧g.p≤p+2+40*g.k∧g.q.items.length≤2000000 - 8+g.k∧Z4 Bx g.l g.a g.c 69 4 Zj g.q.items) (fun g=>8 - g.k) ⟨0,p+2,_,_,_,⟨_,[]⟩⟩ t1 rfl (⟨Nat.zero_le _,Nat.le_refl _,Nat.zero_le _,.lit0⟩) (fun g B6 hle6 hI=>?_)))))))
 obtain ⟨hk,hgp,hgn,hv⟩:=hI
 replace hbm:=hbm.mono hle6
 refine ZP [(0,_),(2,_),(3,_),(4,_),(5,_)] [_,_,_,_] t5 rfl (Zk (Za (xM (h:=xM (h:=Zae (h:=Zc rfl (fun g1=>?_) (fun g1=>?_)))))))
 try simp only [sQ,ne_eq] at g1
 refine Zh (Zf (Zk (Zo (ZkM (α:=GM) [0,2,3,4,5,17] (fun h=>[(6,ptr ⟨h.b,0,none⟩),(7,.bool h.f)]) [0] (fun h=>[rd b q m cp h.p]) (fun h=>[Zbm h.b [.int .i64 h.q.next,.slice h.a h.q.items.length h.c] 27,h.l]) (fun h Bx=>h.p≤g.p+20∧h.q.items.length≤g.q.items.length+1∧Z4 Bx h.l h.a h.c 69 4 Zj h.q.items) ?_ (fun h B7 hle7 hF=>?_)))))
 refine Z7 (keeps _ [3] _) mo kr ⟨Kn.le.refl _,Zat.refl _ _⟩ (fun _ _=>?_)
 refine aT 0 rfl (ZG fun D B L hI=>Z8 [_,_] rfl rfl Zel rfl (Zaj 3 (hI.2.1.trans rfl) rfl rfl) r4) (h:=aM 1 rfl (h:=Zao [2,7] kr kr kr ⟨?_,?_⟩))
 refine (Zab [0] rfl rfl rfl rfl Zvh rfl (Zip _ _ _ _ _ oz hm _ hbm) ?_)
 rintro _ Bu _ hleu ⟨qxu,cxu,xu,pu,rfl,htu,hfu,hwu,htnu,hpu,rfl⟩
 replace hv:=hv.mono Zj.mono hleu
 replace hbm:=hbm.mono hleu
 refine ⟨⟨hleu,t1⟩,(Zao [3,7] kr kr kr ⟨?_,?_⟩)⟩
 refine (Zab [2] rfl rfl rfl rfl Zsn rfl (ZN.borrow fun hmv=>Zgb _ _ g.q _ _ xu _ (hv.lend Zj.mono hmv om) (htu.mono Zba.mono (Kn.le_add _ _)) (by first | assumption | omega | (simp;omega)) (by first | assumption | omega | (simp;omega))) ?_)
 rintro _ Bv _ hlev ⟨BBv,_,rfl,hBv,_,hmv,_,lv,av,cv,rfl,rfl,hvv⟩
 replace htu:=htu.mono Zba.mono hlev
 replace hv:=hv.mono Zj.mono hlev
 replace hbm:=hbm.mono hlev
 replace hvv:=hvv.mono Zj.mono (Kn.less_minus' hmv hBv)
 refine ⟨⟨(hleu.trans hlev),t1⟩,(aM 4 rfl (h:=aE 5 rfl (h:=aE 6 rfl (h:=Zr 7 kr rfl kr (Zar (l:=[_,_]) rfl rfl Zi6 rfl (fun b10=>?_))))))⟩
 refine ⟨⟨(hleu.trans hlev),t1⟩,(Zbu 8 kr rfl kr kr (ZQ [_,_] 5 [_,_] rfl rfl Zf0 rfl rfl rfl rfl rfl rfl rfl rfl ?_))⟩
 refine aA 9 rfl (h:=ZC kr kr ?_)
 exact ZK ⟨_,pu,lv,av,cv,(ZhM g.q xu).1,_⟩ [0,1,2,3,5,4] ⟨hpu,ZhL _ _,hvv⟩ t8 rfl
 refine (Zar (l:=[_,_]) rfl rfl Zi6 rfl (fun b11=>⟨⟨hleu,t1⟩,(Zr 3 kr rfl kr (Zab [2] rfl rfl rfl rfl Zsn rfl (ZN.borrow fun hmv=>Zgb _ _ g.q _ _ xu _ (hv.lend Zj.mono hmv om) (htu.mono Zba.mono (Kn.le_add _ _)) (by first | assumption | omega | (simp;omega)) (by first | assumption | omega | (simp;omega))) ?_))⟩))
 rintro _ Bv _ hlev ⟨BBv,_,rfl,hBv,_,hmv,_,lv,av,cv,rfl,rfl,hvv⟩
 replace htu:=htu.mono Zba.mono hlev
 replace hv:=hv.mono Zj.mono hlev
 replace hbm:=hbm.mono hlev
 replace hvv:=hvv.mono Zj.mono (Kn.less_minus' hmv hBv)
 refine ⟨⟨(hleu.trans hlev),t1⟩,(aM 4 rfl (h:=aE 5 rfl (h:=aE 6 rfl (h:=Zbu 8 kr rfl kr kr (ZQ [_,_] 4 [_,_] rfl rfl Zf0 rfl rfl rfl rfl rfl rfl rfl rfl ?_)))))⟩
 refine aA 9 rfl (h:=ZC kr kr ?_)
 exact ZK ⟨_,pu,lv,av,cv,(ZhM g.q xu).1,_⟩ [0,1,2,3,4,5] ⟨hpu,ZhL _ _,hvv⟩ t8 rfl
 refine (Zar (l:=[_,_]) rfl rfl Zi6 rfl (fun b13=>⟨⟨Kn.le.refl _,t1⟩,(Zr 2 kr rfl kr (Zab [0] rfl rfl rfl rfl Zvh rfl (Zip _ _ _ _ _ oz hm _ hbm) ?_))⟩))
 rintro _ Bu _ hleu ⟨qxu,cxu,xu,pu,rfl,htu,hfu,hwu,htnu,hpu,rfl⟩
 replace hv:=hv.mono Zj.mono hleu
 replace hbm:=hbm.mono hleu
 refine ⟨⟨hleu,t1⟩,(Zr 3 kr rfl kr (Zab [2] rfl rfl rfl rfl Zsn rfl (ZN.borrow fun hmv=>Zgb _ _ g.q _ _ xu _ (hv.lend Zj.mono hmv om) (htu.mono Zba.mono (Kn.le_add _ _)) (by first | assumption | omega | (simp;omega)) (by first | assumption | omega | (simp;omega))) ?_))⟩
 rintro _ Bv _ hlev ⟨BBv,_,rfl,hBv,_,hmv,_,lv,av,cv,rfl,rfl,hvv⟩
 replace htu:=htu.mono Zba.mono hlev
 replace hv:=hv.mono Zj.mono hlev
 replace hbm:=hbm.mono hlev
 replace hvv:=hvv.mono Zj.mono (Kn.less_minus' hmv hBv)
 refine ⟨⟨(hleu.trans hlev),t1⟩,(aM 4 rfl (h:=aE 5 rfl (h:=aE 6 rfl (h:=Zbu 8 kr rfl kr kr (ZQ [_,_] 4 [_,_] rfl rfl Zf0 rfl rfl rfl rfl rfl rfl rfl rfl ?_)))))⟩
 refine aA 9 rfl (h:=ZC kr kr ?_)
 exact ZK ⟨_,pu,lv,av,cv,(ZhM g.q xu).1,_⟩ [0,1,2,3,4,5] ⟨hpu,ZhL _ _,hvv⟩ t8 rfl
 obtain ⟨hhp,hhn,hw⟩:=hF
 replace hv:=hv.mono Zj.mono hle7
 replace hbm:=hbm.mono hle7
 refine ZP [(0,_),(2,_),(3,_),(4,_),(5,_),(6,_),(7,_),(17,_)] [_,_,_,_,_,_] t8 rfl (Zpb (α:=GQ) [0,2,3,4,5,6,7,17] (fun o=>[]) (fun o=>[rd b q m cp o.p,Zbm b1 [.int .i64 0,.slice none 0 0] 27,o.l,Zbm b4 [.int .i64 o.q.next,.slice o.a o.q.items.length o.c] 27]) (fun o Bx=>o.p≤g.p+20∧o.q.items.length≤g.q.items.length+1∧Z4 Bx o.l o.a o.c 69 4 Zj o.q.items) ?_ (fun o B16 hle16 hF=>?_))
 refine Za (xM (h:=Zc rfl (fun g2=>?_) (fun g2=>?_)))
 try simp only [sQ,ne_eq] at g2
 refine Zd (xL [_,_] Zel 4 (h:=xS [_,_] 3 [_,_] Zf0 (h:=?_)))
 exact ZK ⟨0,h.p,h.l,h.a,h.c,h.q⟩ [0,1,5,3] ⟨hhp,hhn,hw⟩ t8 rfl
 try simp only [sQ,ne_eq] at g2
 refine Zh ?_
 exact ZK ⟨0,h.p,g.l,g.a,g.c,g.q⟩ [0,1,2,3] ⟨hhp,so,hv⟩ t8 rfl
 clear hv
 obtain ⟨hop,hon,hv⟩:=hF
 replace hbm:=hbm.mono hle16
 refine ZP [(0,_),(2,_),(3,_),(4,_),(5,_),(6,_),(7,_),(17,_)] [_,_,_,_] t8 rfl (Za (xW ZaM (h:=x1 ZfP 3 (h:=xV Tryz.underlying25 (h:=Zbx (h:=xM (h:=Zt (d:=33) rfl (fun g3=>?_) (fun g3=>?_))))))))
 try simp only [sQ,ne_eq] at g3
 refine xM (h:=xX 0 rfl Za0 rfl (ZO _ _ _ _ _ _ oz oz oz hm _ hbm) (h:=?_))
 rintro _ _ ⟨r17,rfl,r17a,r17b,rfl⟩
 refine ZJ (h:=xT (h:=Zw [_,_,_,_] rfl (Zc rfl (fun g4=>?_) (fun g4=>?_))))
 try simp only [sQ,ne_eq] at g4
 refine Z7 (keeps _ [2,3] _) mo kr ⟨Kn.le.refl _,Zat.refl _ _⟩ (fun _ _=>?_)
 refine aT 0 rfl (ZG fun D B L hI=>Z8 [_,_] rfl rfl Zel rfl (Zaj 3 (hI.2.2.1.trans rfl) rfl rfl) r4) (h:=aW 1 rfl ZaM (h:=aT 2 rfl (ZG fun D B L hI=>Zl rfl rfl ZfP rfl (atL 3 (hI.2.2.1.trans rfl) rfl rfl) r4) (h:=aM 3 rfl (h:=aW 4 rfl ZaM (h:=aT 5 rfl (ZG fun D B L hI=>Zl rfl rfl ZfP rfl (atL 3 (hI.2.2.1.trans rfl) rfl rfl) r4) (h:=aV 6 rfl Tryz.underlying25 (h:=aM 11 rfl (h:=Zao [7,12] kr kr kr ⟨?_,?_⟩))))))))
 refine (Zci 0 rfl rfl rfl Za0 rfl (ZO _ _ _ _ _ _ oz oz oz hm _ hbm) ?_)
 rintro _ _ ⟨r18,rfl,r18a,r18b,rfl⟩
 refine ⟨⟨Kn.le.refl _,t2⟩,?_⟩
 obtain ⟨z19,hz19⟩:=Zex (xs:=o.q.items) (i:=r18) om om
 obtain ⟨bb20,_,hp20,⟨qi20,ci20,rfl,hi20,hb20,hb20b⟩,hw20,hc20⟩:=hv.row hz19
 have hi20n:=hi20.len
 refine aT 8 rfl (ZG fun D B L hI=>Zf4 hp20 rfl rfl Tryz.underlying25 ZeA rfl rfl om om r4) (h:=?_)
 refine aW 9 rfl Ze2 (h:=aT 10 rfl (ZG fun D B L hI=>Zl rfl rfl lk3 rfl (hc20 _ 2 (hI.2.1.trans rfl) 0 _ rfl) r4) (h:=Zr 12 kr rfl kr (Zu (parts:=[(0,_),(1,_),(2,_)]) [_,_,_] rfl rfl Tryz.underlying67 sz9 zo9 rfl rfl rfl rfl rfl (fun b21=>?_))))
 refine ⟨⟨Kn.le.refl _,t2⟩,(Zr 13 kr rfl kr (Zab [0,4] rfl rfl rfl rfl ZnI rfl (ZpO _ _ _ _ _ _ ([[97,109,121],[98,111,98],[99,121,100]]:List Str) oz (by decide) (by decide) hm _ hbm) ?_))⟩
 rintro _ _ _ hlew ⟨rfl,xw,hxw,rfl,rfl⟩
 replace hxw:=(show∀y∈( ([[97,109,121],[98,111,98],[99,121,100]]:List Str):List Str),y.length≤40 from by decide) _ hxw
 refine ⟨⟨Kn.le.refl _,t2⟩,(Zr 14 kr rfl kr (Zab [2] rfl rfl rfl rfl Zvg rfl (ZN.borrow fun hm23=>Zjr _ _ o.q z19.id xw _ (hv.lend Zj.mono hm23 om)) ?_))⟩
 rintro _ B23 _ hle23 ⟨BB23,_,rfl,hB23,_,hm23,_,l23,a23,c23,rfl,rfl,hv23,ht23⟩
 replace hi20:=hi20.mono Zba.mono hle23
 replace hv:=hv.mono Zj.mono hle23
 replace hbm:=hbm.mono hle23
 replace hv23:=hv23.mono Zj.mono (Kn.less_minus' hm23 hB23)
 refine ⟨⟨hle23,t2⟩,(aM 15 rfl (h:=aE 16 rfl (h:=aE 17 rfl (h:=aE 18 rfl (h:=Zbu 19 kr rfl kr kr (ZQ [_,_] 3 [_,_] rfl rfl Zf0 rfl rfl rfl rfl rfl rfl rfl rfl ?_))))))⟩
 refine ZC kr kr ?_
 refine Zy (Zf (Zd (xM (h:=xD (h:=xA (h:=?_))))))
 exact ZA ⟨g.k+1,(((o.p+1)+1)+1),l23,a23,c23,((Zc3 o.q z19.id xw).1)⟩ [0,1,5,3] so2 ⟨so,so,Nat.le_trans (Zld _ _ _) (so),hv23⟩ t5 rfl
 refine (Zu (parts:=[(0,_),(1,_),(2,_)]) [_,_,_] rfl rfl Tryz.underlying67 sz9 zo9 rfl rfl rfl rfl rfl (fun b24=>⟨⟨Kn.le.refl _,t2⟩,(Zr 7 kr rfl kr (Zci 0 rfl rfl rfl Za0 rfl (ZO _ _ _ _ _ _ oz oz oz hm _ hbm) ?_))⟩))
 rintro _ _ ⟨r25,rfl,r25a,r25b,rfl⟩
 refine ⟨⟨Kn.le.refl _,t2⟩,?_⟩
 obtain ⟨z26,hz26⟩:=Zex (xs:=o.q.items) (i:=r25) om om
 obtain ⟨bb27,_,hp27,⟨qi27,ci27,rfl,hi27,hb27,hb27b⟩,hw27,hc27⟩:=hv.row hz26
 have hi27n:=hi27.len
 refine aT 8 rfl (ZG fun D B L hI=>Zf4 hp27 rfl rfl Tryz.underlying25 ZeA rfl rfl om om r4) (h:=?_)
 refine aW 9 rfl Ze2 (h:=aT 10 rfl (ZG fun D B L hI=>Zl rfl rfl lk3 rfl (hc27 _ 2 (hI.2.1.trans rfl) 0 _ rfl) r4) (h:=Zr 13 kr rfl kr (Zab [0,4] rfl rfl rfl rfl ZnI rfl (ZpO _ _ _ _ _ _ ([[97,109,121],[98,111,98],[99,121,100]]:List Str) oz (by decide) (by decide) hm _ hbm) ?_)))
 rintro _ _ _ hlew ⟨rfl,xw,hxw,rfl,rfl⟩
 replace hxw:=(show∀y∈( ([[97,109,121],[98,111,98],[99,121,100]]:List Str):List Str),y.length≤40 from by decide) _ hxw
 refine ⟨⟨Kn.le.refl _,t2⟩,(Zr 14 kr rfl kr (Zab [2] rfl rfl rfl rfl Zvg rfl (ZN.borrow fun hm29=>Zjr _ _ o.q z26.id xw _ (hv.lend Zj.mono hm29 om)) ?_))⟩
 rintro _ B29 _ hle29 ⟨BB29,_,rfl,hB29,_,hm29,_,l29,a29,c29,rfl,rfl,hv29,ht29⟩
 replace hi27:=hi27.mono Zba.mono hle29
 replace hv:=hv.mono Zj.mono hle29
 replace hbm:=hbm.mono hle29
 replace hv29:=hv29.mono Zj.mono (Kn.less_minus' hm29 hB29)
 refine ⟨⟨hle29,t2⟩,(aM 15 rfl (h:=aE 16 rfl (h:=aE 17 rfl (h:=aE 18 rfl (h:=Zbu 19 kr rfl kr kr (ZQ [_,_] 3 [_,_] rfl rfl Zf0 rfl rfl rfl rfl rfl rfl rfl rfl ?_))))))⟩
 refine ZC kr kr ?_
 refine Zy (Zf (Zd (xM (h:=xD (h:=xA (h:=?_))))))
 exact ZA ⟨g.k+1,(((o.p+1)+1)+1),l29,a29,c29,((Zc3 o.q z26.id xw).1)⟩ [0,1,5,3] so2 ⟨so,so,Nat.le_trans (Zld _ _ _) (so),hv29⟩ t5 rfl
 try simp only [sQ,ne_eq] at g4
 refine Zh (Zy (Zf (Zd (xM (h:=xD (h:=xA (h:=?_)))))))
 exact ZA ⟨g.k+1,(o.p+1),o.l,o.a,o.c,o.q⟩ [0,1,2,3] so2 ⟨so,so,so,hv⟩ t5 rfl
 try simp only [sQ,ne_eq] at g3
 refine xP (h:=xP (h:=xP (h:=xF (h:=Zc (t:=false) rfl (fun h=>Bool.noConfusion h) (fun _=>Zh (Zy (Zf (Zd (xM (h:=xD (h:=xA (h:=?_))))))))))))
 exact ZA ⟨g.k+1,o.p,o.l,o.a,o.c,o.q⟩ [0,1,2,3] so2 ⟨so,so,so,hv⟩ t5 rfl
 try simp only [sQ,ne_eq] at g1
 refine ZU (Zad (ZV (ZF (Zf (Zk (Za (xM (h:=xX 0 rfl Za0 rfl (ZO _ _ _ _ _ _ oz oz oz hm _ hbm) (h:=?_)))))))))
 rintro _ _ ⟨r30,rfl,r30a,r30b,rfl⟩
 refine Zw [_,_,_,_] rfl (Zo (Za (ZJ (h:=xA (h:=Zc rfl (fun g2=>?_) (fun g2=>?_))))))
 try simp only [sQ,ne_eq] at g2
 refine Zd (xBs [(0,_),(1,_),(2,_),(3,_),(4,_)] [_,_,_,_,_] Tryz.underlying147 sz3 zo3 (h:=fun b31=>ZY 4 rfl (Z4.ints (ls:=([0,1,99,100,101]:List Int))) ZbE.mono om3 (fun B32 hle32 hr32=>?_)))
 replace hv:=hv.mono Zj.mono hle32
 replace hbm:=hbm.mono hle32
 have hr32n:=hr32.len
 refine xM (h:=xX 0 rfl Za0 rfl (ZO _ _ _ _ _ _ oz oz oz hm _ hbm) (h:=?_))
 rintro _ _ ⟨r33,rfl,r33a,r33b,rfl⟩
 obtain ⟨z34,hz34⟩:=Zex (xs:=([0,1,99,100,101]:List Int)) (i:=r33) om om
 obtain ⟨_,rfl,hc35⟩:=hr32.elem hz34
 refine xIx Tryz.underlying147 sz3 (h:=y1 lk3 hc35 0 (h:=xW Ze3 (h:=xS [_] 3 [_,_] sz3 (h:=Zy (Zf (ZdD 2 rfl hv Zj.mono om3 (fun B36 hle36 hr36=>?_)))))))
 replace hr32:=hr32.mono ZbE.mono hle36
 replace hc35:=hc35.mono hle36
 replace hbm:=hbm.mono hle36
 have hr36n:=hr36.len
 refine Za (xL [_,_] Zel 3 (h:=xS [_,_] 1 [_,_] Zf0 (h:=Zw [_,_,_,_,_] rfl (Zi ?_))))
 exact Zag .ret (.inl rfl) [_] [0] rfl ⟨⟨_,rfl,.inr ⟨[_,_],Zel,Zaj 1 rfl rfl rfl,rfl⟩⟩,trivial⟩ ⟨_,_,⟨z34,g.q.items⟩,_,(ol),hr36,oz,rfl⟩
 try simp only [sQ,ne_eq] at g2
 refine Za (ZJ (h:=xA (h:=Zc rfl (fun g3=>?_) (fun g3=>?_))))
 try simp only [sQ,ne_eq] at g3
 refine Za (xW ZaM (h:=x1 ZfP 3 (h:=xV Tryz.underlying25 (h:=Zbx (h:=Zc rfl (fun g4=>?_) (fun g4=>?_))))))
 try simp only [sQ,ne_eq] at g4
 refine Z7 (keeps _ [2,3] _) mo kr ⟨Kn.le.refl _,Zat.refl _ _⟩ (fun _ _=>?_)
 refine aW 0 rfl ZaM (h:=aT 1 rfl (ZG fun D B L hI=>Zl rfl rfl ZfP rfl (atL 3 (hI.2.2.1.trans rfl) rfl rfl) r4) (h:=aM 2 rfl (h:=aW 3 rfl ZaM (h:=aT 4 rfl (ZG fun D B L hI=>Zl rfl rfl ZfP rfl (atL 3 (hI.2.2.1.trans rfl) rfl rfl) r4) (h:=aV 5 rfl Tryz.underlying25 (h:=Zao [6,7] kr kr kr ⟨?_,?_⟩))))))
 refine (Zci 0 rfl rfl rfl Za0 rfl (ZO _ _ _ _ _ _ oz oz oz hm _ hbm) ?_)
 rintro _ _ ⟨r37,rfl,r37a,r37b,rfl⟩
 refine ⟨⟨Kn.le.refl _,t2⟩,(Zr 7 kr rfl kr (Zu (parts:=[]) [] rfl rfl Tryz.underlying67 sz9 zo9 rfl rfl rfl rfl rfl (fun b38=>?_)))⟩
 refine ⟨⟨Kn.le.refl _,t2⟩,?_⟩
 obtain ⟨z39,hz39⟩:=Zex (xs:=g.q.items) (i:=r37) om om
 obtain ⟨bb40,_,hp40,⟨qi40,ci40,rfl,hi40,hb40,hb40b⟩,hw40,hc40⟩:=hv.row hz39
 have hi40n:=hi40.len
 refine aT 8 rfl (ZG fun D B L hI=>Zf4 hp40 rfl rfl Tryz.underlying25 ZeA rfl rfl om om r4) (h:=?_)
 refine aW 9 rfl ZbM (h:=Z0 10 kr rfl kr kr kr (Zee (k:=(r37).toNat) (off:=3) (⟨z39.id,z39.fr,z39.text,[]⟩) [_] 2 hv hp40 hz39 rfl rfl ZuM rfl rfl rfl rfl rfl rfl (by rintro _ ⟨_,_,rfl,_,e1,e2⟩;exact ⟨_,_,rfl,SlK.nil,e1,e2⟩) (fun l41 hv41=>?_)))
 refine Zy (Zf (ZdD 2 rfl hv41 Zj.mono om3 (fun B42 hle42 hr42=>?_)))
 replace hi40:=hi40.mono Zba.mono hle42
 replace hbm:=hbm.mono hle42
 have hr42n:=hr42.len
 refine Za (xL [_,_] Zel 3 (h:=xS [_,_] 1 [_,_] Zf0 (h:=Zw [_,_,_,_,_] rfl (Zi ?_))))
 exact Zag .ret (.inl rfl) [_] [0] rfl ⟨⟨_,rfl,.inr ⟨[_,_],Zel,Zaj 1 rfl rfl rfl,rfl⟩⟩,trivial⟩ ⟨_,_,⟨g.q.next,(g.q.items.set ((r37).toNat) (⟨z39.id,z39.fr,z39.text,[]⟩))⟩,_,(ol),hr42,oz,rfl⟩
 refine (Zu (parts:=[]) [] rfl rfl Tryz.underlying67 sz9 zo9 rfl rfl rfl rfl rfl (fun b43=>⟨⟨Kn.le.refl _,t2⟩,(Zr 6 kr rfl kr (Zci 0 rfl rfl rfl Za0 rfl (ZO _ _ _ _ _ _ oz oz oz hm _ hbm) ?_))⟩))
 rintro _ _ ⟨r44,rfl,r44a,r44b,rfl⟩
 refine ⟨⟨Kn.le.refl _,t2⟩,?_⟩
 obtain ⟨z45,hz45⟩:=Zex (xs:=g.q.items) (i:=r44) om om
 obtain ⟨bb46,_,hp46,⟨qi46,ci46,rfl,hi46,hb46,hb46b⟩,hw46,hc46⟩:=hv.row hz45
 have hi46n:=hi46.len
 refine aT 8 rfl (ZG fun D B L hI=>Zf4 hp46 rfl rfl Tryz.underlying25 ZeA rfl rfl om om r4) (h:=?_)
 refine aW 9 rfl ZbM (h:=Z0 10 kr rfl kr kr kr (Zee (k:=(r44).toNat) (off:=3) (⟨z45.id,z45.fr,z45.text,[]⟩) [_] 2 hv hp46 hz45 rfl rfl ZuM rfl rfl rfl rfl rfl rfl (by rintro _ ⟨_,_,rfl,_,e1,e2⟩;exact ⟨_,_,rfl,SlK.nil,e1,e2⟩) (fun l47 hv47=>?_)))
 refine Zy (Zf (ZdD 2 rfl hv47 Zj.mono om3 (fun B48 hle48 hr48=>?_)))
 replace hi46:=hi46.mono Zba.mono hle48
 replace hbm:=hbm.mono hle48
 have hr48n:=hr48.len
 refine Za (xL [_,_] Zel 3 (h:=xS [_,_] 1 [_,_] Zf0 (h:=Zw [_,_,_,_,_] rfl (Zi ?_))))
 exact Zag .ret (.inl rfl) [_] [0] rfl ⟨⟨_,rfl,.inr ⟨[_,_],Zel,Zaj 1 rfl rfl rfl,rfl⟩⟩,trivial⟩ ⟨_,_,⟨g.q.next,(g.q.items.set ((r44).toNat) (⟨z45.id,z45.fr,z45.text,[]⟩))⟩,_,(ol),hr48,oz,rfl⟩
 try simp only [sQ,ne_eq] at g4
 refine Zh (Zy (Zf (ZdD 2 rfl hv Zj.mono om3 (fun B49 hle49 hr49=>?_))))
 replace hbm:=hbm.mono hle49
 have hr49n:=hr49.len
 refine Za (xL [_,_] Zel 3 (h:=xS [_,_] 1 [_,_] Zf0 (h:=Zw [_,_,_,_] rfl (Zi ?_))))
 exact Zag .ret (.inl rfl) [_] [0] rfl ⟨⟨_,rfl,.inr ⟨[_,_],Zel,Zaj 1 rfl rfl rfl,rfl⟩⟩,trivial⟩ ⟨_,_,g.q,_,(ol),hr49,oz,rfl⟩
 try simp only [sQ,ne_eq] at g3
 refine Zh (Zy (Zf (ZdD 2 rfl hv Zj.mono om3 (fun B50 hle50 hr50=>?_))))
 replace hbm:=hbm.mono hle50
 have hr50n:=hr50.len
 refine Za (xL [_,_] Zel 3 (h:=xS [_,_] 1 [_,_] Zf0 (h:=Zw [_,_,_,_] rfl (Zi ?_))))
 exact Zag .ret (.inl rfl) [_] [0] rfl ⟨⟨_,rfl,.inr ⟨[_,_],Zel,Zaj 1 rfl rfl rfl,rfl⟩⟩,trivial⟩ ⟨_,_,g.q,_,(ol),hr50,oz,rfl⟩

set_option maxHeartbeats 400000 in
theorem Zqg (q:Option Addr) (m cp:Nat) (B:Kn):Za1 (pj J) 196 [.slice q m cp] B (.int .i64 m):=by
 refine Ze 5 Tryz.func196 rfl rfl rfl (Nat.le_of_ble_eq_true rfl) ?_
 refine Za (xA (h:=Za (xM (h:=xV Tryz.underlying148 (h:=xA (h:=Zi ?_))))))
 exact Z2 .ret (.inl rfl) [_] t1 ⟨rfl,rfl,rfl⟩

set_option maxHeartbeats 400000 in
theorem Zgn (q:Option Addr) (cp:Nat) (xs:List Int) (i j:Nat) (a b:Int) (hi:xs[i]? = some a) (hj:xs[j]? = some b) (B:Kn) (hx:SlK B q cp 1 ZbE xs):Za1 (pj J) 197 [.slice q xs.length cp,.int .i64 i,.int .i64 j] B (.bool (decide (a<b))):=by
 refine Ze 16 Tryz.func197 rfl rfl rfl (Nat.le_of_ble_eq_true rfl) ?_
 have hil:=Zcb hi
 have hjl:=Zcb hj
 refine Za (xA (h:=Zk (Z7 (same _ _) mo kr ⟨rfl,rfl⟩ (fun _ _=>?_))))
 refine aM 0 rfl (h:=aM 1 rfl (h:=?_))
 obtain ⟨z,hz⟩:=Zan (xs:=xs) (i:=i) om
 obtain ⟨bb2,oo2,rfl⟩:=hx.base hz
 obtain ⟨_,rfl,hc3⟩:=hx.elem hz
 refine aIx 2 rfl Tryz.underlying147 sz3 (h:=aT 3 rfl (Zak fun D=>Zl rfl rfl lk3 rfl (hc3 _ 0 _ rfl) r4) (h:=aM 4 rfl (h:=aM 5 rfl (h:=?_))))
 obtain ⟨w,hw⟩:=Zan (xs:=xs) (i:=j) om
 obtain ⟨_,rfl,hc5⟩:=hx.elem hw
 refine aIx 6 rfl Tryz.underlying147 sz3 (h:=?_)
 rw [hi] at hz
 cases hz
 rw [hj] at hw
 cases hw
 refine aT 7 rfl (Zak fun D=>Zl rfl rfl lk3 rfl (hc5 _ 0 _ rfl) r4) (h:=Zq6 8 rfl (h:=aA 9 rfl (h:=ZC kr kr ?_)))
 refine Zf (Zi ?_)
 exact Z2 .ret (.inl rfl) [_] t1 ⟨rfl,rfl,rfl⟩

set_option maxHeartbeats 400000 in
theorem Zr6 (b:Nat) (q:Option Addr) (cp:Nat) (xs:List Int) (l:Cells) (z:Int) (hn:xs.length≤2000000) (B:Kn) (hv:Z4 B l q cp 3 1 ZbE xs):ZN (pj J) 199 [ptr ⟨b,0,none⟩,.iface 3 (.int .i64 z)] B [Zbm b [.slice q xs.length cp] 148,l] (fun v B' Ls=>B'=B∧∃q' c' l',Ls=[Zbm b [.slice q' (xs ++ [z]).length c'] 148,l']∧Z4 B l' q' c' 3 1 ZbE (xs ++ [z])):=by
 refine Ze 13 Tryz.func199 rfl rfl rfl (Nat.le_of_ble_eq_true rfl) ?_
 refine Z7 (keeps _ [0] _) mo kr ⟨Kn.le.refl _,Zat.refl _ _⟩ (fun _ _=>?_)
 refine aM 0 rfl (h:=aM 1 rfl (h:=aNc 2 rfl (h:=aT 3 rfl (ZG fun D B L hI=>Zl rfl rfl Zfp rfl (atL 0 (hI.2.1.trans rfl) rfl rfl) r4) (h:=aM 4 rfl (h:=aT 5 rfl (ZG fun D B L hI=>ZkP rfl rfl Tryz.underlying3 rfl rfl r4) (h:=Zr 6 kr rfl kr (Zu (parts:=[(0,_)]) [_] rfl rfl Tryz.underlying147 sz3 zo3 rfl rfl rfl rfl rfl (fun b1=>?_))))))))
 refine ⟨⟨Kn.le.refl _,t1⟩,(Zr 7 kr rfl kr (ZaK (z:=z) (R:=ZbE) 1 rfl hv rfl rfl rfl Zwf Zv3 rfl rfl (ZaI.box 2 rfl) rfl rfl (rfl) om (fun l2 p2 c2 hv2=>?_)))⟩
 refine ⟨⟨Kn.le.refl _,t1⟩,(aNc 8 rfl (h:=Z0 9 kr rfl kr kr kr (ZQ [_] 0 [_] rfl rfl ZuO rfl rfl rfl rfl rfl rfl rfl rfl ?_)))⟩
 exact Zag .normal (.inr rfl) [] [0,1] rfl trivial ⟨rfl,_,_,_,rfl,hv2⟩

set_option maxHeartbeats 400000 in
theorem ZtT (b:Nat) (q:Option Addr) (cp:Nat) (xs:List Int) (l:Cells) (z:Int) (hz:xs[xs.length - 1]? = some z) (hn:xs.length≤2000000) (B:Kn) (hv:Z4 B l q cp 3 1 ZbE xs):ZN (pj J) 198 [ptr ⟨b,0,none⟩] B [Zbm b [.slice q xs.length cp] 148,l] (fun v B' Ls=>B'=B∧v = .iface 3 (.int .i64 z)∧Ls=[Zbm b [.slice q (xs.length - 1) cp] 148,l]∧Z4 B l q cp 3 1 ZbE (xs.take (xs.length - 1))):=by
 refine Ze 25 Tryz.func198 rfl rfl rfl (Nat.le_of_ble_eq_true rfl) ?_
 have hl1:=Zcb hz
 have hcp:=hv.cap
 have hv9:=hv.take (k:=xs.length - 1) oz
 have hs0:=hv.slice0 (sz:=1)
 refine Za (xA (h:=Za (xM (h:=xNc (h:=x1 Zfp 0 (h:=xV Tryz.underlying148 (h:=Zp (Zi8 (r:=((xs.length - 1:Nat):Int)) rfl rfl rfl rfl (by rw [show ((xs.length:Int) - 1)=((xs.length - 1:Nat):Int) from by omega];exact ZaN oz oz) ?_))))))))
 refine xA (h:=Za (xM (h:=xNc (h:=x1 Zfp 0 (h:=xM (h:=?_))))))
 obtain ⟨w,hw⟩:=Zan (xs:=xs) (i:=(xs.length - 1)) om
 obtain ⟨bb2,_,hp2,rfl,hw2,hc2⟩:=hv.row hw
 refine xIp hp2 Tryz.underlying147 sz3 (h:=?_)
 rw [hz] at hw
 cases hw
 refine Zp (Zl rfl rfl lk3 rfl (hc2 _ 1 rfl 0 _ rfl) (xA (h:=Za (xM (h:=xM (h:=xNc (h:=x1 Zfp 0 (h:=xM (h:=Zp (Zfc rfl rfl Tryz.underlying147 sz3 rfl (a:=0) (b:=xs.length - 1) rfl ⟨_,_,rfl,rfl⟩ oz oz ?_))))))))))
 rw [hs0]
 refine xNc (h:=xS [_] 0 [_] ZuO (h:=Zw [_,_] rfl (Za (xM (h:=Zp (Zef rfl rfl Tryz.underlying3 rfl rfl (xA (h:=Zi ?_))))))))
 exact Zag .ret (.inl rfl) [_] [0,1] rfl t1 ⟨rfl,rfl,rfl,hv9⟩

set_option maxHeartbeats 400000 in
theorem Zgm (q:Option Addr) (cp:Nat) (xs:List Int) (l:Cells) (i j:Nat) (a b:Int) (hi:xs[i]? = some a) (hj:xs[j]? = some b) (hn:xs.length≤2000000) (B:Kn) (hv:Z4 B l q cp 3 1 ZbE xs):ZN (pj J) 200 [.slice q xs.length cp,.int .i64 i,.int .i64 j] B [l] (fun v B' Ls=>B'=B∧∃l',Ls=[l']∧Z4 B l' q cp 3 1 ZbE ((xs.set i b).set j a)):=by
 refine Ze 20 Tryz.func200 rfl rfl rfl (Nat.le_of_ble_eq_true rfl) ?_
 have hil:=Zcb hi
 have hjl:=Zcb hj
 refine Z7 (keeps _ [0] _) mo kr ⟨Kn.le.refl _,Zat.refl _ _⟩ (fun _ _=>?_)
 refine aM 0 rfl (h:=aM 1 rfl (h:=aM 2 rfl (h:=aM 3 rfl (h:=aM 4 rfl (h:=aM 5 rfl (h:=?_))))))
 obtain ⟨y,hy⟩:=Zan (xs:=xs) (i:=j) om
 obtain ⟨bb2,_,hp2,rfl,hw2,hc2⟩:=hv.row hy
 refine aT 6 rfl (ZG fun D B L hI=>Zf4 hp2 rfl rfl Tryz.underlying147 sz3 rfl rfl om om r4) (h:=?_)
 refine aT 7 rfl (ZG fun D B L hI=>Zl rfl rfl lk3 rfl (hc2 _ 0 (hI.2.1.trans rfl) 0 _ rfl) r4) (h:=aM 8 rfl (h:=aM 9 rfl (h:=?_)))
 obtain ⟨x,hx⟩:=Zan (xs:=xs) (i:=i) om
 obtain ⟨bb4,_,hp4,rfl,hw4,hc4⟩:=hv.row hx
 refine aT 10 rfl (ZG fun D B L hI=>Zf4 hp4 rfl rfl Tryz.underlying147 sz3 rfl rfl om om r4) (h:=?_)
 refine aT 11 rfl (ZG fun D B L hI=>Zl rfl rfl lk3 rfl (hc4 _ 0 (hI.2.1.trans rfl) 0 _ rfl) r4) (h:=?_)
 obtain ⟨bb5,_,hp5,rfl,hw5,hc5⟩:=hv.row hx
 refine aT 12 rfl (ZG fun D B L hI=>Zf4 hp5 rfl rfl Tryz.underlying147 sz3 rfl rfl om om r4) (h:=?_)
 refine Zbu 13 kr rfl kr kr (Zee (k:=i) (off:=0) (y) [_] 0 hv hp5 hx rfl rfl sz3 rfl rfl rfl rfl rfl rfl ((fun row h=>by cases h;rfl)) (fun l6 hv6=>?_))
 obtain ⟨w,hw⟩:=Zan (xs:=(xs.set i (y))) (i:=j) om
 obtain ⟨bb8,_,hp8,rfl,hw8,hc8⟩:=hv6.row hw
 refine aT 14 rfl (ZG fun D B L hI=>Zf4 hp8 rfl rfl Tryz.underlying147 sz3 rfl rfl om om r4) (h:=?_)
 refine Z0 15 kr rfl kr kr kr (Zee (k:=j) (off:=0) (x) [_] 0 hv6 hp8 hw rfl rfl sz3 rfl rfl rfl rfl rfl rfl ((fun row h=>by cases h;rfl)) (fun l9 hv9=>?_))
 rw [hi] at hx
 cases hx
 rw [hj] at hy
 cases hy
 exact Zag .normal (.inr rfl) [] [0] rfl trivial ⟨rfl,_,rfl,hv9⟩

set_option maxHeartbeats 400000 in
theorem Zr9 (b:Nat) (q:Option Addr) (cp:Nat) (xs:List Int) (l:Cells) (j:Nat) (hj:j<xs.length) (hn:xs.length≤2000000) (hh:ZfZ xs j) (B:Kn) (hv:Z4 B l q cp 3 1 ZbE xs):ZN (pj J) 144 [.iface 146 (ptr ⟨b,0,none⟩),.int .i64 j] B [Zbm b [.slice q xs.length cp] 148,l] (fun v B' Ls=>B'=B∧∃ys l',Ls=[Zbm b [.slice q ys.length cp] 148,l']∧Z4 B l' q cp 3 1 ZbE ys∧ys.Perm xs∧ZdA ys):=by
 refine Ze 23 Tryz.func144 rfl rfl rfl (Nat.le_of_ble_eq_true rfl) ?_
 refine Zo (ZR (α:=Nat × List Int × Cells) [0] (fun g=>[(1,.int .i64 g.1)]) [0,1] (fun g=>[Zbm b [.slice q g.2.1.length cp] 148,g.2.2]) (fun g Bx=>Bx=B∧g.1<g.2.1.length∧g.2.1.Perm xs∧ZfZ g.2.1 g.1∧Z4 B g.2.2 q cp 3 1 ZbE g.2.1) (fun g=>g.1) (j,xs,l) t1 rfl (⟨rfl,hj,.refl _,hh,hv⟩) (fun g B1 hle1 hI=>?_))
 obtain ⟨rfl,hk,hp,hb,hv⟩:=hI
 have hpl:=hp.length_eq
 refine ZP [(0,_),(1,_)] [_,_] t2 rfl (Zo (Za (xM (h:=Zp (Zi8 rfl rfl rfl rfl (ZaN oz oz) ?_)))))
 refine Zp (Zfz (r:=(((g.1 - 1) / 2:Nat):Int)) rfl rfl rfl rfl oz (by rw [show Int.tdiv ((g.1:Int) - 1) 2=(((g.1 - 1) / 2:Nat):Int) from ZvY g.1];exact ZaN oz oz) ?_)
 refine xA (h:=Zk (Za (xM (h:=xM (h:=ZJ (h:=xM (h:=Zt (d:=11) rfl (fun g1=>?_) (fun g1=>?_))))))))
 try simp only [sQ,ne_eq] at g1
 refine xP (h:=xP (h:=xP (h:=xP (h:=xP (h:=xT (h:=Zc (t:=true) rfl (fun _=>ZU (Zad (Zfi rfl (ZV (ZF ?_))))) (fun h=>Bool.noConfusion h)))))))
 exact Zag .normal (.inr rfl) [] [0,1] rfl trivial ⟨rfl,_,_,rfl,hv,hp,Ztj (by rw [show g.1=0 from by omega] at hb;exact hb)⟩
 try simp only [sQ,ne_eq] at g1
 refine xM (h:=xM (h:=xM (h:=Zp (ZfA 1 rfl rfl rfl ZqH rfl rfl (ZbH Zd5 Tryz.underlying146 Zfp (atL 0 rfl rfl rfl)) (Za1.borrow fun hm2=>Zgn _ _ _ _ _ _ _ (Za8 oz) (Za8 oz) _ (hv.lend ZbE.mono hm2 om)) ?_))))
 refine xN (h:=xF (h:=Zc rfl (fun g2=>?_) (fun g2=>?_)))
 try simp only [sQ,ne_eq] at g2
 refine ZU (Zad (Zfi rfl (ZV (ZF ?_))))
 exact Zag .normal (.inr rfl) [] [0,1] rfl trivial ⟨rfl,_,_,rfl,hv,hp,Ztl hb (by simpa using g2)⟩
 try simp only [sQ,ne_eq] at g2
 refine Zh (Zf (Za (xM (h:=xM (h:=xM (h:=Zp (Zg2 [1] rfl rfl rfl rfl ZqG rfl rfl (ZbH Zd4 Tryz.underlying146 Zfp (atL 0 rfl rfl rfl)) (Zgm _ _ _ _ _ _ _ _ (Za8 oz) (Za8 oz) oz _ hv) ?_)))))))
 rintro _ _ _ hle3 ⟨rfl,l3,rfl,hv3⟩
 refine Zw [_,_] rfl (Zd (xM (h:=xA (h:=Zy ?_))))
 rw [← Zdm g.2.1 ((g.1 - 1) / 2) g.1]
 exact ZA ((g.1 - 1) / 2,(swp g.2.1 ((g.1 - 1) / 2) g.1),l3) [0,1] (so) ⟨rfl,by have:=Zdm g.2.1 ((g.1 - 1) / 2) g.1;simp only [];omega,(Zf8 oz oz).trans hp,Ztk oz oz hb (by simpa using g2),hv3⟩ t2 rfl

set_option maxHeartbeats 400000 in
theorem ZoE (b:Nat) (q:Option Addr) (cp:Nat) (xs:List Int) (l:Cells) (z:Int) (hn:xs.length<2000000) (hh:ZdA xs) (B:Kn) (hv:Z4 B l q cp 3 1 ZbE xs):ZN (pj J) 105 [.iface 146 (ptr ⟨b,0,none⟩),.iface 3 (.int .i64 z)] B [Zbm b [.slice q xs.length cp] 148,l] (fun v B' Ls=>B'=B∧∃q' c' ys l',Ls=[Zbm b [.slice q' ys.length c'] 148,l']∧Z4 B l' q' c' 3 1 ZbE ys∧ys.Perm (xs ++ [z])∧ZdA ys):=by
 refine Ze 12 Tryz.func105 rfl rfl rfl (Nat.le_of_ble_eq_true rfl) ?_
 refine Za (xM (h:=xM (h:=Zp (Zg2 [0,1] rfl rfl rfl rfl Zwq rfl rfl (ZlE Zop Tryz.underlying146) (Zr6 _ _ _ _ _ _ oz _ hv) ?_))))
 rintro _ _ _ hle1 ⟨rfl,q1,c1,l1,rfl,hv1⟩
 refine Zw [_,_] rfl (Zd (xM (h:=xM (h:=Zp (ZfA 1 rfl rfl rfl Zva rfl rfl (ZbH Zlj Tryz.underlying146 Zfp (atL 0 rfl rfl rfl)) (Za1.borrow fun hm2=>Zqg _ _ _ _) (Zp (Zi8 (r:=((xs.length:Nat):Int)) rfl rfl rfl rfl ((congrArg _ (show _=((xs.length:Nat):Int) from by rw [List.length_append,List.length_singleton];omega)).trans (ZaN oz oz)) ?_)))))))
 refine Zp (Zab [0,1] rfl rfl rfl rfl ZwM rfl (Zr9 _ _ _ _ _ _ (by simp) (by simp;omega) (ZrC hh) _ hv1) ?_)
 rintro _ _ _ hleu ⟨rfl,ysu,lu,rfl,hvu,hpu,hhu⟩
 exact Zag .normal (.inr rfl) [] [0,1] rfl trivial ⟨rfl,_,_,_,_,rfl,hvu,hpu,hhu⟩

set_option maxHeartbeats 400000 in
theorem ZoG (b:Nat) (q:Option Addr) (cp:Nat) (xs:List Int) (l:Cells) (m:Nat) (hm:m≤xs.length) (hm0:0<xs.length) (hn:xs.length≤2000000) (hh:Zfb xs m 0) (B:Kn) (hv:Z4 B l q cp 3 1 ZbE xs):ZN (pj J) 145 [.iface 146 (ptr ⟨b,0,none⟩),.int .i64 0,.int .i64 m] B [Zbm b [.slice q xs.length cp] 148,l] (fun v B' Ls=>B'=B∧∃ys l',Ls=[Zbm b [.slice q ys.length cp] 148,l']∧Z4 B l' q cp 3 1 ZbE ys∧ys.Perm xs∧ZsN ys m∧(∀k,m≤k→hat ys k=hat xs k)):=by
 refine Ze 48 Tryz.func145 rfl rfl rfl (Nat.le_of_ble_eq_true rfl) ?_
 refine Za (xA (h:=Za (xM (h:=xA (h:=Zk (Zo (ZR (α:=Nat × List Int × Cells) [0,1,2,6] (fun g=>[(7,.int .i64 g.1)]) [0,1] (fun g=>[Zbm b [.slice q g.2.1.length cp] 148,g.2.2]) (fun g Bx=>Bx=B∧g.1<g.2.1.length∧g.2.1.Perm xs∧Zfb g.2.1 m g.1∧(∀k,m≤k→hat g.2.1 k=hat xs k)∧Z4 B g.2.2 q cp 3 1 ZbE g.2.1) (fun g=>xs.length - g.1) (0,xs,l) t1 rfl (⟨rfl,hm0,.refl _,hh,fun _ _=>rfl,hv⟩) (fun g B1 hle1 hI=>?_))))))))
 obtain ⟨rfl,hk,hp,hb,hs,hv⟩:=hI
 have hpl:=hp.length_eq
 refine ZP [(0,_),(1,_),(2,_),(6,_),(7,_)] [_,_] t5 rfl (Zo (Za (xM (h:=Zp (ZkL (r:=((2*g.1:Nat):Int)) rfl rfl rfl rfl ((congrArg _ (show _=((2*g.1:Nat):Int) from by omega)).trans (ZaN oz oz)) ?_)))))
 refine Zp (ZeF (r:=((2*g.1+1:Nat):Int)) rfl rfl rfl rfl ((congrArg _ (show _=((2*g.1+1:Nat):Int) from by omega)).trans (ZaN oz oz)) ?_)
 refine xA (h:=Zk (Za (xM (h:=xM (h:=ZdB (h:=xM (h:=Zt (d:=18) rfl (fun g1=>?_) (fun g1=>?_))))))))
 try simp only [sQ,ne_eq] at g1
 refine xP (h:=xP (h:=xT (h:=Zc (t:=true) rfl (fun _=>ZU (Zad (Zfi rfl (ZV (ZF (Zf (Za (xM (h:=xM (h:=Zbx (h:=xA (h:=Zi ?_)))))))))))) (fun h=>Bool.noConfusion h))))
 exact Zag .ret (.inl rfl) [_] [0,1] rfl t1 ⟨rfl,_,_,rfl,hv,hp,ZqN hb oz,hs⟩
 try simp only [sQ,ne_eq] at g1
 refine xM (h:=Zae (h:=xF (h:=Zc rfl (fun g2=>by have:=of_decide_eq_true g2;omega) (fun g2=>?_))))
 try simp only [sQ,ne_eq] at g2
 refine Zh (Zf (Za (xM (h:=xA (h:=Zk (Za (xM (h:=Zp (ZeF (r:=((2*g.1+1+1:Nat):Int)) rfl rfl rfl rfl ((congrArg _ (show _=((2*g.1+1+1:Nat):Int) from by omega)).trans (ZaN oz oz)) ?_)))))))))
 refine xA (h:=Za (xM (h:=xM (h:=Zae (h:=xM (h:=Zt (d:=28) rfl (fun g3=>?_) (fun g3=>?_)))))))
 try simp only [sQ,ne_eq] at g3
 refine xM (h:=xM (h:=xM (h:=Zp (ZfA 1 rfl rfl rfl ZqH rfl rfl (ZbH Zd5 Tryz.underlying146 Zfp (atL 0 rfl rfl rfl)) (Za1.borrow fun hm2=>Zgn _ _ _ _ _ _ _ (Za8 oz) (Za8 oz) _ (hv.lend ZbE.mono hm2 om)) ?_))))
 refine xT (h:=Zc rfl (fun g4=>?_) (fun g4=>?_))
 try simp only [sQ,ne_eq] at g4
 refine Zd (xM (h:=xA (h:=Zf (Zk (Za (xM (h:=xM (h:=xM (h:=Zp (ZfA 1 rfl rfl rfl ZqH rfl rfl (ZbH Zd5 Tryz.underlying146 Zfp (atL 0 rfl rfl rfl)) (Za1.borrow fun hm3=>Zgn _ _ _ _ _ _ _ (Za8 oz) (Za8 oz) _ (hv.lend ZbE.mono hm3 om)) ?_))))))))))
 refine xN (h:=Zc rfl (fun g5=>?_) (fun g5=>?_))
 try simp only [sQ,ne_eq] at g5
 refine ZU (Zad (Zfi rfl (ZV (ZF (Zf (Za (xM (h:=xM (h:=Zbx (h:=xA (h:=Zi ?_)))))))))))
 exact Zag .ret (.inl rfl) [_] [0,1] rfl t1 ⟨rfl,_,_,rfl,hv,hp,ZiQ hb (by intro k h0 hk he;(try simp only [decide_eq_true_eq,decide_eq_false_iff_not,Bool.not_eq_true',Bool.not_eq_false',Int.not_lt] at *);rcases (show k=2*g.1+1∨k=2*g.1+1+1 from by omega) with rfl | rfl <;> omega),hs⟩
 try simp only [sQ,ne_eq] at g5
 refine Zh (Zf (Za (xM (h:=xM (h:=xM (h:=Zp (Zg2 [1] rfl rfl rfl rfl ZqG rfl rfl (ZbH Zd4 Tryz.underlying146 Zfp (atL 0 rfl rfl rfl)) (Zgm _ _ _ _ _ _ _ _ (Za8 oz) (Za8 oz) oz _ hv) ?_)))))))
 rintro _ _ _ hle4 ⟨rfl,l4,rfl,hv4⟩
 refine Zw [_,_] rfl (Zd (xM (h:=xA (h:=Zy ?_))))
 rw [← Zdm g.2.1 g.1 (2*g.1+1+1)]
 have h5:hat g.2.1 (2*g.1+1+1)<hat g.2.1 g.1:=by simpa using g5
 exact ZA (2*g.1+1+1,(swp g.2.1 g.1 (2*g.1+1+1)),l4) [0,1] (so) ⟨rfl,by have:=Zdm g.2.1 g.1 (2*g.1+1+1);simp only [];omega,(Zf8 oz oz).trans hp,ZiP oz oz oz oz hb (by intro k h0 hk he;(try simp only [decide_eq_true_eq,decide_eq_false_iff_not,Bool.not_eq_true',Bool.not_eq_false',Int.not_lt] at *);rcases (show k=2*g.1+1∨k=2*g.1+1+1 from by omega) with rfl | rfl <;> omega) h5,(fun k hk=>by rw [Ze0 oz oz,if_neg oz,if_neg oz];exact hs k hk),hv4⟩ t5 rfl
 try simp only [sQ,ne_eq] at g4
 refine Zh (Zf (Zk (Za (xM (h:=xM (h:=xM (h:=Zp (ZfA 1 rfl rfl rfl ZqH rfl rfl (ZbH Zd5 Tryz.underlying146 Zfp (atL 0 rfl rfl rfl)) (Za1.borrow fun hm5=>Zgn _ _ _ _ _ _ _ (Za8 oz) (Za8 oz) _ (hv.lend ZbE.mono hm5 om)) ?_))))))))
 refine xN (h:=Zc rfl (fun g5=>?_) (fun g5=>?_))
 try simp only [sQ,ne_eq] at g5
 refine ZU (Zad (Zfi rfl (ZV (ZF (Zf (Za (xM (h:=xM (h:=Zbx (h:=xA (h:=Zi ?_)))))))))))
 exact Zag .ret (.inl rfl) [_] [0,1] rfl t1 ⟨rfl,_,_,rfl,hv,hp,ZiQ hb (by intro k h0 hk he;(try simp only [decide_eq_true_eq,decide_eq_false_iff_not,Bool.not_eq_true',Bool.not_eq_false',Int.not_lt] at *);rcases (show k=2*g.1+1∨k=2*g.1+1+1 from by omega) with rfl | rfl <;> omega),hs⟩
 try simp only [sQ,ne_eq] at g5
 refine Zh (Zf (Za (xM (h:=xM (h:=xM (h:=Zp (Zg2 [1] rfl rfl rfl rfl ZqG rfl rfl (ZbH Zd4 Tryz.underlying146 Zfp (atL 0 rfl rfl rfl)) (Zgm _ _ _ _ _ _ _ _ (Za8 oz) (Za8 oz) oz _ hv) ?_)))))))
 rintro _ _ _ hle6 ⟨rfl,l6,rfl,hv6⟩
 refine Zw [_,_] rfl (Zd (xM (h:=xA (h:=Zy ?_))))
 rw [← Zdm g.2.1 g.1 (2*g.1+1)]
 have h5:hat g.2.1 (2*g.1+1)<hat g.2.1 g.1:=by simpa using g5
 exact ZA (2*g.1+1,(swp g.2.1 g.1 (2*g.1+1)),l6) [0,1] (so) ⟨rfl,by have:=Zdm g.2.1 g.1 (2*g.1+1);simp only [];omega,(Zf8 oz oz).trans hp,ZiP oz oz oz oz hb (by intro k h0 hk he;(try simp only [decide_eq_true_eq,decide_eq_false_iff_not,Bool.not_eq_true',Bool.not_eq_false',Int.not_lt] at *);rcases (show k=2*g.1+1∨k=2*g.1+1+1 from by omega) with rfl | rfl <;> omega) h5,(fun k hk=>by rw [Ze0 oz oz,if_neg oz,if_neg oz];exact hs k hk),hv6⟩ t5 rfl
 try simp only [sQ,ne_eq] at g3
 refine xP (h:=xP (h:=xP (h:=xP (h:=xF (h:=Zc (t:=false) rfl (fun h=>Bool.noConfusion h) (fun _=>Zh (Zf (Zk (Za (xM (h:=xM (h:=xM (h:=?_)))))))))))))
 refine Zp (ZfA 1 rfl rfl rfl ZqH rfl rfl (ZbH Zd5 Tryz.underlying146 Zfp (atL 0 rfl rfl rfl)) (Za1.borrow fun hm7=>Zgn _ _ _ _ _ _ _ (Za8 oz) (Za8 oz) _ (hv.lend ZbE.mono hm7 om)) ?_)
 refine xN (h:=Zc rfl (fun g5=>?_) (fun g5=>?_))
 try simp only [sQ,ne_eq] at g5
 refine ZU (Zad (Zfi rfl (ZV (ZF (Zf (Za (xM (h:=xM (h:=Zbx (h:=xA (h:=Zi ?_)))))))))))
 exact Zag .ret (.inl rfl) [_] [0,1] rfl t1 ⟨rfl,_,_,rfl,hv,hp,ZiQ hb (by intro k h0 hk he;(try simp only [decide_eq_true_eq,decide_eq_false_iff_not,Bool.not_eq_true',Bool.not_eq_false',Int.not_lt] at *);rcases (show k=2*g.1+1∨k=2*g.1+1+1 from by omega) with rfl | rfl <;> omega),hs⟩
 try simp only [sQ,ne_eq] at g5
 refine Zh (Zf (Za (xM (h:=xM (h:=xM (h:=Zp (Zg2 [1] rfl rfl rfl rfl ZqG rfl rfl (ZbH Zd4 Tryz.underlying146 Zfp (atL 0 rfl rfl rfl)) (Zgm _ _ _ _ _ _ _ _ (Za8 oz) (Za8 oz) oz _ hv) ?_)))))))
 rintro _ _ _ hle8 ⟨rfl,l8,rfl,hv8⟩
 refine Zw [_,_] rfl (Zd (xM (h:=xA (h:=Zy ?_))))
 rw [← Zdm g.2.1 g.1 (2*g.1+1)]
 have h5:hat g.2.1 (2*g.1+1)<hat g.2.1 g.1:=by simpa using g5
 exact ZA (2*g.1+1,(swp g.2.1 g.1 (2*g.1+1)),l8) [0,1] (so) ⟨rfl,by have:=Zdm g.2.1 g.1 (2*g.1+1);simp only [];omega,(Zf8 oz oz).trans hp,ZiP oz oz oz oz hb (by intro k h0 hk he;(try simp only [decide_eq_true_eq,decide_eq_false_iff_not,Bool.not_eq_true',Bool.not_eq_false',Int.not_lt] at *);rcases (show k=2*g.1+1∨k=2*g.1+1+1 from by omega) with rfl | rfl <;> omega) h5,(fun k hk=>by rw [Ze0 oz oz,if_neg oz,if_neg oz];exact hs k hk),hv8⟩ t5 rfl

set_option maxHeartbeats 400000 in
theorem Zqh (b:Nat) (q:Option Addr) (cp:Nat) (xs:List Int) (l:Cells) (hm0:0<xs.length) (hn:xs.length≤2000000) (hh:ZdA xs) (B:Kn) (hv:Z4 B l q cp 3 1 ZbE xs):ZN (pj J) 106 [.iface 146 (ptr ⟨b,0,none⟩)] B [Zbm b [.slice q xs.length cp] 148,l] (fun v B' Ls=>B'=B∧v = .iface 3 (.int .i64 (hat xs 0))∧∃ys l',Ls=[Zbm b [.slice q ys.length cp] 148,l']∧Z4 B l' q cp 3 1 ZbE ys∧(hat xs 0 :: ys).Perm xs∧ZdA ys):=by
 refine Ze 15 Tryz.func106 rfl rfl rfl (Nat.le_of_ble_eq_true rfl) ?_
 refine Za (xA (h:=Za (xM (h:=Zp (ZfA 1 rfl rfl rfl Zva rfl rfl (ZbH Zlj Tryz.underlying146 Zfp (atL 0 rfl rfl rfl)) (Za1.borrow fun hm1=>Zqg _ _ _ _) (Zp (Zi8 (r:=((xs.length - 1:Nat):Int)) rfl rfl rfl rfl ((congrArg _ (show _=((xs.length - 1:Nat):Int) from by omega)).trans (ZaN oz oz)) ?_)))))))
 refine xA (h:=Za (xM (h:=xM (h:=Zp (Zg2 [1] rfl rfl rfl rfl ZqG rfl rfl (ZbH Zd4 Tryz.underlying146 Zfp (atL 0 rfl rfl rfl)) (Zgm _ _ _ _ _ _ _ _ (Za8 oz) (Za8 oz) oz _ hv) ?_)))))
 rintro _ _ _ hles ⟨rfl,ls,rfl,hvs⟩
 refine Zw [_,_] rfl ?_
 obtain ⟨zs,hzs,hzl⟩ :∃zs,zs=swp xs 0 (xs.length - 1)∧zs.length=xs.length:=⟨_,rfl,Zdm _ _ _⟩
 have hzz:=hvs
 change Z4 _ _ _ _ _ _ _ (swp xs 0 (xs.length - 1)) at hzz
 rw [← hzs] at hzz
 have hdb:Zfb zs (zs.length - 1) 0:=by rw [hzl,hzs];exact Ztr hh hm0
 have hlz:hat zs (zs.length - 1)=hat xs 0:=by rw [hzl,hzs];exact Zru hm0
 have hpz:zs.Perm xs:=hzs ▸ Zf8 hm0 oz
 rw [← hzl]
 refine Za (xM (h:=xM (h:=Zp (Zab [0,1] rfl rfl rfl rfl ZwL rfl (ZoG _ _ _ _ _ _ oz oz oz hdb _ hzz) ?_))))
 rintro _ _ _ hled ⟨rfl,ysd,ld,rfl,hvd,hpd,hhd,hsd⟩
 refine Zw [_,_] rfl ?_
 have hdl:=hpd.length_eq
 refine Za (xM (h:=Zp (Zg2 [0,1] rfl rfl rfl rfl Zwr rfl rfl (ZlE ZpZ Tryz.underlying146) (ZtT _ _ _ _ _ _ (Za8 oz) oz _ hvd) ?_)))
 rintro _ _ _ hleo ⟨rfl,rfl,rfl,hvo⟩
 refine xA (h:=Zw [_,_] rfl (Zi ?_))
 have hz9:hat ysd (ysd.length - 1)=hat xs 0:=by rw [hsd _ oz,hdl];exact hlz
 exact Zag .ret (.inl rfl) [_] [0,1] rfl t1 ⟨rfl,by rw [hz9];rfl,_,_,by rw [show (ysd.take (ysd.length - 1)).length=ysd.length - 1 from by simp],hvo,ZrF oz (hpd.trans hpz) hz9,ZoF (by rw [hdl];exact hhd) oz⟩

set_option maxHeartbeats 400000 in
theorem ZmF (q:Option Addr) (cp:Nat) (xs:List DItem) (last:Int) (B:Kn) (ha:SlK B q cp 4 Zj xs):Za1 (pj J) 79 [.slice q xs.length cp,.int .i64 last] B (.bool (asc 0 last (xs.map (·.id)))):=by
 refine Ze 53 Tryz.func79 rfl rfl rfl (Nat.le_of_ble_eq_true rfl) ?_
 have hxn:=ha.len
 refine Za (xA (h:=Za (xBs [] [] Tryz.underlying147 sz3 zo3 (h:=fun b1=>xBx [_] (h:=fun b2=>xA (h:=Zw [_,_] rfl (Zk (Za (xM (h:=xV Tryz.underlying25 (h:=xM (h:=Zo ?_))))))))))))
 refine ZR (α:=Gh Int) [0,1,4,5,14,15] (fun g=>[(16,.int .i64 g.k)]) [0,1] (fun g=>[g.l,Zbm b2 [.slice g.a g.xs.length g.c] 148]) (fun g Bx=>Bx=B∧g.k≤xs.length∧g.xs.Perm ((xs.take g.k).map (·.id))∧ZdA g.xs∧Z4 Bx g.l g.a g.c 3 1 ZbE g.xs) (fun g=>xs.length - g.k) ⟨0,0,_,_,_,[]⟩ t1 rfl (⟨rfl,Nat.zero_le _,.refl _,Zr7,.lit0⟩) (fun g B3 hle3 hI=>?_)
 obtain ⟨rfl,hk,hp,hh,hv⟩:=hI
 have hpl:=hp.length_eq
 rw [List.length_map,List.length_take] at hpl
 refine ZP [(0,_),(1,_),(4,_),(5,_),(14,_),(15,_),(16,_)] [_,_] t7 rfl (Za (Zae (h:=Zk (Zc rfl (fun g1=>?_) (fun g1=>?_)))))
 try simp only [sQ,ne_eq] at g1
 refine Zh (Zf (Zk (Zo (Za ?_))))
 obtain ⟨x,hx⟩:=Zan (xs:=xs) (i:=g.k) om
 obtain ⟨bb5,oo5,rfl⟩:=ha.base hx
 obtain ⟨_,⟨qi6,ci6,rfl,hi6,hb6,hb6b⟩,hc6⟩:=ha.elem hx
 have hi6n:=hi6.len
 refine xIx Tryz.underlying25 ZeA (h:=yL [_,_,_,_] Zl3 hc6 0 (h:=xAl [_,_,_,_] Zi3 (h:=fun b7=>xS [_,_,_,_] 2 [_,_,_,_] ZeA (h:=Zw [_,_,_] rfl (Zd (xM (h:=Zp (Zef rfl rfl Tryz.underlying146 rfl rfl (xW Ze2 (h:=x1 lk3 2 (h:=Zp (Zef rfl rfl Tryz.underlying3 rfl rfl (Zp (Zab [1,0] rfl rfl rfl rfl ZwX rfl (ZoE _ _ _ _ _ _ oz hh _ hv) ?_))))))))))))))
 rintro _ _ _ hlep ⟨rfl,qp,cp,ysp,lp,rfl,hvp,hpp,hhp⟩
 refine Zy (Zf (Zd (xD (h:=xM (h:=?_)))))
 exact ZA ⟨g.k+1,0,lp,_,_,ysp⟩ [0,1] so2 ⟨rfl,so,by simp only [];rw [Zas hx,List.map_append];exact hpp.trans (hp.append_right _),hhp,hvp⟩ t7 rfl
 try simp only [sQ,ne_eq] at g1
 have hxe:xs.take g.k=xs:=List.take_of_length_le oz
 rw [hxe] at hp
 refine ZU (Zad (ZV (ZF (Zf (Za (xA (h:=Zk (Za (xM (h:=xV Tryz.underlying25 (h:=xM (h:=Zo (ZR (α:=Gh2 Int Int) [0,1,5,14,15,16,17,27,28] (fun h=>[(8,.int .i64 h.e),(29,.int .i64 h.k)]) [0,1] (fun h=>[h.l,Zbm b2 [.slice h.a h.xs.length h.c] 148]) (fun h Bx=>Bx=B3∧h.k≤xs.length∧h.xs.Perm ((xs.drop h.k).map (·.id))∧ZdA h.xs∧asc 0 last (xs.map (·.id))=asc h.e last ((xs.drop h.k).map (·.id))∧Z4 Bx h.l h.a h.c 3 1 ZbE h.xs) (fun h=>xs.length - h.k) ⟨0,0,g.l,g.a,g.c,g.xs,0⟩ t2 rfl (⟨rfl,Nat.zero_le _,hp,hh,rfl,hv⟩) (fun h B9 hle9 hI=>?_))))))))))))))
 clear hv hp hpl hh
 obtain ⟨rfl,hk,hp,hh,hs,hv⟩:=hI
 have hpl:=hp.length_eq
 rw [List.length_map,List.length_drop] at hpl
 refine ZP [(0,_),(1,_),(5,_),(8,_),(14,_),(15,_),(16,_),(17,_),(27,_),(28,_),(29,_)] [_,_] t11 rfl (Za (Zae (h:=Zk (Zc rfl (fun g2=>?_) (fun g2=>?_)))))
 try simp only [sQ,ne_eq] at g2
 refine Zh (Zf (Zk (Zo (Za ?_))))
 obtain ⟨x,hx⟩:=Zan (xs:=xs) (i:=h.k) om
 obtain ⟨bb11,oo11,rfl⟩:=ha.base hx
 obtain ⟨_,⟨qi12,ci12,rfl,hi12,hb12,hb12b⟩,hc12⟩:=ha.elem hx
 have hi12n:=hi12.len
 refine xIx Tryz.underlying25 ZeA (h:=?_)
 rw [Zky hx,List.map_cons] at hp hs
 refine yL [_,_,_,_] Zl3 hc12 0 (h:=xAl [_,_,_,_] Zi3 (h:=fun b13=>xS [_,_,_,_] 2 [_,_,_,_] ZeA (h:=Zw [_,_,_] rfl (Za (xM (h:=Zp (Zef rfl rfl Tryz.underlying146 rfl rfl (Zp (Zab [1,0] rfl rfl rfl rfl ZwW rfl (Zqh _ _ _ _ _ oz oz hh _ hv) ?_)))))))))
 rintro _ _ _ hleo ⟨rfl,rfl,yso,lo,rfl,hvo,hpo,hho⟩
 refine Zp (ZkP rfl rfl Tryz.underlying3 rfl rfl (xA (h:=Zw [_,_,_] rfl (Zk (Za (xM (h:=xW Ze2 (h:=x1 lk3 2 (h:=Zc5 (h:=xM (h:=Zt (d:=41) rfl (fun g3=>?_) (fun g3=>?_))))))))))))
 try simp only [sQ,ne_eq] at g3
 refine xP (h:=xP (h:=xP (h:=xT (h:=xM (h:=xP (h:=xP (h:=xP (h:=xT (h:=Zc (t:=true) rfl (fun _=>Za (xA (h:=Zi (Zs (ZM (Zs (Zaa (ZM (Zs ?_))))))))) (fun h=>Bool.noConfusion h))))))))))
 exact Z2 .ret (.inl rfl) [_] t1 ⟨Zn (by rw [hs];exact Zsz hp hh (by simpa using g3)),rfl,rfl⟩
 try simp only [sQ,ne_eq] at g3
 refine xM (h:=xM (h:=ZcE (h:=xF (h:=xM (h:=Zt (d:=46) rfl (fun g4=>?_) (fun g4=>?_))))))
 try simp only [sQ,ne_eq] at g4
 refine xP (h:=xP (h:=xP (h:=xT (h:=Zc (t:=true) rfl (fun _=>Za (xA (h:=Zi (Zs (ZM (Zs (Zaa (ZM (Zs ?_))))))))) (fun h=>Bool.noConfusion h)))))
 exact Z2 .ret (.inl rfl) [_] t1 ⟨Zn (by rw [hs];exact Zsy (by rw [← g3];simpa using g4)),rfl,rfl⟩
 try simp only [sQ,ne_eq] at g4
 refine xM (h:=xM (h:=Zbx (h:=xF (h:=Zc rfl (fun g5=>?_) (fun g5=>?_)))))
 try simp only [sQ,ne_eq] at g5
 refine Za (xA (h:=Zi (Zs (ZM (Zs (Zaa (ZM (Zs ?_))))))))
 exact Z2 .ret (.inl rfl) [_] t1 ⟨Zn (by rw [hs];exact Zsx (by rw [← g3];simpa using g5)),rfl,rfl⟩
 try simp only [sQ,ne_eq] at g5
 refine Zh (Zf (Zd (xM (h:=xA (h:=Zy (Zf (Zd (xD (h:=xM (h:=?_))))))))))
 exact ZA ⟨h.k+1,0,lo,_,_,yso,hat h.xs 0⟩ [0,1] so2 ⟨rfl,so,List.Perm.cons_inv ((show (x.id :: yso).Perm (hat h.xs 0 :: yso) from by rw [g3]).trans (hpo.trans hp)),hho,by simp only [];rw [hs,g3];exact Zvp (by rw [← g3];simpa using g4) (by rw [← g3];simpa using g5),hvo⟩ t11 rfl
 try simp only [sQ,ne_eq] at g2
 rw [ZqL oz,List.map_nil,asc] at hs
 refine ZU (Zad (ZV (ZF (Zf (Za (xA (h:=Zi ?_)))))))
 exact Z2 .ret (.inl rfl) [_] t1 ⟨Zn hs.symm,rfl,rfl⟩

end Go.Proofs.YtkgobijihcfikaaGreat
