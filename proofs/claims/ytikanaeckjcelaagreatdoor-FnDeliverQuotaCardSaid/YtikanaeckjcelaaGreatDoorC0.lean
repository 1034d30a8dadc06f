/-
  WHAT THE FUNCTIONS THAT THE LAWS REACH COMPUTE: each function's contract, proved off its printed body (the text is written by program). No condition beyond those that each theorem states.
-/
import Derived.Test.YtikanaeckjcelaaGreatDoorRows
import Derived.Test.YtikanaeckjcelaaGreatDoorL0
import Derived.KernelRfl
namespace Go.Proofs.YtikanaeckjcelaaGreatDoor
open Go Go.BL
set_option linter.unusedVariables false
set_option linter.unusedSimpArgs false
noncomputable abbrev pj (J : JoinT) : PJ := ⟨Tryz.prog, J⟩
noncomputable abbrev wgL : Go.Conc.Lib.WgLink := { add := 95, done := 97, wait := 100, relMerge := 128, disable := 129, enable := 130, inBubble := 131, associate := 132, fatal := 133, uOr := 134, uAdd := 135, raceRead := 136, uLoad := 137, uStore := 138, disassociate := 139, semrelease := 140, acquire := 142, isAssociated := 143, uCas := 144, raceWrite := 145, semacquire := 146, orU64 := 164, addU64 := 165, loadU64 := 166, storeU64 := 167, casU64 := 169, tWg := 154, tUP := 196, tAssoc := 197, tAU := 151, tU64 := 149, tUint := 201, tU32 := 152, tNoCopy := 146, tANoCopy := 147, tAlign64 := 148, tWgP := 194, tPU32 := 202, tPAU := 230, tPU64 := 232 }
theorem Zm5 : Go.Conc.Lib.WgLib Tryz.prog wgL :=
  ⟨Tryz.func95, Tryz.func97, Tryz.func100, Tryz.func128, Tryz.func129, Tryz.func130, Tryz.func131, Tryz.func132, Tryz.func133, Tryz.func134, Tryz.func135, Tryz.func136, Tryz.func137, Tryz.func138, Tryz.func139, Tryz.func140, Tryz.func142, Tryz.func143, Tryz.func144, Tryz.func145, Tryz.func146, Tryz.func164, Tryz.func165, Tryz.func166, Tryz.func167, Tryz.func169, Tryz.underlying194, Tryz.runUnderlying194, Tryz.sizeOf194, Tryz.isAgg194, Tryz.zeroValue194, Tryz.underlying196, Tryz.runUnderlying196, Tryz.sizeOf196, Tryz.isAgg196, Tryz.zeroValue196, Tryz.underlying197, Tryz.runUnderlying197, Tryz.sizeOf197, Tryz.isAgg197, Tryz.zeroValue197, Tryz.underlying154, Tryz.runUnderlying154, Tryz.sizeOf154, Tryz.isAgg154, Tryz.zeroValue154, Tryz.underlying151, Tryz.runUnderlying151, Tryz.sizeOf151, Tryz.isAgg151, Tryz.zeroValue151, Tryz.underlying149, Tryz.runUnderlying149, Tryz.sizeOf149, Tryz.isAgg149, Tryz.zeroValue149, Tryz.underlying201, Tryz.runUnderlying201, Tryz.sizeOf201, Tryz.isAgg201, Tryz.zeroValue201, Tryz.underlying152, Tryz.runUnderlying152, Tryz.sizeOf152, Tryz.isAgg152, Tryz.zeroValue152, Tryz.underlying202, Tryz.runUnderlying202, Tryz.sizeOf202, Tryz.isAgg202, Tryz.zeroValue202, Tryz.underlying230, Tryz.runUnderlying230, Tryz.sizeOf230, Tryz.isAgg230, Tryz.zeroValue230, Tryz.underlying232, Tryz.runUnderlying232, Tryz.sizeOf232, Tryz.isAgg232, Tryz.zeroValue232, Tryz.underlying0, Tryz.runUnderlying0, Tryz.sizeOf0, Tryz.isAgg0, Tryz.zeroValue0, Tryz.underlying3, Tryz.runUnderlying3, Tryz.sizeOf3, Tryz.isAgg3, Tryz.zeroValue3, Tryz.underlying4, Tryz.runUnderlying4, Tryz.sizeOf4, Tryz.isAgg4, Tryz.zeroValue4, Tryz.underlying9, Tryz.runUnderlying9, Tryz.sizeOf9, Tryz.isAgg9, Tryz.zeroValue9, Tryz.underlying20, Tryz.runUnderlying20, Tryz.sizeOf20, Tryz.isAgg20, Tryz.zeroValue20, Tryz.underlying21, Tryz.runUnderlying21, Tryz.sizeOf21, Tryz.isAgg21, Tryz.zeroValue21, (by kernel_rfl), (by kernel_rfl)⟩
theorem ZeF : enters Tryz.prog 114 = true := by kernel_rfl
theorem mo : Tryz.prog.follows .mixedOrders = true := by kernel_rfl
theorem Zcv : ZP Tryz.prog 141 1 = some 1 := by kernel_rfl
theorem lk3 : lk Tryz.prog 3 = some none := by kernel_rfl
theorem Zhs : ZP Tryz.prog 141 0 = some 0 := by kernel_rfl
theorem lk9 : lk Tryz.prog 9 = some none := by kernel_rfl
theorem Zxf : enters Tryz.prog 92 = true := by kernel_rfl
theorem sz3 : Z8 Tryz.prog 3 = some 1 := by kernel_rfl
theorem Zym : enters Tryz.prog 162 = true := by kernel_rfl
theorem Zvw : enters Tryz.prog 125 = true := by kernel_rfl
theorem Zyx : enters Tryz.prog 126 = true := by kernel_rfl
theorem Zwt : Za5 Tryz.prog 141 = some [(0, 1), (1, 1)] := by kernel_rfl
theorem Zsp : ZaB Tryz.prog 141 = some (.agg #[.string ⟨#[]⟩, .int .i64 0]) := by kernel_rfl
theorem Zwm : Z8 Tryz.prog 141 = some 2 := by kernel_rfl
theorem sz5 : Z8 Tryz.prog 5 = some 1 := by kernel_rfl
theorem Zwv : Za5 Tryz.prog 110 = some [(0, 1), (1, 1)] := by kernel_rfl
theorem ZvW : ZaB Tryz.prog 110 = some (.agg #[.slice none 0 0, .int .i64 0]) := by kernel_rfl
theorem ZnO : ZP Tryz.prog 110 1 = some 1 := by kernel_rfl
theorem Zfs : ZP Tryz.prog 110 0 = some 0 := by kernel_rfl
theorem Zt5 : lk Tryz.prog 22 = some none := by kernel_rfl
theorem lk5 : lk Tryz.prog 5 = some none := by kernel_rfl
theorem Za7 : enters Tryz.prog 23 = true := by kernel_rfl
theorem sz9 : Z8 Tryz.prog 9 = some 1 := by kernel_rfl
theorem zo9 : ZaB Tryz.prog 9 = some (.string ⟨#[]⟩) := by kernel_rfl
theorem ZoK : enters Tryz.prog 65 = true := by kernel_rfl
theorem ZoI : Zck Tryz.prog 62 9 1 16 = true := by kernel_rfl
theorem Zoc : (match Program.underlying Tryz.prog 62 with | some (.slice _) => true | _ => false) = true := by kernel_rfl
theorem ZyD : enters Tryz.prog 112 = true := by kernel_rfl
theorem Zlq : enters Tryz.prog 113 = true := by kernel_rfl
theorem Ze3 : Z8 Tryz.prog 53 = some 3 := by kernel_rfl
theorem Zdj : ZP Tryz.prog 53 0 = some 0 := by kernel_rfl
theorem Zy0 : enters Tryz.prog 80 = true := by kernel_rfl
theorem Zjz : ZP Tryz.prog 127 0 = some 0 := by kernel_rfl
theorem Zjy : ZP Tryz.prog 127 1 = some 1 := by kernel_rfl
theorem Ze9 : lk Tryz.prog 62 = some none := by kernel_rfl
theorem Zys : enters Tryz.prog 157 = true := by kernel_rfl
theorem ZnN : ZP Tryz.prog 127 2 = some 2 := by kernel_rfl
theorem Zza : enters Tryz.prog 39 = true := by kernel_rfl
theorem ZvQ : enters Tryz.prog 98 = true := by kernel_rfl
theorem Zyq : enters Tryz.prog 159 = true := by kernel_rfl
theorem ZyB : enters Tryz.prog 121 = true := by kernel_rfl
theorem Zdk : ZP Tryz.prog 27 0 = some 0 := by kernel_rfl
theorem Zan : ZP Tryz.prog 27 1 = some 1 := by kernel_rfl
theorem Zej : lk Tryz.prog 25 = some none := by kernel_rfl
theorem Zdf : Z8 Tryz.prog 64 = some 4 := by kernel_rfl
theorem Zh4 : lk Tryz.prog 64 = some (some 4) := by kernel_rfl
theorem Zgw : ZaB Tryz.prog 64 = some (.agg #[.int .i64 0, .string ⟨#[]⟩, .string ⟨#[]⟩, .slice none 0 0]) := by kernel_rfl
theorem Zdi : ZP Tryz.prog 64 0 = some 0 := by kernel_rfl
theorem ZkG : ZP Tryz.prog 64 1 = some 1 := by kernel_rfl
theorem ZkF : ZP Tryz.prog 64 2 = some 2 := by kernel_rfl
theorem ZaO : ZP Tryz.prog 64 3 = some 3 := by kernel_rfl
theorem ZzO : enters Tryz.prog 57 = true := by kernel_rfl
theorem ZsQ : Za5 Tryz.prog 127 = some [(0, 1), (1, 1), (2, 1)] := by kernel_rfl
theorem ZoS : ZaB Tryz.prog 127 = some (.agg #[.string ⟨#[]⟩, .slice none 0 0, .string ⟨#[]⟩]) := by kernel_rfl
theorem Zvy : enters Tryz.prog 115 = true := by kernel_rfl
theorem Zyj : enters Tryz.prog 172 = true := by kernel_rfl
theorem ZfL : ZaB Tryz.prog 27 = some (.agg #[.int .i64 0, .slice none 0 0]) := by kernel_rfl
theorem ZsP : Za5 Tryz.prog 27 = some [(0, 1), (1, 1)] := by kernel_rfl
theorem Zdg : Z8 Tryz.prog 27 = some 2 := by kernel_rfl
theorem Zux : Z8 Tryz.prog 62 = some 1 := by kernel_rfl
theorem ZvP : Zck Tryz.prog 25 64 4 64 = true := by kernel_rfl
theorem ZvM : (match Program.underlying Tryz.prog 25 with | some (.slice _) => true | _ => false) = true := by kernel_rfl
theorem ZvL : Z8 Tryz.prog 25 = some 1 := by kernel_rfl
theorem Zb4 : lk Tryz.prog 27 = some (some 2) := by kernel_rfl
theorem ZxX : enters Tryz.prog 75 = true := by kernel_rfl
theorem Znw : lk Tryz.prog 127 = some (some 3) := by kernel_rfl
theorem ZkK : enters Tryz.prog 82 = true := by kernel_rfl
theorem Zzm : Za5 Tryz.prog 64 = some [(0, 1), (1, 1), (2, 1), (3, 1)] := by kernel_rfl
theorem ZzC : enters Tryz.prog 81 = true := by kernel_rfl
theorem Zzd : enters Tryz.prog 31 = true := by kernel_rfl
theorem Zyi : enters Tryz.prog 173 = true := by kernel_rfl
theorem ZrQ : enters Tryz.prog 150 = true := by kernel_rfl
theorem Zuy : Z8 Tryz.prog 127 = some 3 := by kernel_rfl
theorem Zvm : enters Tryz.prog 64 = true := by kernel_rfl
theorem ZwT : enters Tryz.prog 153 = true := by kernel_rfl
theorem Ztv : enters Tryz.prog 152 = true := by kernel_rfl
theorem ZwS : enters Tryz.prog 154 = true := by kernel_rfl
theorem zo3 : ZaB Tryz.prog 3 = some (.int .i64 0) := by kernel_rfl
theorem ZyT : ZaB Tryz.prog 79 = some (.pointer none) := by kernel_rfl
theorem Zzy : enters Tryz.prog 87 = true := by kernel_rfl
theorem Zyy : enters Tryz.prog 124 = true := by kernel_rfl
theorem Zpo : lk Tryz.prog 79 = some none := by kernel_rfl
theorem Zzx : enters Tryz.prog 88 = true := by kernel_rfl
theorem Zzl : Za5 Tryz.prog 83 = some [(0, 4), (4, 1)] := by kernel_rfl
theorem Zzh : ZaB Tryz.prog 83 = some (.agg #[.int .i64 0, .string ⟨#[]⟩, .string ⟨#[]⟩, .slice none 0 0, .pointer none]) := by kernel_rfl
theorem ZxF : Z8 Tryz.prog 79 = some 1 := by kernel_rfl
theorem Zrz : ZP Tryz.prog 83 0 = some 0 := by kernel_rfl
theorem Zry : ZP Tryz.prog 83 1 = some 4 := by kernel_rfl
theorem Zzb : enters Tryz.prog 37 = true := by kernel_rfl
theorem Zx0 : enters Tryz.prog 41 = true := by kernel_rfl
theorem ZfN : lk Tryz.prog 186 = some none := by kernel_rfl
theorem ZxV : Zck Tryz.prog 186 3 1 8 = true := by kernel_rfl
theorem ZxJ : (match Program.underlying Tryz.prog 186 with | some (.slice _) => true | _ => false) = true := by kernel_rfl
theorem Zwk : Z8 Tryz.prog 186 = some 1 := by kernel_rfl
theorem Zew : Zk8 Tryz.prog 184 "Less" 225 false = true := by kernel_rfl
theorem ZrN : enters Tryz.prog 225 = true := by kernel_rfl
theorem Zev : Zk8 Tryz.prog 184 "Swap" 228 false = true := by kernel_rfl
theorem ZrM : enters Tryz.prog 228 = true := by kernel_rfl
theorem Zpj : Zk8 Tryz.prog 184 "Push" 227 true = true := by kernel_rfl
theorem Zx3 : enters Tryz.prog 227 = true := by kernel_rfl
theorem Zme : Zk8 Tryz.prog 184 "Len" 224 false = true := by kernel_rfl
theorem ZwO : enters Tryz.prog 224 = true := by kernel_rfl
theorem Zyo : enters Tryz.prog 160 = true := by kernel_rfl
theorem Zyn : enters Tryz.prog 161 = true := by kernel_rfl
theorem Zq4 : Zk8 Tryz.prog 184 "Pop" 226 true = true := by kernel_rfl
theorem Zx4 : enters Tryz.prog 226 = true := by kernel_rfl
theorem ZyA : enters Tryz.prog 122 = true := by kernel_rfl
theorem Zyz : enters Tryz.prog 123 = true := by kernel_rfl
theorem ZzA : enters Tryz.prog 85 = true := by kernel_rfl
theorem Zzz : enters Tryz.prog 86 = true := by kernel_rfl
theorem Zzc : enters Tryz.prog 36 = true := by kernel_rfl
theorem Zx1 : enters Tryz.prog 38 = true := by kernel_rfl
theorem ZzY : enters Tryz.prog 40 = true := by kernel_rfl
theorem ZhY : ZP Tryz.prog 97 0 = some 0 := by kernel_rfl
theorem Zjt : ZP Tryz.prog 97 1 = some 1 := by kernel_rfl
theorem ZrP : enters Tryz.prog 171 = true := by kernel_rfl
theorem ZmC : ZP Tryz.prog 97 2 = some 2 := by kernel_rfl
theorem Zy8 : enters Tryz.prog 44 = true := by kernel_rfl
theorem ZaP : ZP Tryz.prog 40 1 = some 1 := by kernel_rfl
theorem Zfl : lk Tryz.prog 38 = some none := by kernel_rfl
theorem Zgx : Z8 Tryz.prog 97 = some 3 := by kernel_rfl
theorem Zpn : lk Tryz.prog 97 = some (some 3) := by kernel_rfl
theorem Zyr : enters Tryz.prog 158 = true := by kernel_rfl
theorem ZbR : ZP Tryz.prog 40 0 = some 0 := by kernel_rfl
theorem ZlB : ZaB Tryz.prog 97 = some (.agg #[.int .i64 0, .int .i64 0, .string ⟨#[]⟩]) := by kernel_rfl
theorem Zzw : enters Tryz.prog 89 = true := by kernel_rfl
theorem ZbA : lk Tryz.prog 40 = some (some 2) := by kernel_rfl
theorem ZxZ : enters Tryz.prog 43 = true := by kernel_rfl
theorem ZrA : ZP Tryz.prog 53 1 = some 1 := by kernel_rfl
theorem ZhZ : ZP Tryz.prog 53 2 = some 2 := by kernel_rfl
theorem Zov : lk Tryz.prog 53 = some (some 3) := by kernel_rfl
theorem Zgy : ZaB Tryz.prog 53 = some (.agg #[.string ⟨#[]⟩, .string ⟨#[]⟩, .int .i64 0]) := by kernel_rfl
theorem Zzt : enters Tryz.prog 93 = true := by kernel_rfl
theorem Zy6 : enters Tryz.prog 52 = true := by kernel_rfl
theorem ZsO : Za5 Tryz.prog 53 = some [(0, 1), (1, 1), (2, 1)] := by kernel_rfl
theorem ZzN : enters Tryz.prog 58 = true := by kernel_rfl
theorem ZzM : enters Tryz.prog 59 = true := by kernel_rfl
theorem ZbS : ZP Tryz.prog 29 1 = some 1 := by kernel_rfl
theorem Zi1 : lk Tryz.prog 23 = some none := by kernel_rfl
theorem Zyb : enters Tryz.prog 18 = true := by kernel_rfl
theorem Z4 : ZP Tryz.prog 29 2 = some 2 := by kernel_rfl
theorem ZcJ : lk Tryz.prog 24 = some none := by kernel_rfl
theorem Zbq : Z8 Tryz.prog 42 = some 5 := by kernel_rfl
theorem Zdc : ZP Tryz.prog 42 0 = some 0 := by kernel_rfl
theorem ZfT : ZP Tryz.prog 42 1 = some 1 := by kernel_rfl
theorem ZhQ : lk Tryz.prog 42 = some (some 5) := by kernel_rfl
theorem ZzI : enters Tryz.prog 69 = true := by kernel_rfl
theorem ZzH : enters Tryz.prog 70 = true := by kernel_rfl
theorem ZaU : ZP Tryz.prog 29 3 = some 3 := by kernel_rfl
theorem Zxg : enters Tryz.prog 60 = true := by kernel_rfl
theorem ZbM : Z8 Tryz.prog 191 = some 2 := by kernel_rfl
theorem ZcZ : ZP Tryz.prog 191 0 = some 0 := by kernel_rfl
theorem Zhr : ZP Tryz.prog 191 1 = some 1 := by kernel_rfl
theorem Zt9 : enters Tryz.prog 78 = true := by kernel_rfl
theorem ZbC : ZP Tryz.prog 42 3 = some 3 := by kernel_rfl
theorem ZyC : enters Tryz.prog 119 = true := by kernel_rfl
theorem ZdF : ZaB Tryz.prog 42 = some (.agg #[.string ⟨#[]⟩, .string ⟨#[]⟩, .slice none 0 0, .int .i64 0, .slice none 0 0]) := by kernel_rfl
theorem Zea : ZP Tryz.prog 42 2 = some 2 := by kernel_rfl
theorem Zs1 : lk Tryz.prog 37 = some none := by kernel_rfl
theorem Zty : enters Tryz.prog 116 = true := by kernel_rfl
theorem Ztx : enters Tryz.prog 117 = true := by kernel_rfl
theorem ZwU : enters Tryz.prog 118 = true := by kernel_rfl
theorem Zju : ZP Tryz.prog 29 0 = some 0 := by kernel_rfl
theorem ZzF : enters Tryz.prog 73 = true := by kernel_rfl
theorem ZzE : enters Tryz.prog 74 = true := by kernel_rfl
theorem ZW : lk Tryz.prog 29 = some (some 5) := by kernel_rfl
theorem ZzD : enters Tryz.prog 76 = true := by kernel_rfl
theorem Zvn : enters Tryz.prog 34 = true := by kernel_rfl
theorem Zy2 : enters Tryz.prog 77 = true := by kernel_rfl
theorem Zy1 : enters Tryz.prog 79 = true := by kernel_rfl
theorem Zpq : lk Tryz.prog 191 = some (some 2) := by kernel_rfl
theorem ZdX : ZaB Tryz.prog 191 = some (.agg #[.string ⟨#[]⟩, .int .i64 0]) := by kernel_rfl
theorem Zyl : enters Tryz.prog 168 = true := by kernel_rfl
theorem Zyv : enters Tryz.prog 141 = true := by kernel_rfl
theorem ZwF : Extern.findNext Tryz.f163 = none := by kernel_rfl
theorem ZwG : Extern.find Tryz.f163 = some Extern.BytealgCompare.compare := by kernel_rfl
theorem Zyw : enters Tryz.prog 127 = true := by kernel_rfl
theorem ZyY : enters Tryz.prog 94 = true := by kernel_rfl
theorem ZyN : enters Tryz.prog 102 = true := by kernel_rfl
theorem Zy5 : enters Tryz.prog 61 = true := by kernel_rfl
theorem ZwN : enters Tryz.prog 28 = true := by kernel_rfl
theorem Zy3 : enters Tryz.prog 68 = true := by kernel_rfl
theorem sz4 : Z8 Tryz.prog 4 = some 1 := by kernel_rfl
theorem lk4 : lk Tryz.prog 4 = some none := by kernel_rfl
theorem Zyu : enters Tryz.prog 147 = true := by kernel_rfl
theorem Zzu : enters Tryz.prog 91 = true := by kernel_rfl
theorem Zwy : lk Tryz.prog 144 = some none := by kernel_rfl
theorem ZxR : lk Tryz.prog 67 = some none := by kernel_rfl
theorem Zzr : enters Tryz.prog 99 = true := by kernel_rfl
theorem Zxo : ZaB Tryz.prog 154 = some (.agg #[.int .u64 0, .int .u32 0]) := by kernel_rfl
theorem ZxW : Zck Tryz.prog 144 4 1 1 = true := by kernel_rfl
theorem zo4 : ZaB Tryz.prog 4 = some (.bool false) := by kernel_rfl
theorem Zxp : ZaB Tryz.prog 144 = some (.slice none 0 0) := by kernel_rfl
theorem ZxI : Z8 Tryz.prog 144 = some 1 := by kernel_rfl
theorem Zzs : enters Tryz.prog 95 = true := by kernel_rfl
theorem ZyP : enters Tryz.prog 100 = true := by kernel_rfl
theorem ZyO : enters Tryz.prog 101 = true := by kernel_rfl
theorem ZzT : enters Tryz.prog 51 = true := by kernel_rfl
theorem ZzS : enters Tryz.prog 53 = true := by kernel_rfl
theorem ZzR : enters Tryz.prog 54 = true := by kernel_rfl
theorem ZzQ : enters Tryz.prog 55 = true := by kernel_rfl
theorem ZzP : enters Tryz.prog 56 = true := by kernel_rfl
theorem Zyp : enters Tryz.prog 16 = true := by kernel_rfl
theorem ZwE : Zh0 Tryz.prog 53 [(0, 9), (1, 9), (2, 3)] = true := by kernel_rfl
theorem Zva : Zh0 Tryz.prog 191 [(0, 9), (1, 3)] = true := by kernel_rfl
theorem ZwD : Zh0 Tryz.prog 97 [(0, 3), (1, 3), (2, 9)] = true := by kernel_rfl
theorem ZzV : enters Tryz.prog 49 = true := by kernel_rfl
theorem Zzv : enters Tryz.prog 90 = true := by kernel_rfl
theorem Zz5 : enters Tryz.prog 14 = true := by kernel_rfl
theorem ZzU : enters Tryz.prog 50 = true := by kernel_rfl
theorem ZzZ : enters Tryz.prog 35 = true := by kernel_rfl
theorem Zze : enters Tryz.prog 19 = true := by kernel_rfl
theorem Zyk : enters Tryz.prog 17 = true := by kernel_rfl
theorem ZoJ : Zck Tryz.prog 23 53 3 40 = true := by kernel_rfl
theorem Zod : (match Program.underlying Tryz.prog 23 with | some (.slice _) => true | _ => false) = true := by kernel_rfl
theorem Ze6 : ZaB Tryz.prog 40 = some (.agg #[.int .i64 0, .slice none 0 0]) := by kernel_rfl
theorem ZvO : Zck Tryz.prog 38 97 3 32 = true := by kernel_rfl
theorem Zwn : (match Program.underlying Tryz.prog 38 with | some (.slice _) => true | _ => false) = true := by kernel_rfl
theorem Zns : Za5 Tryz.prog 40 = some [(0, 1), (1, 1)] := by kernel_rfl
theorem ZcE : Z8 Tryz.prog 40 = some 2 := by kernel_rfl
theorem ZrL : Zck Tryz.prog 37 191 2 24 = true := by kernel_rfl
theorem ZqB : (match Program.underlying Tryz.prog 37 with | some (.slice _) => true | _ => false) = true := by kernel_rfl
theorem Zwi : Z8 Tryz.prog 37 = some 1 := by kernel_rfl
theorem ZxY : enters Tryz.prog 45 = true := by kernel_rfl
theorem Zws : Za5 Tryz.prog 42 = some [(0, 1), (1, 1), (2, 1), (3, 2)] := by kernel_rfl
theorem Zy9 : enters Tryz.prog 42 = true := by kernel_rfl
theorem Za2 : ZaB Tryz.prog 29 = some (.agg #[.string ⟨#[]⟩, .slice none 0 0, .slice none 0 0, .int .i64 0, .slice none 0 0]) := by kernel_rfl
theorem Zd6 : Za5 Tryz.prog 29 = some [(0, 1), (1, 1), (2, 1), (3, 2)] := by kernel_rfl
theorem Zaq : Z8 Tryz.prog 29 = some 5 := by kernel_rfl
theorem ZjF : Zck Tryz.prog 24 42 5 88 = true := by kernel_rfl
theorem ZjV : (match Program.underlying Tryz.prog 24 with | some (.slice _) => true | _ => false) = true := by kernel_rfl
theorem Zsl : Z8 Tryz.prog 24 = some 1 := by kernel_rfl
theorem Zsn : enters Tryz.prog 30 = true := by kernel_rfl
theorem Zvp : enters Tryz.prog 193 = true := by kernel_rfl
theorem Zx6 : enters Tryz.prog 190 = true := by kernel_rfl
theorem ZwP : enters Tryz.prog 186 = true := by kernel_rfl
theorem ZxG : Z8 Tryz.prog 38 = some 1 := by kernel_rfl
theorem Zvx : enters Tryz.prog 120 = true := by kernel_rfl
theorem ZzB : enters Tryz.prog 83 = true := by kernel_rfl
theorem ZyW : Za5 Tryz.prog 97 = some [(0, 1), (1, 1), (2, 1)] := by kernel_rfl
theorem ZoL : enters Tryz.prog 32 = true := by kernel_rfl
theorem ZyZ : enters Tryz.prog 84 = true := by kernel_rfl
theorem ZrO : enters Tryz.prog 181 = true := by kernel_rfl
theorem Zxh : enters Tryz.prog 33 = true := by kernel_rfl
theorem ZwQ : enters Tryz.prog 170 = true := by kernel_rfl
theorem ZuG : Za5 Tryz.prog 191 = some [(0, 1), (1, 1)] := by kernel_rfl
theorem Zvv : enters Tryz.prog 148 = true := by kernel_rfl
theorem Zvq : enters Tryz.prog 191 = true := by kernel_rfl
theorem Zx9 : enters Tryz.prog 187 = true := by kernel_rfl
theorem Zx8 : enters Tryz.prog 188 = true := by kernel_rfl
theorem ZwM : Zck Tryz.prog 185 3 1 8 = true := by kernel_rfl
theorem Zwo : (match Program.underlying Tryz.prog 185 with | some (.slice _) => true | _ => false) = true := by kernel_rfl
theorem Zqz : Z8 Tryz.prog 241 = some 2 := by kernel_rfl
theorem ZrC : ZP Tryz.prog 241 0 = some 0 := by kernel_rfl
theorem ZrB : ZP Tryz.prog 241 1 = some 1 := by kernel_rfl
theorem Zvu : enters Tryz.prog 182 = true := by kernel_rfl
theorem Zx5 : enters Tryz.prog 192 = true := by kernel_rfl
theorem Zu8 : ZP Tryz.prog 239 1 = some 1 := by kernel_rfl
theorem Zu7 : ZP Tryz.prog 239 2 = some 2 := by kernel_rfl
theorem ZnL : ZP Tryz.prog 239 0 = some 0 := by kernel_rfl
theorem Zx7 : enters Tryz.prog 189 = true := by kernel_rfl
theorem Zpp : lk Tryz.prog 239 = some (some 3) := by kernel_rfl
theorem Zvt : enters Tryz.prog 183 = true := by kernel_rfl
theorem Zvr : enters Tryz.prog 185 = true := by kernel_rfl
theorem Zvs : enters Tryz.prog 184 = true := by kernel_rfl
theorem Zlp : enters Tryz.prog 151 = true := by kernel_rfl
theorem Zgl : ZP Tryz.prog 167 1 = some 1 := by kernel_rfl
theorem Zln : ZP Tryz.prog 167 2 = some 2 := by kernel_rfl
theorem Zjv : ZP Tryz.prog 167 3 = some 3 := by kernel_rfl
theorem ZxL : Za5 Tryz.prog 239 = some [(0, 1), (1, 1), (2, 1)] := by kernel_rfl
theorem ZvU : ZaB Tryz.prog 239 = some (.agg #[.string ⟨#[]⟩, .string ⟨#[]⟩, .string ⟨#[]⟩]) := by kernel_rfl
theorem ZxH : Z8 Tryz.prog 239 = some 3 := by kernel_rfl
theorem Zbz : ZP Tryz.prog 167 6 = some 6 := by kernel_rfl
theorem ZxK : Za5 Tryz.prog 241 = some [(0, 1), (1, 1)] := by kernel_rfl
theorem ZvT : ZaB Tryz.prog 241 = some (.agg #[.int .i64 0, .int .i64 0]) := by kernel_rfl
theorem Zce : ZP Tryz.prog 167 0 = some 0 := by kernel_rfl
theorem Zyh : enters Tryz.prog 174 = true := by kernel_rfl
theorem Zel : ZP Tryz.prog 167 4 = some 4 := by kernel_rfl
theorem Zyg : enters Tryz.prog 175 = true := by kernel_rfl
theorem ZrD : ZP Tryz.prog 167 5 = some 5 := by kernel_rfl
theorem Zyf : enters Tryz.prog 176 = true := by kernel_rfl
theorem Zye : enters Tryz.prog 177 = true := by kernel_rfl
theorem en9 : enters Tryz.prog 9 = true := by kernel_rfl
theorem ZnM : ZP Tryz.prog 167 7 = some 7 := by kernel_rfl
theorem Zyd : enters Tryz.prog 178 = true := by kernel_rfl
theorem Zyc : enters Tryz.prog 179 = true := by kernel_rfl
theorem Zya : enters Tryz.prog 180 = true := by kernel_rfl
theorem ZuR : lk Tryz.prog 167 = some (some 8) := by kernel_rfl
theorem Zyt : enters Tryz.prog 155 = true := by kernel_rfl
theorem Zuh : ZaB Tryz.prog 167 = some (.agg #[.int .i64 0, .string ⟨#[]⟩, .string ⟨#[]⟩, .string ⟨#[]⟩, .string ⟨#[]⟩, .string ⟨#[]⟩, .int .i64 0, .int .i64 0]) := by kernel_rfl
theorem ZxM : Za5 Tryz.prog 167 = some [(0, 1), (1, 1), (2, 1), (3, 1), (4, 1), (5, 1), (6, 1), (7, 1)] := by kernel_rfl
theorem Zwl : Z8 Tryz.prog 167 = some 8 := by kernel_rfl
theorem ZwR : enters Tryz.prog 156 = true := by kernel_rfl
theorem Ztw : enters Tryz.prog 149 = true := by kernel_rfl
theorem ZyH : enters Tryz.prog 108 = true := by kernel_rfl
theorem ZyF : enters Tryz.prog 110 = true := by kernel_rfl
theorem ZyG : enters Tryz.prog 109 = true := by kernel_rfl
theorem Zy4 : enters Tryz.prog 63 = true := by kernel_rfl
theorem ZyM : enters Tryz.prog 103 = true := by kernel_rfl
theorem ZyL : enters Tryz.prog 104 = true := by kernel_rfl
theorem Zzi : Z8 Tryz.prog 23 = some 1 := by kernel_rfl
theorem ZyK : enters Tryz.prog 105 = true := by kernel_rfl
theorem ZyJ : enters Tryz.prog 106 = true := by kernel_rfl
theorem ZyI : enters Tryz.prog 107 = true := by kernel_rfl
theorem ZzL : enters Tryz.prog 62 = true := by kernel_rfl
theorem Zzg : (Tryz.prog.info? 264).map (·.comparable) = some true := by kernel_rfl
theorem Zwj : Z8 Tryz.prog 289 = some 1 := by kernel_rfl
theorem Zxn : ZaB Tryz.prog 173 = some (.nilIface) := by kernel_rfl
theorem Zxm : ZaB Tryz.prog 176 = some (.nilIface) := by kernel_rfl
theorem Zxl : ZaB Tryz.prog 178 = some (.nilIface) := by kernel_rfl
theorem ZzG : enters Tryz.prog 72 = true := by kernel_rfl
theorem Zp5 : lk Tryz.prog 69 = some none := by kernel_rfl
theorem Zvo : enters Tryz.prog 29 = true := by kernel_rfl
theorem ZyE : enters Tryz.prog 111 = true := by kernel_rfl
theorem ZzK : enters Tryz.prog 66 = true := by kernel_rfl
theorem ZzJ : enters Tryz.prog 67 = true := by kernel_rfl
theorem Zwu : Za5 Tryz.prog 138 = some [(0, 3), (3, 1)] := by kernel_rfl
theorem ZvV : ZaB Tryz.prog 138 = some (.agg #[.int .i64 0, .int .i64 0, .string ⟨#[]⟩, .pointer none]) := by kernel_rfl
theorem Zjx : ZP Tryz.prog 136 1 = some 1 := by kernel_rfl
theorem Zrb : lk Tryz.prog 134 = some none := by kernel_rfl
theorem ZrF : ZP Tryz.prog 136 0 = some 0 := by kernel_rfl
theorem Zsz : Z8 Tryz.prog 134 = some 1 := by kernel_rfl
theorem Zjw : ZP Tryz.prog 136 2 = some 2 := by kernel_rfl
theorem ZrE : ZP Tryz.prog 138 1 = some 3 := by kernel_rfl
theorem ZxN : Za5 Tryz.prog 136 = some [(0, 1), (1, 1), (2, 1)] := by kernel_rfl
theorem Zxq : ZaB Tryz.prog 136 = some (.agg #[.pointer none, .pointer none, .int .i64 0]) := by kernel_rfl
theorem Zy7 : enters Tryz.prog 47 = true := by kernel_rfl
theorem Zu9 : ZP Tryz.prog 138 0 = some 0 := by kernel_rfl
theorem ZzX : enters Tryz.prog 46 = true := by kernel_rfl
theorem ZzW : enters Tryz.prog 48 = true := by kernel_rfl
theorem Zz6 : enters Tryz.prog 13 = true := by kernel_rfl
theorem ZvR : enters Tryz.prog 11 = true := by kernel_rfl
theorem Zx2 : enters Tryz.prog 27 = true := by kernel_rfl
theorem Zz0 : enters Tryz.prog 26 = true := by kernel_rfl
theorem Zz1 : enters Tryz.prog 25 = true := by kernel_rfl
theorem Zzf : enters Tryz.prog 12 = true := by kernel_rfl
theorem Zz3 : enters Tryz.prog 21 = true := by kernel_rfl
theorem Zz2 : enters Tryz.prog 22 = true := by kernel_rfl
theorem Zxi : enters Tryz.prog 24 = true := by kernel_rfl
theorem en7 : enters Tryz.prog 7 = true := by kernel_rfl
theorem en8 : enters Tryz.prog 8 = true := by kernel_rfl
theorem Zua : enters Tryz.prog 10 = true := by kernel_rfl
theorem Zz4 : enters Tryz.prog 20 = true := by kernel_rfl
set_option maxRecDepth 4000
set_option maxHeartbeats 6400000
variable {J : JoinT}
abbrev cur (b : Nat) (l : List UInt8) (i : Nat) : Cells := Zah b [str l, .int .i64 i] 141
theorem ZcA (n lo hi:Int) (B:Kn):ZaM (pj J) 114 [.int .i64 n,.int .i64 lo,.int .i64 hi] B (.bool (decide (lo≤n) && decide (n≤hi))):=by
 refine cB 15 Tryz.func114 (h:=?_)
 refine Za (xA (h:=Z2 [(0,_),(1,_),(2,_),(6,_)] t4 (Za (xM (h:=xM (h:=Zeo (h:=xM (h:=Zo (d:=10) rfl (fun g1=>?_) (fun g1=>?_)))))))))
 try simp only [sQ,ne_eq] at g1
 refine xM (h:=xM (h:=ZcU (h:=xT (h:=xA (h:=Z2 [(0,_),(1,_),(2,_),(6,_)] t4 (Zd ?_))))))
 exact eR t1 ⟨by exact Zh (by rw [Bool.eq_iff_iff];simp [];omega),rfl,rfl⟩
 try simp only [sQ,ne_eq] at g1
 refine xP (h:=xP (h:=xP (h:=xF (h:=xA (h:=Z2 [(0,_),(1,_),(2,_),(6,_)] t4 (Zd ?_))))))
 exact eR t1 ⟨by exact Zh (by rw [Bool.eq_iff_iff];simp [];omega),rfl,rfl⟩

theorem Zpi (c:UInt8) (B:Kn):ZaM (pj J) 162 [.int .u8 c.toNat] B (.bool (ZbN c)):=by
 refine cB 17 Tryz.func162 (h:=?_)
 refine Za (xA (h:=Z2 [(0,_),(2,_)] t2 (Za (xM (h:=Zeo (h:=xM (h:=Zo (d:=5) rfl (fun g1=>?_) (fun g1=>?_))))))))
 try simp only [sQ,ne_eq] at g1
 refine xM (h:=ZcU (h:=xT (h:=xM (h:=Zo (d:=9) rfl (fun g2=>?_) (fun g2=>?_)))))
 try simp only [sQ,ne_eq] at g2
 refine xP (h:=xP (h:=xP (h:=xP (h:=xP (h:=xP (h:=xT (h:=xA (h:=Z2 [(0,_),(2,_)] t2 (Zd ?_)))))))))
 exact eR t1 ⟨by exact Zh (by rw [Bool.eq_iff_iff];simp [ZbN];omega),rfl,rfl⟩
 try simp only [sQ,ne_eq] at g2
 refine xM (h:=Zeo (h:=xM (h:=Zo (d:=12) rfl (fun g3=>?_) (fun g3=>?_))))
 try simp only [sQ,ne_eq] at g3
 refine xM (h:=ZcU (h:=xT (h:=xF (h:=xA (h:=Z2 [(0,_),(2,_)] t2 (Zd ?_))))))
 exact eR t1 ⟨by exact Zh (by rw [Bool.eq_iff_iff];simp [ZbN];omega),rfl,rfl⟩
 try simp only [sQ,ne_eq] at g3
 refine xP (h:=xP (h:=xF (h:=xF (h:=xA (h:=Z2 [(0,_),(2,_)] t2 (Zd ?_))))))
 exact eR t1 ⟨by exact Zh (by rw [Bool.eq_iff_iff];simp [ZbN];omega),rfl,rfl⟩
 try simp only [sQ,ne_eq] at g1
 refine xP (h:=xP (h:=xF (h:=xM (h:=xM (h:=Zeo (h:=xM (h:=Zo (d:=12) rfl (fun g4=>?_) (fun g4=>?_))))))))
 try simp only [sQ,ne_eq] at g4
 refine xM (h:=ZcU (h:=xT (h:=xF (h:=xA (h:=Z2 [(0,_),(2,_)] t2 (Zd ?_))))))
 exact eR t1 ⟨by exact Zh (by rw [Bool.eq_iff_iff];simp [ZbN];omega),rfl,rfl⟩
 try simp only [sQ,ne_eq] at g4
 refine xP (h:=xP (h:=xF (h:=xF (h:=xA (h:=Z2 [(0,_),(2,_)] t2 (Zd ?_))))))
 exact eR t1 ⟨by exact Zh (by rw [Bool.eq_iff_iff];simp [ZbN];omega),rfl,rfl⟩

theorem Zb6 (l:List UInt8) (hl:l.length≤2000000) (B:Kn):ZaM (pj J) 113 [str l] B (.bool (Zaz l)):=by
 refine cB 37 Tryz.func113 (h:=?_)
 refine Za (xA (h:=Z2 [(0,_),(2,_)] t2 (Zg (Za (xA (h:=Z2 [(0,_),(2,_),(3,_)] t3 (Zl (ZlH (α:=Nat) (fun k=>[(0,str l),(3,.int .i64 k)]) (fun k=>[]) (fun k Bx=>Bx=B∧k≤l.length∧(l.take k).all ZbN=true) (fun k=>l.length - k) 0 t2 rfl (⟨rfl,Nat.zero_le _,by simp⟩) (fun k B1 hle1 hI=>?_)))))))))
 obtain ⟨rfl,hk,ha⟩:=hI
 refine Zg (Za (xM (h:=xM (h:=xVs Tryz.underlying9 (h:=Zaf (h:=Z2 [(0,_),(3,_),(7,_)] t3 (Zb rfl (fun g1=>?_) (fun g1=>?_))))))))
 try simp only [sQ,ne_eq] at g1
 obtain ⟨c,hc⟩ :∃c,l[k]? = some c:=⟨_,List.getElem?_eq_getElem oz⟩
 refine wSk (Zg (Zl (Zka 33 (!(ZbN c)) [0,3,7] ?_ ?_)))
 refine xM (h:=xM (h:=Zn (ZeM rfl rfl Tryz.underlying9 rfl rfl oz (by simpa using hc) ?_)))
 refine Zeo (h:=xM (h:=Zo (d:=14) rfl (fun g1=>?_) (fun g1=>?_)))
 try simp only [sQ,ne_eq] at g1
 refine xM (h:=xM (h:=Zn (ZeM rfl rfl Tryz.underlying9 rfl rfl oz (by simpa using hc) ?_)))
 refine ZcU (h:=xT (h:=xN (h:=xM (h:=Zo (d:=21) rfl (fun g2=>?_) (fun g2=>?_)))))
 try simp only [sQ,ne_eq] at g2
 refine xM (h:=xM (h:=Zn (ZeM rfl rfl Tryz.underlying9 rfl rfl oz (by simpa using hc) ?_)))
 refine Zeo (h:=xM (h:=Zo (d:=26) rfl (fun g3=>?_) (fun g3=>?_)))
 try simp only [sQ,ne_eq] at g3
 refine xM (h:=xM (h:=Zn (ZeM rfl rfl Tryz.underlying9 rfl rfl oz (by simpa using hc) ?_)))
 refine ZcU (h:=xT (h:=xN (h:=xT (h:=?_))))
 exact ⟨rfl,rfl,rfl,Zdq rfl (by rw [Bool.eq_iff_iff];simp [ZbN,];omega),t3⟩
 try simp only [sQ,ne_eq] at g3
 refine xP (h:=xP (h:=xP (h:=xP (h:=xF (h:=xN (h:=xT (h:=?_)))))))
 exact ⟨rfl,rfl,rfl,Zdq rfl (by rw [Bool.eq_iff_iff];simp [ZbN,];omega),t3⟩
 try simp only [sQ,ne_eq] at g2
 refine xP (h:=xP (h:=xP (h:=xP (h:=xP (h:=xP (h:=xP (h:=xP (h:=xP (h:=xP (h:=xP (h:=xF (h:=?_))))))))))))
 exact ⟨rfl,rfl,rfl,Zdq rfl (by rw [Bool.eq_iff_iff];simp [ZbN,];omega),t3⟩
 try simp only [sQ,ne_eq] at g1
 refine xP (h:=xP (h:=xP (h:=xP (h:=xF (h:=xN (h:=xM (h:=xM (h:=xM (h:=Zn (ZeM rfl rfl Tryz.underlying9 rfl rfl oz (by simpa using hc) ?_))))))))))
 refine Zeo (h:=xM (h:=Zo (d:=26) rfl (fun g4=>?_) (fun g4=>?_)))
 try simp only [sQ,ne_eq] at g4
 refine xM (h:=xM (h:=Zn (ZeM rfl rfl Tryz.underlying9 rfl rfl oz (by simpa using hc) ?_)))
 refine ZcU (h:=xT (h:=xN (h:=xT (h:=?_))))
 exact ⟨rfl,rfl,rfl,Zdq rfl (by rw [Bool.eq_iff_iff];simp [ZbN,];omega),t3⟩
 try simp only [sQ,ne_eq] at g4
 refine xP (h:=xP (h:=xP (h:=xP (h:=xF (h:=xN (h:=xT (h:=?_)))))))
 exact ⟨rfl,rfl,rfl,Zdq rfl (by rw [Bool.eq_iff_iff];simp [ZbN,];omega),t3⟩
 refine Z2 [(0,_),(3,_),(7,_),(33,_)] t4 (Zb rfl (fun g9=>?_) (fun g9=>?_))
 try simp only [sQ,ne_eq] at g9
 refine Za (xA (h:=Z2 [(0,_),(2,_),(3,_),(7,_),(33,_)] t5 (Zd (ZH (Zp (ZuC (ZH (Zp ?_))))))))
 exact eR t1 ⟨Zh (by simp [Zaz,ZtJ hc g9]),rfl,rfl⟩
 try simp only [sQ,ne_eq] at g9
 refine ZL (ZA (Zj (Zc (xM (h:=Zn (Zfa rfl rfl rfl rfl (by first | exact Za9 oz oz | rfl) ?_))))))
 refine xA (h:=?_)
 exact Zo9 (k+1) oz ⟨rfl,oz,ZoQ hc g9 ha⟩ t2 rfl
 try simp only [sQ,ne_eq] at g1
 refine ZS (Zae (Zo8 (ZI (Zj (Za (xM (h:=xVs Tryz.underlying9 (h:=xR ZeF rfl (ZcA _ _ _ _) (h:=xA (h:=Z2 [(0,_),(2,_),(3,_),(7,_)] t4 (Zd ?_)))))))))))
 exact eR t1 ⟨Zh (by (obtain rfl:k=l.length:=oz);rw [List.take_length] at ha;rw [Bool.eq_iff_iff];simp [Zaz,ha];omega),rfl,rfl⟩

theorem ZoM (b:Nat) (l:List UInt8) (i:Nat) (hi:i≤l.length) (hl:l.length≤2000000) (B:Kn):Zuf (pj J) 92 [ptr ⟨b,0,none⟩] B (cur b l i) (.bool (decide (i=l.length))) (cur b l i):=by
 refine cB 13 Tryz.func92 (h:=?_)
 refine Za (xA (h:=Z2 [(0,_),(2,_)] t2 (Zg (Z0 (same _ _) mo kr ⟨rfl,rfl⟩ (fun _ _=>?_)))))
 refine aM 0 rfl (h:=aNc 1 rfl (h:=aW 2 rfl Zcv (h:=aT 3 rfl (Zar fun D=>Zf rfl rfl lk3 rfl (atL 0 rfl rfl rfl) r4) (h:=aM 4 rfl (h:=aNc 5 rfl (h:=aW 6 rfl Zhs (h:=aT 7 rfl (Zar fun D=>Zf rfl rfl lk9 rfl (atL 0 rfl rfl rfl) r4) (h:=aT 8 rfl (Zar fun D=>Zn6 rfl rfl Tryz.underlying9 rfl r4) (h:=Zsg 9 rfl (h:=aA 10 rfl (h:=Zz kr kr ?_)))))))))))
 refine Zj (Z2 [(0,_),(2,_)] t2 (Zd ?_))
 exact e1 0 rfl t1 ⟨Zh (by rw [Bool.eq_iff_iff];simp;omega),rfl,rfl⟩

theorem Zwf (b:Nat) (l:List UInt8) (i:Nat) (hi:i≤l.length) (hl:l.length≤2000000) (x:UInt8) (B:Kn):Zuf (pj J) 126 [ptr ⟨b,0,none⟩,.int .u8 x.toNat] B (cur b l i) (.bool (decide (l[i]? = some x))) (cur b l (if l[i]? = some x then i+1 else i)):=by
 refine cB 27 Tryz.func126 (h:=?_)
 refine Za (xA (h:=Z2 [(0,_),(1,_),(4,_)] t3 (Zg (Ziv 19 (decide (l[i]?≠some x)) [0,1,4] (same _ _) mo kr ⟨rfl,rfl⟩ (fun _ _=>?_) ?_))))
 refine aM 0 rfl (h:=aT 1 rfl (Zar fun D=>ZhH 0 rfl rfl rfl Zxf rfl (ZoM _ _ _ oz oz _) r4) (h:=?_))
 refine aM 2 rfl (h:=ZaH (d:=7) rfl (fun g1=>?_) (fun g1=>?_))
 try simp only [sQ,ne_eq] at g1
 refine aZ 3 rfl (h:=aZ 4 rfl (h:=aZ 5 rfl (h:=aZ 6 rfl (h:=aZ 7 rfl (h:=aZ 8 rfl (h:=aZ 9 rfl (h:=aZ 10 rfl (h:=aZ 11 rfl (h:=aZ 12 rfl (h:=aZ 13 rfl (h:=aPT 14 rfl (h:=Zz kr kr ?_))))))))))))
 exact ⟨rfl,rfl,rfl,Zdq rfl (by first | (simp [g1];done) | (rw [Bool.eq_iff_iff];simp [hc,← UInt8.toNat_inj];omega)),t3⟩
 try simp only [sQ,ne_eq] at g1
 obtain ⟨c,hc⟩ :∃c,l[i]? = some c:=⟨_,List.getElem?_eq_getElem oz⟩
 refine aM 3 rfl (h:=aNc 4 rfl (h:=aW 5 rfl Zhs (h:=aT 6 rfl (Zar fun D=>Zf rfl rfl lk9 rfl (atL 0 rfl rfl rfl) r4) (h:=aM 7 rfl (h:=aNc 8 rfl (h:=aW 9 rfl Zcv (h:=aT 10 rfl (Zar fun D=>Zf rfl rfl lk3 rfl (atL 0 rfl rfl rfl) r4) (h:=aT 11 rfl (Zar fun D=>ZeM rfl rfl Tryz.underlying9 rfl rfl oz (by simpa using hc) r4) (h:=?_)))))))))
 refine aM 12 rfl (h:=Zw9 13 rfl (h:=aPF 14 rfl (h:=Zz kr kr ?_)))
 exact ⟨rfl,rfl,rfl,Zdq rfl (by first | (simp [g1];done) | (rw [Bool.eq_iff_iff];simp [hc,← UInt8.toNat_inj];omega)),t3⟩
 refine Z2 [(0,_),(1,_),(4,_),(19,_)] t4 (Zb rfl (fun g2=>?_) (fun g2=>?_))
 try simp only [sQ,ne_eq] at g2
 refine Za (xA (h:=Z2 [(0,_),(1,_),(4,_),(19,_)] t4 (Zd (Zp ?_))))
 exact e1 0 rfl t1 ⟨Zh (by simp [g2]),rfl,by rw [if_neg g2]⟩
 try simp only [sQ,ne_eq] at g2
 refine wSk (Za (xM (h:=xNc (h:=xW Zcv (h:=x1 lk3 0 (h:=Zn (Zfa rfl rfl rfl rfl (by first | exact Za9 oz oz | rfl) ?_)))))))
 refine xNc (h:=xW Zcv (h:=xS [_] 0 [_,_] sz3 (h:=ZM [(0,_),(1,_),(4,_),(19,_)] [_] t4 rfl (Za (xA (h:=Z2 [(0,_),(1,_),(4,_),(19,_)] t4 (Zd ?_)))))))
 exact e1 0 rfl t1 ⟨Zh (by simp [g2]),rfl,by rw [if_pos g2];rfl⟩

theorem Zq1 (b:Nat) (l:List UInt8) (i:Nat) (hi:i≤l.length) (hl:l.length≤2000000) (B:Kn):Zuf (pj J) 125 [ptr ⟨b,0,none⟩] B (cur b l i) (.tuple #[str (word l i),.bool (ZdZ (word l i))]) (cur b l (i+(word l i).length)):=by
 refine cB 54 Tryz.func125 (h:=?_)
 refine Za (xA (h:=xA (h:=Z2 [(0,_),(2,_),(3,_)] t3 (Za (xM (h:=xNc (h:=xW Zcv (h:=x1 lk3 0 (h:=xA (h:=Z2 [(0,_),(2,_),(3,_),(4,_)] t4 (Zg (Zl (ZlH (α:=Nat) (fun k=>[(0,ptr ⟨b,0,none⟩),(4,.int .i64 i)]) (fun k=>[cur b l (i+k)]) (fun k Bx=>Bx=B∧i+k≤l.length∧((l.drop i).take k).all ZbN=true) (fun k=>l.length - i - k) 0 t2 rfl (⟨rfl,oz,by simp⟩) (fun k B1 hle1 hI=>?_))))))))))))))
 obtain ⟨rfl,hk,ha⟩:=hI
 refine Zg (Ziv 24 (match l[i+k]? with | some c=>ZbN c | none=>false) [0,4] (same _ _) mo kr ⟨rfl,rfl⟩ (fun _ _=>?_) ?_)
 refine aM 0 rfl (h:=aT 1 rfl (Zar fun D=>ZhH 0 rfl rfl rfl Zxf rfl (ZoM _ _ _ oz oz _) r4) (h:=?_))
 refine aN 2 rfl (h:=aM 3 rfl (h:=ZaH (d:=13) rfl (fun g1=>?_) (fun g1=>?_)))
 try simp only [sQ,ne_eq] at g1
 obtain ⟨c,hc⟩ :∃c,l[i+k]? = some c:=⟨_,List.getElem?_eq_getElem oz⟩
 refine aM 4 rfl (h:=aNc 5 rfl (h:=aW 6 rfl Zhs (h:=aT 7 rfl (Zar fun D=>Zf rfl rfl lk9 rfl (atL 0 rfl rfl rfl) r4) (h:=aM 8 rfl (h:=aNc 9 rfl (h:=aW 10 rfl Zcv (h:=aT 11 rfl (Zar fun D=>Zf rfl rfl lk3 rfl (atL 0 rfl rfl rfl) r4) (h:=aT 12 rfl (Zar fun D=>ZeM rfl rfl Tryz.underlying9 rfl rfl oz hc r4) (h:=?_)))))))))
 refine aT 13 rfl (Zar fun D=>Zbc rfl rfl Zym rfl (Zpi _ _) r4) (h:=aPT 14 rfl (h:=Zz kr kr ?_))
 exact ⟨rfl,rfl,rfl,Zdq rfl (by first | (rw [hc];done) | (rw [List.getElem?_eq_none oz])),t2⟩
 try simp only [sQ,ne_eq] at g1
 refine aZ 4 rfl (h:=aZ 5 rfl (h:=aZ 6 rfl (h:=aZ 7 rfl (h:=aZ 8 rfl (h:=aZ 9 rfl (h:=aZ 10 rfl (h:=aZ 11 rfl (h:=aZ 12 rfl (h:=aZ 13 rfl (h:=aPF 14 rfl (h:=Zz kr kr ?_)))))))))))
 exact ⟨rfl,rfl,rfl,Zdq rfl (by first | (rw [hc];done) | (rw [List.getElem?_eq_none oz])),t2⟩
 refine Z2 [(0,_),(4,_),(24,_)] t3 (Zb rfl (fun g2=>?_) (fun g2=>?_))
 try simp only [sQ,ne_eq] at g2
 refine wSk (Zl (Zc (xM (h:=xNc (h:=xW Zcv (h:=x1 lk3 0 (h:=Zn (Zfa rfl rfl rfl rfl (by first | exact Za9 oz oz | rfl) ?_))))))))
 refine xNc (h:=xW Zcv (h:=xS [_] 0 [_,_] sz3 (h:=ZA ?_)))
 obtain ⟨c,hc,hn⟩:=ZqH g2
 exact Zo9 (k+1) (by have:=ZbH hc;omega) ⟨rfl,by have:=ZbH hc;omega,ZoQ (by simpa using hc) hn ha⟩ t2 rfl
 try simp only [sQ,ne_eq] at g2
 have hw:word l i=(l.drop i).take k:=Zsq ha (fun c hc=>by rw [hc] at g2;exact g2)
 have hwl:(word l i).length=k:=by rw [hw,List.length_take,List.length_drop];omega
 refine ZS (Zae (Zo8 (ZI (Zj (Za (xM (h:=xNc (h:=xW Zcv (h:=x1 lk3 0 (h:=xM (h:=Zn (ZjX rfl rfl rfl rfl (by first | exact Za9 oz oz | rfl) ?_))))))))))))
 refine xA (h:=Z2 [(0,_),(4,_),(5,_),(24,_)] t4 (Zg (Z0 (same _ _) mo kr ⟨rfl,rfl⟩ (fun _ _=>?_))))
 refine aM 0 rfl (h:=aNc 1 rfl (h:=aW 2 rfl Zhs (h:=aT 3 rfl (Zar fun D=>Zf rfl rfl lk9 rfl (atL 0 rfl rfl rfl) r4) (h:=aM 4 rfl (h:=aM 5 rfl (h:=aNc 6 rfl (h:=aW 7 rfl Zcv (h:=aT 8 rfl (Zar fun D=>Zf rfl rfl lk3 rfl (atL 0 rfl rfl rfl) r4) (h:=aT 9 rfl (Zar fun D=>ZgB rfl rfl Tryz.underlying9 rfl (a:=i) (b:=i+k) ⟨_,_,rfl,rfl⟩ ⟨_,_,rfl,oz⟩ oz oz r4) (h:=?_))))))))))
 refine aM 10 rfl (h:=Zxa 11 rfl (h:=aM 12 rfl (h:=ZaH (d:=50) rfl (fun g1=>?_) (fun g1=>?_))))
 try simp only [sQ,ne_eq] at g1
 refine aM 13 rfl (h:=ZvI 14 rfl (h:=aPT 15 rfl (h:=aA 16 rfl (h:=aA 17 rfl (h:=Zz kr kr ?_)))))
 refine Zj (Z2 [(0,_),(2,_),(3,_),(4,_),(5,_),(24,_)] t6 (Zd ?_))
 exact Zsm .ret (.inl rfl) [_,_] 0 rfl t2 ⟨Zkf (by rw [ZfV,hw]) (Zh (by rw [Bool.eq_iff_iff];simp [ZdZ,hwl];omega)),rfl,by rw [hwl]⟩
 try simp only [sQ,ne_eq] at g1
 refine aZ 13 rfl (h:=aZ 14 rfl (h:=aPF 15 rfl (h:=aA 16 rfl (h:=aA 17 rfl (h:=Zz kr kr ?_)))))
 refine Zj (Z2 [(0,_),(2,_),(3,_),(4,_),(5,_),(24,_)] t6 (Zd ?_))
 exact Zsm .ret (.inl rfl) [_,_] 0 rfl t2 ⟨Zkf (by rw [ZfV,hw]) (Zh (by rw [Bool.eq_iff_iff];simp [ZdZ,hwl];omega)),rfl,by rw [hwl]⟩

theorem Ztz (b:Nat) (l:List UInt8) (i:Nat) (hi:i≤l.length) (hl:l.length≤2000000) (B:Kn):Zuf (pj J) 91 [ptr ⟨b,0,none⟩] B (cur b l i) (.tuple #[str (ZjJ l i),.bool (ZnS l i)]) (cur b l (dom l i).2):=by
 refine cB 53 Tryz.func91 (h:=?_)
 refine Za (xA (h:=xA (h:=Z2 [(0,_),(2,_),(3,_)] t3 (Za (xM (h:=xNc (h:=xW Zcv (h:=x1 lk3 0 (h:=xA (h:=Z2 [(0,_),(2,_),(3,_),(4,_)] t4 (Zg (Za (xM (h:=Zn (Zj9 0 rfl rfl rfl Zvw rfl (Zq1 _ _ _ oz oz _) ?_)))))))))))))))
 refine xM (h:=xE (h:=xE (h:=xA (h:=xA (h:=ZM [(0,_),(2,_),(3,_),(4,_),(6,_)] [_] t5 rfl (Za (xM (h:=xN (h:=Z2 [(0,_),(2,_),(3,_),(4,_),(6,_),(20,_)] t6 (Zb rfl (fun g1=>?_) (fun g1=>?_)))))))))))
 try simp only [sQ,ne_eq] at g1
 refine Za (xA (h:=xA (h:=Z2 [(0,_),(2,_),(3,_),(4,_),(6,_),(20,_)] t6 (Zd (Zp ?_)))))
 exact Zsm .ret (.inl rfl) [_,_] 0 rfl t2 ⟨Zkf (by simp [ZjJ,ZnR g1]) (Zh (by simp [ZnS,ZnR g1])),rfl,by rw [ZnR g1]⟩
 try simp only [sQ,ne_eq] at g1
 refine wSk (Zg (Za (xA (h:=Z2 [(0,_),(2,_),(3,_),(4,_),(6,_),(7,_),(20,_)] t7 (Zl (ZlH (α:=Nat × Nat) (fun x=>[(0,ptr ⟨b,0,none⟩),(4,.int .i64 i),(7,.int .i64 x.1)]) (fun x=>[cur b l x.2]) (fun x Bx=>Bx=B∧1≤x.1∧x.1≤3∧i≤x.2∧x.2≤l.length∧dom l i=more (3 - x.1) l x.2) (fun x=>3 - x.1) (1,i+(word l i).length) t3 rfl (⟨rfl,oz,oz,oz,Zis hi,ZtA g1⟩) (fun x B1 hle1 hI=>?_)))))))
 obtain ⟨rfl,hk1,hk3,hix,hxl,hd⟩:=hI
 refine Zg (Za (xM (h:=Zaf (h:=xM (h:=Zo (d:=23) rfl (fun g2=>?_) (fun g2=>?_))))))
 try simp only [sQ,ne_eq] at g2
 refine xM (h:=Zn (Zj9 0 rfl rfl rfl Zyx rfl (Zwf _ _ _ oz oz 46 _) ?_))
 refine xT (h:=ZM [(0,_),(4,_),(7,_),(26,_)] [_] t4 rfl (Zb rfl (fun g3=>?_) (fun g3=>?_)))
 try simp only [sQ,ne_eq] at g3
 rw [if_pos g3]
 have hx2:=ZbH g3
 refine wSk (Zg (Zl (Za (xM (h:=Zn (Zj9 0 rfl rfl rfl Zvw rfl (Zq1 _ _ _ oz oz _) ?_))))))
 refine xM (h:=xE (h:=xE (h:=xA (h:=xA (h:=ZM [(0,_),(4,_),(7,_),(9,_),(26,_)] [_] t5 rfl (Za (xM (h:=xN (h:=Z2 [(0,_),(4,_),(7,_),(9,_),(26,_),(35,_)] t6 (Zb rfl (fun g4=>?_) (fun g4=>?_)))))))))))
 try simp only [sQ,ne_eq] at g4
 refine Za (xA (h:=xA (h:=Z2 [(0,_),(2,_),(3,_),(4,_),(7,_),(9,_),(26,_),(35,_)] t8 (Zd (ZH (Zp (ZuC (ZH (Zp ?_)))))))))
 have hdd:=hd.trans (ZsZ oz g3 g4)
 exact Zsm .ret (.inl rfl) [_,_] 0 rfl t2 ⟨Zkf (by simp [ZjJ,hdd]) (Zh (by simp [ZnS,hdd])),rfl,by rw [hdd]⟩
 try simp only [sQ,ne_eq] at g4
 refine ZL (ZA (Zj (Zc (xM (h:=Zn (Zfa rfl rfl rfl rfl (by first | exact Za9 oz oz | rfl) ?_))))))
 refine xA (h:=?_)
 exact Zo9 (x.1+1,x.2+1+(word l (x.2+1)).length) (so) ⟨rfl,so,so,so,Zis oz,by rw [hd,Zq6 oz g3 g4];rw [show 3 - (x.1+1)=3 - x.1 - 1 from by omega]⟩ t3 rfl
 try simp only [sQ,ne_eq] at g3
 rw [if_neg g3]
 replace hd:=hd.trans (ZiZ g3)
 refine ZS (Zae (Zo8 (ZI (Zj (Zg (Z0 (same _ _) mo kr ⟨rfl,rfl⟩ (fun _ _=>?_)))))))
 refine aM 0 rfl (h:=aNc 1 rfl (h:=aW 2 rfl Zhs (h:=aT 3 rfl (Zar fun D=>Zf rfl rfl lk9 rfl (atL 0 rfl rfl rfl) r4) (h:=aM 4 rfl (h:=aM 5 rfl (h:=aNc 6 rfl (h:=aW 7 rfl Zcv (h:=aT 8 rfl (Zar fun D=>Zf rfl rfl lk3 rfl (atL 0 rfl rfl rfl) r4) (h:=aT 9 rfl (Zar fun D=>ZgB rfl rfl Tryz.underlying9 rfl (a:=i) (b:=x.2) ⟨_,_,rfl,rfl⟩ ⟨_,_,rfl,rfl⟩ oz oz r4) (h:=?_))))))))))
 refine aM 10 rfl (h:=aNc 11 rfl (h:=aW 12 rfl Zcv (h:=aT 13 rfl (Zar fun D=>Zf rfl rfl lk3 rfl (atL 0 rfl rfl rfl) r4) (h:=aM 14 rfl (h:=aT 15 rfl (Zar fun D=>ZjX rfl rfl rfl rfl (by first | exact Za9 oz oz | rfl) r4) (h:=?_))))))
 refine ZvI 16 rfl (h:=aA 17 rfl (h:=aA 18 rfl (h:=Zz kr kr ?_)))
 refine Zj (Z2 [(0,_),(2,_),(3,_),(4,_),(7,_),(26,_)] t6 (Zd ?_))
 exact Zsm .ret (.inl rfl) [_,_] 0 rfl t2 ⟨Zkf (by simp [ZjJ,hd]) (Zh (by rw [Bool.eq_iff_iff];simp [ZnS,hd];omega)),rfl,by rw [hd]⟩
 try simp only [sQ,ne_eq] at g2
 replace hd:dom l i=(true,x.2):=hd.trans (by rw [show 3 - x.1=0 from by omega];rfl)
 refine xP (h:=xP (h:=xF (h:=Z2 [(0,_),(4,_),(7,_),(26,_)] t4 (Zb (t:=false) rfl (fun h=>Bool.noConfusion h) (fun _=>ZS (Zae (Zo8 (ZI (Zj (Zg (Z0 (same _ _) mo kr ⟨rfl,rfl⟩ (fun _ _=>?_))))))))))))
 refine aM 0 rfl (h:=aNc 1 rfl (h:=aW 2 rfl Zhs (h:=aT 3 rfl (Zar fun D=>Zf rfl rfl lk9 rfl (atL 0 rfl rfl rfl) r4) (h:=aM 4 rfl (h:=aM 5 rfl (h:=aNc 6 rfl (h:=aW 7 rfl Zcv (h:=aT 8 rfl (Zar fun D=>Zf rfl rfl lk3 rfl (atL 0 rfl rfl rfl) r4) (h:=aT 9 rfl (Zar fun D=>ZgB rfl rfl Tryz.underlying9 rfl (a:=i) (b:=x.2) ⟨_,_,rfl,rfl⟩ ⟨_,_,rfl,rfl⟩ oz oz r4) (h:=?_))))))))))
 refine aM 10 rfl (h:=aNc 11 rfl (h:=aW 12 rfl Zcv (h:=aT 13 rfl (Zar fun D=>Zf rfl rfl lk3 rfl (atL 0 rfl rfl rfl) r4) (h:=aM 14 rfl (h:=aT 15 rfl (Zar fun D=>ZjX rfl rfl rfl rfl (by first | exact Za9 oz oz | rfl) r4) (h:=?_))))))
 refine ZvI 16 rfl (h:=aA 17 rfl (h:=aA 18 rfl (h:=Zz kr kr ?_)))
 refine Zj (Z2 [(0,_),(2,_),(3,_),(4,_),(7,_),(26,_)] t6 (Zd ?_))
 exact Zsm .ret (.inl rfl) [_,_] 0 rfl t2 ⟨Zkf (by simp [ZjJ,hd]) (Zh (by rw [Bool.eq_iff_iff];simp [ZnS,hd];omega)),rfl,by rw [hd]⟩

theorem ZdA (l:List UInt8) (hl:l.length≤2000000) (B:Kn):ZaM (pj J) 98 [str l] B (.bool (Zaz l)):=by
 refine cB 16 Tryz.func98 (h:=?_)
 refine Za (xA (h:=Z2 [(0,_),(2,_)] t2 (Za (xM (h:=xB [(0,_)] [_,_] [_,_] Zwt Zsp (h:=xAl [_,_] Zsp (h:=fun b0=>xS [_,_] 0 [_,_] Zwm (h:=ZM [(0,_),(2,_),(3,_)] [_] t3 rfl (Za (Zn (Zj9 0 rfl rfl rfl Zvw rfl (Zq1 _ _ 0 oz hl _) ?_)))))))))))
 refine xM (h:=xE (h:=xE (h:=xA (h:=xA (h:=ZM [(0,_),(2,_),(3,_),(5,_)] [_] t4 rfl (Za (xM (h:=xM (h:=Zo (d:=13) rfl (fun g1=>?_) (fun g1=>?_))))))))))
 refine Zn (ZhH 0 rfl rfl rfl Zxf rfl (ZoM _ _ (0+(word l 0).length) (Zis (Nat.zero_le _)) oz _) ?_)
 refine xT (h:=xA (h:=Z2 [(0,_),(2,_),(3,_),(5,_)] t4 (Zd ?_)))
 exact eR t1 ⟨Zh (by rw [ZdM];simp [g1];try omega),rfl,rfl⟩
 refine xP (h:=xF (h:=xA (h:=Z2 [(0,_),(2,_),(3,_),(5,_)] t4 (Zd ?_))))
 exact eR t1 ⟨Zh (by rw [ZdM];simp [g1];try omega),rfl,rfl⟩

abbrev rd (b : Nat) (q : Option Addr) (m cp p : Nat) : Cells := Zah b [.slice q m cp, .int .i64 p] 110
theorem Zs7 (q:Option Addr) (m cp:Nat) (hmc:m≤cp) (B:Kn) (hb:Zap B q m):ZyS (pj J) 21 [.slice q m cp] B (fun v s=>∃b q m cp,v=ptr ⟨b,0,none⟩∧s=rd b q m cp 0∧m≤2000∧Zap B q m):=by
 refine cB 11 Tryz.func21 (h:=?_)
 refine Za (xA (h:=Z2 [(0,_),(2,_)] t2 (Zg (Za (xM (h:=xV Tryz.underlying22 (h:=Zbp (h:=Z2 [(0,_),(2,_),(5,_)] t3 (Zb rfl (fun g1=>?_) (fun g1=>?_))))))))))
 try simp only [sQ,ne_eq] at g1
 refine Zc (xM (h:=Zn (ZeK rfl rfl Tryz.underlying22 sz5 rfl (a:=0) (b:=2000) rfl ⟨_,_,rfl,rfl⟩ oz oz ?_)))
 refine xA (h:=Zj (Za (xM (h:=xB [(0,_)] [_,_] [_,_] Zwv ZvW (h:=xBx [_,_] (h:=fun b0=>xA (h:=ZM [(0,_),(2,_),(5,_)] [_] t3 rfl (Zd ?_))))))))
 exact e1 0 rfl t1 ⟨rfl,_,rfl,_,_,_,_,rfl,rfl,oz,hb.take oz⟩
 try simp only [sQ,ne_eq] at g1
 refine wSk (Za (xM (h:=xB [(0,_)] [_,_] [_,_] Zwv ZvW (h:=xBx [_,_] (h:=fun b0=>xA (h:=ZM [(0,_),(2,_),(5,_)] [_] t3 rfl (Zd ?_)))))))
 exact e1 0 rfl t1 ⟨rfl,_,rfl,_,_,_,_,rfl,rfl,oz,hb⟩

set_option maxHeartbeats 400000 in
theorem ZK (b:Nat) (q:Option Addr) (m cp p:Nat) (n:Int) (hp:p≤1000000000000) (hn:1≤n) (hn2:n≤1000000000000) (hm:m≤2000) (B:Kn) (hb:Zap B q m):Ex1 (pj J) 23 [ptr ⟨b,0,none⟩,.int .i64 n] B (rd b q m cp p) (fun v s=>∃r:Int,v = .int .i64 r∧0≤r∧r<n∧s=rd b q m cp (p+1)):=by
 refine ZeX 99 Tryz.func23 rfl rfl rfl (Nat.le_of_ble_eq_true rfl) ?_
 refine Za ?_
 refine xA (h:=?_)
 refine Z2 [(0,_),(1,_),(4,_)] t3 ?_
 refine Za ?_
 refine xM (h:=?_)
 refine xM (h:=?_)
 refine xNc (h:=?_)
 refine xW ZnO (h:=?_)
 refine x1 lk3 0 (h:=?_)
 refine Zn (Zfa rfl rfl rfl rfl (by first | exact Za9 oz oz | rfl) ?_)
 refine xNc (h:=?_)
 refine xW ZnO (h:=?_)
 refine xS [_] 0 [_,_] sz3 (h:=?_)
 refine ZM [(0,_),(1,_),(4,_)] [_] t3 rfl ?_
 refine Zg ?_
 refine Za ?_
 refine xM (h:=?_)
 refine Zaf (h:=?_)
 refine xM (h:=?_)
 refine Zo (d:=17) rfl (fun g1=>by have:=of_decide_eq_true g1;omega) (fun g1=>?_)
 try simp only [sQ,ne_eq] at g1
 refine xM (h:=?_)
 refine xNc (h:=?_)
 refine xW Zfs (h:=?_)
 refine x1 Zt5 0 (h:=?_)
 refine xV Tryz.underlying22 (h:=?_)
 refine ZE (h:=?_)
 refine xF (h:=?_)
 refine Z2 [(0,_),(1,_),(4,_),(24,_)] t4 ?_
 refine Zb rfl (fun g2=>?_) (fun g2=>?_)
 try simp only [sQ,ne_eq] at g2
 refine Za ?_
 refine xA (h:=?_)
 refine Z2 [(0,_),(1,_),(4,_),(24,_)] t4 ?_
 refine Zd (Zp ?_)
 exact Zsm .ret (.inl rfl) [_] 0 rfl t1 ⟨rfl,_,rfl,0,rfl,oz,oz,rfl⟩
 try simp only [sQ,ne_eq] at g2
 have hm0:0<m:=by omega
 obtain ⟨a,rfl,hc⟩:=hb.at hm0
 refine ZL ?_
 refine Zj ?_
 refine Za ?_
 refine xM (h:=?_)
 refine xNc (h:=?_)
 refine xW ZnO (h:=?_)
 refine x1 lk3 0 (h:=?_)
 refine Zn (ZjX rfl rfl rfl rfl (by first | exact Za9 oz oz | rfl) ?_)
 refine xA (h:=?_)
 refine Z2 [(0,_),(1,_),(4,_),(5,_),(24,_)] t5 ?_
 refine Zg ?_
 refine Za ?_
 refine xM (h:=?_)
 refine xM (h:=?_)
 refine xNc (h:=?_)
 refine xW Zfs (h:=?_)
 refine x1 Zt5 0 (h:=?_)
 refine xV Tryz.underlying22 (h:=?_)
 refine Zaf (h:=?_)
 refine Z2 [(0,_),(1,_),(4,_),(5,_),(24,_),(36,_)] t6 ?_
 refine Zb rfl (fun g3=>?_) (fun g3=>?_)
 try simp only [sQ,ne_eq] at g3
 obtain ⟨z,hz,h1⟩:=hc (↑p+1 - 1) oz oz
 refine Za ?_
 refine xM (h:=?_)
 refine xNc (h:=?_)
 refine xW Zfs (h:=?_)
 refine x1 Zt5 0 (h:=?_)
 refine xM (h:=?_)
 refine Zn (Zbf rfl rfl Tryz.underlying22 sz5 rfl rfl oz oz ?_)
 refine Zn (Zf rfl rfl lk5 rfl (h1 _) ?_)
 refine Zn (Zm8 rfl rfl Tryz.underlying5 Tryz.underlying3 rfl (by first | exact Za9 oz oz | rfl) ?_)
 refine xM (h:=?_)
 refine Zn (Zh2 rfl rfl rfl rfl oz (by first | exact Za9 oz oz | rfl) ?_)
 refine xA (h:=?_)
 refine Z2 [(0,_),(1,_),(4,_),(5,_),(24,_),(36,_)] t6 ?_
 refine Zd (Zp ?_)
 exact Zsm .ret (.inl rfl) [_] 0 rfl t1 ⟨rfl,_,rfl,_,rfl,Int.tmod_nonneg _ oz,Int.tmod_lt_of_pos _ oz,rfl⟩
 try simp only [sQ,ne_eq] at g3
 obtain ⟨z,hz,h1⟩:=hc (Int.tmod (↑p+1 - 1) ↑m) (Int.tmod_nonneg _ oz) (Int.tmod_lt_of_pos _ oz)
 obtain ⟨z2,hz2,h2⟩:=hc (Int.tmod ((↑p+1 - 1)*7+3) ↑m) (Int.tmod_nonneg _ oz) (Int.tmod_lt_of_pos _ oz)
 have ht0:0≤Int.tdiv (↑p+1 - 1) ↑m:=Int.tdiv_nonneg oz oz
 have ht1:Int.tdiv (↑p+1 - 1) ↑m≤↑p+1 - 1:=Int.tdiv_le_self _ oz
 refine ZL ?_
 refine Zj ?_
 refine Zg ?_
 refine Z0 (same _ _) mo kr ⟨rfl,rfl⟩ (fun _ _=>?_)
 refine aM 0 rfl (h:=?_)
 refine aNc 1 rfl (h:=?_)
 refine aW 2 rfl Zfs (h:=?_)
 refine aT 3 rfl (Zar fun D=>Zf rfl rfl Zt5 rfl (atL 0 rfl rfl rfl) r4) (h:=?_)
 refine aM 4 rfl (h:=?_)
 refine aM 5 rfl (h:=?_)
 refine aNc 6 rfl (h:=?_)
 refine aW 7 rfl Zfs (h:=?_)
 refine aT 8 rfl (Zar fun D=>Zf rfl rfl Zt5 rfl (atL 0 rfl rfl rfl) r4) (h:=?_)
 refine aV 9 rfl Tryz.underlying22 (h:=?_)
 refine aT 10 rfl (Zar fun D=>Zh2 rfl rfl rfl rfl oz (by first | exact Za9 oz oz | rfl) r4) (h:=?_)
 refine aT 11 rfl (Zar fun D=>Zbf rfl rfl Tryz.underlying22 sz5 rfl rfl (Int.tmod_nonneg _ oz) (Int.tmod_lt_of_pos _ oz) r4) (h:=?_)
 refine aT 12 rfl (Zar fun D=>Zf rfl rfl lk5 rfl (h1 _) r4) (h:=?_)
 refine aT 13 rfl (Zar fun D=>Zm8 rfl rfl Tryz.underlying5 Tryz.underlying3 rfl (by first | exact Za9 oz oz | rfl) r4) (h:=?_)
 refine aT 14 rfl (Zar fun D=>ZlF rfl rfl rfl rfl (by first | exact Za9 oz oz | rfl) r4) (h:=?_)
 refine aM 15 rfl (h:=?_)
 refine aNc 16 rfl (h:=?_)
 refine aW 17 rfl Zfs (h:=?_)
 refine aT 18 rfl (Zar fun D=>Zf rfl rfl Zt5 rfl (atL 0 rfl rfl rfl) r4) (h:=?_)
 refine aM 19 rfl (h:=?_)
 refine aT 20 rfl (Zar fun D=>ZlF rfl rfl rfl rfl (by first | exact Za9 oz oz | rfl) r4) (h:=?_)
 refine aT 21 rfl (Zar fun D=>Zfa rfl rfl rfl rfl (by first | exact Za9 oz oz | rfl) r4) (h:=?_)
 refine aM 22 rfl (h:=?_)
 refine aNc 23 rfl (h:=?_)
 refine aW 24 rfl Zfs (h:=?_)
 refine aT 25 rfl (Zar fun D=>Zf rfl rfl Zt5 rfl (atL 0 rfl rfl rfl) r4) (h:=?_)
 refine aV 26 rfl Tryz.underlying22 (h:=?_)
 refine aT 27 rfl (Zar fun D=>Zh2 rfl rfl rfl rfl oz (by first | exact Za9 oz oz | rfl) r4) (h:=?_)
 refine aT 28 rfl (Zar fun D=>Zbf rfl rfl Tryz.underlying22 sz5 rfl rfl (Int.tmod_nonneg _ oz) (Int.tmod_lt_of_pos _ oz) r4) (h:=?_)
 refine aT 29 rfl (Zar fun D=>Zf rfl rfl lk5 rfl (h2 _) r4) (h:=?_)
 refine aT 30 rfl (Zar fun D=>Zm8 rfl rfl Tryz.underlying5 Tryz.underlying3 rfl (by first | exact Za9 oz oz | rfl) r4) (h:=?_)
 refine aT 31 rfl (Zar fun D=>ZlF rfl rfl rfl rfl (by first | exact Za9 oz oz | rfl) r4) (h:=?_)
 refine aT 32 rfl (Zar fun D=>Zfa rfl rfl rfl rfl (by first | exact Za9 oz oz | rfl) r4) (h:=?_)
 refine aM 33 rfl (h:=?_)
 refine aT 34 rfl (Zar fun D=>ZlF rfl rfl rfl rfl (by first | exact Za9 oz oz | rfl) r4) (h:=?_)
 refine aT 35 rfl (Zar fun D=>Zfa rfl rfl rfl rfl (by first | exact Za9 oz oz | rfl) r4) (h:=?_)
 refine aM 36 rfl (h:=?_)
 refine aM 37 rfl (h:=?_)
 refine aNc 38 rfl (h:=?_)
 refine aW 39 rfl Zfs (h:=?_)
 refine aT 40 rfl (Zar fun D=>Zf rfl rfl Zt5 rfl (atL 0 rfl rfl rfl) r4) (h:=?_)
 refine aV 41 rfl Tryz.underlying22 (h:=?_)
 refine aT 42 rfl (Zar fun D=>Ziw rfl rfl rfl rfl oz (by first | exact Za9 oz oz | rfl) r4) (h:=?_)
 refine aT 43 rfl (Zar fun D=>ZlF rfl rfl rfl rfl (by first | exact Za9 oz oz | rfl) r4) (h:=?_)
 refine aT 44 rfl (Zar fun D=>Zfa rfl rfl rfl rfl (by first | exact Za9 oz oz | rfl) r4) (h:=?_)
 refine aA 45 rfl (h:=?_)
 refine Zz kr kr ?_
 refine Zj ?_
 refine Z2 [(0,_),(1,_),(4,_),(5,_),(6,_),(24,_),(36,_)] t7 ?_
 generalize hx:(↑z*131+↑z2*1117+(↑p+1 - 1)*29+(↑p+1 - 1:Int).tdiv ↑m*53:Int)=x
 have hx0:0≤x:=by omega
 have hx1:x<1000000000000000:=by omega
 have hy0:0≤Int.tdiv x 64:=Int.tdiv_nonneg oz oz
 have hy1:Int.tdiv x 64≤x:=Int.tdiv_le_self _ oz
 refine Za ?_
 refine xM (h:=?_)
 refine xM (h:=?_)
 refine Zn (Ziw rfl rfl rfl rfl oz (by first | exact Za9 oz oz | rfl) ?_)
 refine Zn (Zxu rfl rfl rfl rfl oz oz oz oz (fun y hy2 hy3=>?_))
 refine xA (h:=?_)
 refine Z2 [(0,_),(1,_),(4,_),(5,_),(6,_),(24,_),(36,_)] t7 ?_
 refine Za ?_
 refine xM (h:=?_)
 refine xM (h:=?_)
 refine Zn (Zh2 rfl rfl rfl rfl oz (by first | exact Za9 oz oz | rfl) ?_)
 refine xA (h:=?_)
 refine Z2 [(0,_),(1,_),(4,_),(5,_),(6,_),(24,_),(36,_)] t7 ?_
 refine Zd ?_
 exact Zsm .ret (.inl rfl) [_] 0 rfl t1 ⟨rfl,_,rfl,_,rfl,Int.tmod_nonneg _ oz,Int.tmod_lt_of_pos _ oz,rfl⟩

theorem ZqT (b:Nat) (q:Option Addr) (m cp p:Nat) (b1:Nat) (ls:List (List UInt8)) (hp:p≤1000000000000) (hn:1≤ls.length) (hn2:ls.length≤1000000000000) (hm:m≤2000) (B:Kn) (hbm:Zap B q m):Zv (pj J) 65 [ptr ⟨b,0,none⟩,.slice (some ⟨b1,0,none⟩) ls.length ls.length] B [rd b q m cp p,Zah b1 (ls.map str) 9] (fun v B' Ls=>B'=B∧∃x,x∈ls∧v=str x∧Ls=[rd b q m cp (p+1)]):=by
 refine cB 12 Tryz.func65 (h:=?_)
 skip
 refine Za (xA (h:=Z2 [(0,_),(1,_),(4,_)] t3 (Za (xM (h:=xM (h:=xM (h:=xV Tryz.underlying62 (h:=xX 0 rfl Za7 rfl (ZK _ _ _ _ _ _ oz oz oz hm _ hbm) (h:=?_)))))))))
 rintro _ _ ⟨r1,rfl,r1a,r1b,rfl⟩
 refine Zn (Zbf rfl rfl Tryz.underlying62 sz9 rfl rfl oz oz ?_)
 obtain ⟨x,hx⟩ :∃x,ls[r1.toNat]? = some x:=⟨_,List.getElem?_eq_getElem oz⟩
 refine Zn (Zf rfl rfl lk9 rfl (Zr6 1 rfl (v:=str x) (by rw [Nat.mul_one,List.getElem?_map,hx];rfl)) ?_)
 refine xA (h:=ZM [(0,_),(1,_),(4,_)] [_,_] t3 rfl (Zd ?_))
 exact eN [0] rfl t1 ⟨rfl,x,List.mem_of_getElem? hx,rfl,rfl⟩

theorem ZdN (b:Nat) (q:Option Addr) (m cp p:Nat) (hp:p≤900000000000) (hm:m≤2000) (B:Kn) (hbm:Zap B q m):Ex1 (pj J) 64 [ptr ⟨b,0,none⟩] B (rd b q m cp p) (fun v s=>∃x:List UInt8,v=str x∧x.length≤9∧s=rd b q m cp (p+2)):=by
 refine cB 12 Tryz.func64 (h:=?_)
 refine Za (xA (h:=Z2 [(0,_),(2,_)] t2 (Zg (Za (xM (h:=xX 0 rfl Za7 rfl (ZK _ _ _ _ _ _ oz oz oz hm _ hbm) (h:=?_)))))))
 rintro _ _ ⟨r1,rfl,r1a,r1b,rfl⟩
 refine ZE (h:=ZM [(0,_),(2,_),(5,_)] [_] t3 rfl (Zb rfl (fun g1=>?_) (fun g1=>?_)))
 refine Za (xM (h:=xBs [(0,_),(1,_),(2,_),(3,_),(4,_),(5,_),(6,_)] [_,_,_,_,_,_,_] Tryz.underlying62 sz9 zo9 (h:=fun b1=>xK [0,1] rfl ZoK rfl (ZqT _ _ _ _ _ _ [[],[65],[116,111,111,108,111,110,103,49,50],[97,45,98],[101,105,103,104,116,56,56,56],[48],[97,110,121,111,110,101]] oz (by decide) (by decide) hm _ hbm) (h:=?_))))
 rintro _ _ _ hle2 ⟨rfl,x2,hx2,rfl,rfl⟩
 refine xA (h:=ZM [(0,_),(2,_),(5,_)] [_,_] t3 rfl (Zd (Zp ?_)))
 exact e1 0 rfl t1 ⟨rfl,_,rfl,x2,rfl,(show∀x∈_,x.length≤9 from by decide) _ hx2,rfl⟩
 refine wSk (Za (xM (h:=xBs [(0,_),(1,_),(2,_),(3,_),(4,_),(5,_)] [_,_,_,_,_,_] Tryz.underlying62 sz9 zo9 (h:=fun b1=>xK [0,1] rfl ZoK rfl (ZqT _ _ _ _ _ _ [[97,109,121],[98,111,98],[99,121,100],[100,97,110],[98,111,120,49],[120]] oz (by decide) (by decide) hm _ hbm) (h:=?_)))))
 rintro _ _ _ hle3 ⟨rfl,x3,hx3,rfl,rfl⟩
 refine xA (h:=ZM [(0,_),(2,_),(5,_)] [_,_] t3 rfl (Zd ?_))
 exact e1 0 rfl t1 ⟨rfl,_,rfl,x3,rfl,(show∀x∈_,x.length≤9 from by decide) _ hx3,rfl⟩

abbrev Zxk (s : Cells) (q : Option Addr) (m cp : Nat) (ls : List (List UInt8)) : Prop := Ziq s q m cp 9 1 (ls.map str)
theorem ZlK {s:Cells} {q:Option Addr} {m cp:Nat} {ls:List (List UInt8)} {a:List UInt8} (h:Ziq s q m cp 9 1 (ls.map str ++ [str a])):Zxk s q m cp (ls ++ [a]):=by
 unfold Zxk
 rw [List.map_append]
 exact h
theorem ZuU (l:List UInt8) (hl:l.length≤2000000) (x0:UInt8) (B:Kn):ZyS (pj J) 112 [str l,.int .u8 x0.toNat] B (fun v s=>∃q cp,v = .slice q (cut x0 l).length cp∧Zxk s q (cut x0 l).length cp (cut x0 l)):=by
 refine cB 35 Tryz.func112 (h:=?_)
 refine Za (xA (h:=Z2 [(0,_),(1,_),(4,_)] t3 (Za (xBs [] [] Tryz.underlying62 sz9 zo9 (h:=fun b0=>xA (h:=ZM [(0,_),(1,_),(4,_),(5,_)] [_] t4 rfl (Za (xA (h:=Z2 [(0,_),(1,_),(4,_),(5,_),(6,_)] t5 (Zg (Za (xA (h:=Z2 [(0,_),(1,_),(4,_),(5,_),(6,_),(7,_)] t6 (Zl (ZlH (α:=CutSt) (fun x=>[(0,str l),(1,.int .u8 x0.toNat),(5,.slice x.q x.m x.cp),(6,.int .i64 x.f),(7,.int .i64 x.i)]) (fun x=>[x.s]) (fun x Bx=>Bx=B∧x.f≤x.i∧x.i≤l.length∧x.m≤x.i∧x.m=x.ps.length∧Zxk x.s x.q x.m x.cp x.ps∧cut x0 l=x.ps ++ glue ((l.take x.i).drop x.f) (cut x0 (l.drop x.i))) (fun x=>l.length - x.i) ⟨0,0,0,[],some ⟨b0,0,none⟩,0,Zah b0 [] 9⟩ t5 rfl (⟨rfl,Nat.le_refl _,Nat.zero_le _,Nat.le_refl _,rfl,Ziq.lit rfl,by simp [ZoE (ZoO x0 l)]⟩) (fun x B1 hle1 hI=>?_))))))))))))))))
 obtain ⟨rfl,hf,hi,hn,hm,hv,hc⟩:=hI
 refine Zg (Za (xM (h:=xM (h:=xVs Tryz.underlying9 (h:=Zaf (h:=Z2 [(0,_),(1,_),(5,_),(6,_),(7,_),(12,_)] t6 (Zb rfl (fun g1=>?_) (fun g1=>?_))))))))
 try simp only [sQ,ne_eq] at g1
 obtain ⟨c,hx⟩ :∃c,l[x.i]? = some c:=⟨_,List.getElem?_eq_getElem oz⟩
 refine wSk (Zg (Zl (Za (xM (h:=xM (h:=Zn (ZeM rfl rfl Tryz.underlying9 rfl rfl oz hx ?_)))))))
 refine xM (h:=ZE (h:=Z2 [(0,_),(1,_),(5,_),(6,_),(7,_),(12,_),(19,_)] t7 (Zb rfl (fun g2=>?_) (fun g2=>?_))))
 try simp only [sQ,ne_eq] at g2
 refine Za (xM (h:=xM (h:=xM (h:=xM (h:=Zn (ZgB rfl rfl Tryz.underlying9 rfl (a:=x.f) (b:=x.i) ⟨_,_,rfl,rfl⟩ ⟨_,_,rfl,rfl⟩ oz oz ?_))))))
 refine xBs [(0,_)] [_] Tryz.underlying62 sz9 zo9 (h:=fun b1=>Zn (ZeO 0 rfl (hv) rfl rfl ZoI Zoc rfl rfl (ZaQ.box 1 rfl) rfl rfl oz (fun l1 p1 c1 hv1=>?_)))
 refine xA (h:=ZM [(0,_),(1,_),(5,_),(6,_),(7,_),(12,_),(19,_)] [_,_] t7 rfl (Zul [0] rfl (Zc (xM (h:=Zn (Zfa rfl rfl rfl rfl (by first | exact Za9 oz oz | rfl) ?_))))))
 refine xA (h:=ZA (Zj (Zc (xM (h:=Zn (Zfa rfl rfl rfl rfl (by first | exact Za9 oz oz | rfl) ?_))))))
 refine xA (h:=?_)
 exact Zo9 ⟨x.i+1,x.i+1,x.m+1,x.ps ++ [(l.take x.i).drop x.f],p1,c1,l1⟩ (so) ⟨rfl,Nat.le_refl _,so,so,by simp [hm],ZlK hv1,by rw [hc,ZvC hx (Zxz g2),List.append_assoc];simp [Zts,ZoE (ZoO x0 _)]⟩ t5 rfl
 try simp only [sQ,ne_eq] at g2
 refine ZL (ZA (Zj (Zc (xM (h:=Zn (Zfa rfl rfl rfl rfl (by first | exact Za9 oz oz | rfl) ?_))))))
 refine xA (h:=?_)
 exact Zo9 ⟨x.i+1,x.f,x.m,x.ps,x.q,x.cp,x.s⟩ (so) ⟨rfl,so,so,so,hm,hv,by rw [hc,ZtC hx (Zxy g2),Zrw,Zqx hx hf]⟩ t5 rfl
 try simp only [sQ,ne_eq] at g1
 obtain hie:x.i=l.length:=by omega
 rw [hie,List.take_length,List.drop_length] at hc
 refine ZS (Zae (Zo8 (ZI (Zj (Za (xM (h:=xM (h:=xM (h:=Zn (ZgB rfl rfl Tryz.underlying9 rfl (a:=x.f) (b:=l.length) ⟨_,_,rfl,rfl⟩ rfl oz oz ?_))))))))))
 refine xBs [(0,_)] [_] Tryz.underlying62 sz9 zo9 (h:=fun b1=>Zn (ZeO 0 rfl (hv) rfl rfl ZoI Zoc rfl rfl (ZaQ.box 1 rfl) rfl rfl oz (fun l2 p2 c2 hv2=>?_)))
 refine xA (h:=ZM [(0,_),(1,_),(4,_),(5,_),(6,_),(7,_),(12,_)] [_,_] t7 rfl (Zd ?_))
 have he:cut x0 l=x.ps ++ [l.drop x.f]:=by rw [hc];simp [cut,glue]
 have hlen:(cut x0 l).length=x.m+1:=by rw [he];simp [hm]
 exact Zas .ret (.inl rfl) [_] [0] rfl ⟨rfl,trivial⟩ ⟨rfl,_,rfl,p2,c2,by rw [hlen];rfl,by rw [hlen,he];rw [List.take_length] at hv2;exact ZlK hv2⟩

theorem Zl0 (l:List UInt8) (hl:l.length≤2000000) (B:Kn):ZaM (pj J) 73 [str l] B (.bool (Zcp l)):=by
 refine cB 27 Tryz.func73 (h:=?_)
 refine Za (xA (h:=Z2 [(0,_),(2,_)] t2 (Za (xM (h:=Zn (ZtV rfl rfl ZyD rfl (ZuU _ hl 46 _) ?_))))))
 rintro _ s ⟨q,cp,rfl,hv⟩
 refine xA (h:=ZM [(0,_),(2,_),(3,_)] [_] t3 rfl (Zg (Za (xA (h:=Z2 [(0,_),(2,_),(3,_),(4,_)] t4 (Zl (ZlH (α:=Nat) (fun k=>[(0,str l),(3,.slice q (cut 46 l).length cp),(4,.int .i64 k)]) (fun k=>[s]) (fun k Bx=>Bx=B∧k≤(cut 46 l).length∧((cut 46 l).take k).all Zaz=true) (fun k=>(cut 46 l).length - k) 0 t3 rfl (⟨rfl,Nat.zero_le _,by simp⟩) (fun k B1 hle1 hI=>?_))))))))
 obtain ⟨rfl,hk,ha⟩:=hI
 have hcc:=ZmN 46 l
 refine Zg (Za (xM (h:=xM (h:=xV Tryz.underlying62 (h:=Zaf (h:=Z2 [(0,_),(3,_),(4,_),(10,_)] t4 (Zb rfl (fun g1=>?_) (fun g1=>?_))))))))
 try simp only [sQ,ne_eq] at g1
 obtain ⟨y,hy⟩ :∃y,(cut 46 l)[k]? = some y:=⟨_,List.getElem?_eq_getElem oz⟩
 have hyl:=ZnT 46 l y (List.mem_of_getElem? hy)
 obtain ⟨a,rfl,hsp,hat⟩:=hv.at (B:=B1) (L:=[s]) (i:=k) (v:=str y) 0 rfl (by rw [List.getElem?_map,hy];rfl)
 refine wSk (Zg (Zl (Za (xM (h:=xM (h:=Zn (Zbf rfl rfl Tryz.underlying62 sz9 rfl rfl oz oz ?_)))))))
 refine Zn (Zf rfl rfl lk9 rfl (Zw2 hat) (xR Zlq rfl (Zb6 _ oz _) (h:=?_)))
 refine xN (h:=Z2 [(0,_),(3,_),(4,_),(10,_),(18,_)] t5 (Zb rfl (fun g2=>?_) (fun g2=>?_)))
 try simp only [sQ,ne_eq] at g2
 refine Za (xA (h:=Z2 [(0,_),(2,_),(3,_),(4,_),(10,_),(18,_)] t6 (Zd (ZH (Zp (ZuC (ZH (Zp ?_))))))))
 exact eR t1 ⟨Zh (by simp [Zcp,ZmX hy g2]),rfl,rfl⟩
 try simp only [sQ,ne_eq] at g2
 refine ZL (ZA (Zj (Zc (xM (h:=Zn (Zfa rfl rfl rfl rfl (by first | exact Za9 oz oz | rfl) ?_))))))
 refine xA (h:=?_)
 exact Zo9 (k+1) oz ⟨rfl,oz,ZjS hy g2 ha⟩ t3 rfl
 try simp only [sQ,ne_eq] at g1
 obtain hke:k=(cut 46 l).length:=by omega
 rw [hke,List.take_length] at ha
 refine ZS (Zae (Zo8 (ZI (Zj (Za (xM (h:=xV Tryz.underlying62 (h:=ZcU (h:=xM (h:=Zo (d:=22) rfl (fun g3=>?_) (fun g3=>?_)))))))))))
 try simp only [sQ,ne_eq] at g3
 refine xM (h:=xVs Tryz.underlying9 (h:=ZcU (h:=xT (h:=xA (h:=Z2 [(0,_),(2,_),(3,_),(4,_),(10,_)] t5 (Zd ?_))))))
 exact eR t1 ⟨Zh (by rw [Bool.eq_iff_iff];simp [Zcp,ha];omega),rfl,rfl⟩
 try simp only [sQ,ne_eq] at g3
 refine xP (h:=xP (h:=xP (h:=xF (h:=xA (h:=Z2 [(0,_),(2,_),(3,_),(4,_),(10,_)] t5 (Zd ?_))))))
 exact eR t1 ⟨Zh (by rw [Bool.eq_iff_iff];simp [Zcp,ha];omega),rfl,rfl⟩

theorem Zdb (q:Option Addr) (cp:Nat) (us:List DUser) (u:Str) (B:Kn) (hu:SlK B q cp 3 Zs us):ZaM (pj J) 78 [.slice q us.length cp,str u] B (.int .i64 (Zds us u)):=by
 refine cB 20 Tryz.func78 (h:=?_)
 have hun:=hu.len
 refine Za (xA (h:=Zg (Za (xA (h:=Zl (ZO (α:=Nat) [0,1] (fun k=>[(5,.int .i64 k)]) [] (fun k=>[]) (fun k Bx=>Bx=B∧k≤us.length∧∀x,x∈us.take k→x.name≠u) (fun k=>us.length - k) 0 t1 rfl (⟨rfl,Nat.zero_le _,by simp⟩) (fun k B1 hle1 hI=>?_)))))))
 obtain ⟨rfl,hk,ha⟩:=hI
 refine ZM [(0,_),(1,_),(5,_)] [] t3 rfl (Zg (Za (xM (h:=xM (h:=xV Tryz.underlying23 (h:=Zaf (h:=Zb rfl (fun g1=>?_) (fun g1=>?_))))))))
 try simp only [sQ,ne_eq] at g1
 refine wSk (Zg (Zl (Za (xM (h:=xM (h:=?_))))))
 obtain ⟨x,hx⟩:=Zag (xs:=us) (i:=k) om
 obtain ⟨bb3,oo3,rfl⟩:=hu.base hx
 obtain ⟨_,⟨rfl,hb4,hb4b⟩,hc4⟩:=hu.elem hx
 refine xIx Tryz.underlying23 Ze3 (h:=xW Zdj (h:=y1 lk9 hc4 0 (h:=xM (h:=ZdG (h:=Zb rfl (fun g2=>?_) (fun g2=>?_))))))
 try simp only [sQ,ne_eq] at g2
 refine Za (xM (h:=xA (h:=Zd (ZH (Zp (Z3 (ZH (Zp ?_))))))))
 exact eR t1 ⟨Za1 (Zte hx g2 ha).symm,rfl,rfl⟩
 try simp only [sQ,ne_eq] at g2
 refine ZL (ZA (Zj (Zc (xM (h:=xD (h:=xA (h:=?_)))))))
 exact ZD (k+1) [] so2 ⟨rfl,oz,Zbu hx ha g2⟩ t3 rfl
 try simp only [sQ,ne_eq] at g1
 refine ZS (Zae (ZX (ZI (Zj (Za (xA (h:=Zd ?_)))))))
 exact eR t1 ⟨Za1 (Zri (ZbO oz ha)).symm,rfl,rfl⟩

theorem Znj (q q':Option Addr) (cp cp':Nat) (xs ys:List Str) (B:Kn) (ha:SlK B q cp 1 Zbv xs) (hb:SlK B q' cp' 1 Zbv ys):ZaM (pj J) 57 [.slice q xs.length cp,.slice q' ys.length cp'] B (.bool (decide (xs=ys))):=by
 refine cB 26 Tryz.func57 (h:=?_)
 have han:=ha.len
 have hbn:=hb.len
 refine Za (xA (h:=Zg (Za (xM (h:=xV Tryz.underlying62 (h:=xM (h:=xV Tryz.underlying62 (h:=Zbm (h:=Zb rfl (fun g1=>?_) (fun g1=>?_))))))))))
 try simp only [sQ,ne_eq] at g1
 refine Za (xA (h:=Zd (Zp ?_)))
 exact eR t1 ⟨Zh (ZjE g1),rfl,rfl⟩
 try simp only [sQ,ne_eq] at g1
 refine wSk (Zg (Za (xA (h:=Zl (ZO (α:=Nat) [0,1,10] (fun k=>[(5,.int .i64 k)]) [] (fun k=>[]) (fun k Bx=>Bx=B∧k≤xs.length∧xs.take k=ys.take k) (fun k=>xs.length - k) 0 t1 rfl (⟨rfl,Nat.zero_le _,by simp⟩) (fun k B1 hle1 hI=>?_))))))
 obtain ⟨rfl,hk,he⟩:=hI
 refine ZM [(0,_),(1,_),(5,_),(10,_)] [] t4 rfl (Zg (Za (xM (h:=xM (h:=xV Tryz.underlying62 (h:=Zaf (h:=Zb rfl (fun g2=>?_) (fun g2=>?_))))))))
 try simp only [sQ,ne_eq] at g2
 refine wSk (Zg (Zl (Zg (Z0 (same _ _) mo kr ⟨rfl,rfl⟩ (fun _ _=>?_)))))
 refine aM 0 rfl (h:=aM 1 rfl (h:=?_))
 obtain ⟨x,hx⟩:=Zag (xs:=xs) (i:=k) om
 obtain ⟨bb3,oo3,rfl⟩:=ha.base hx
 obtain ⟨_,⟨rfl,hb4⟩,hc4⟩:=ha.elem hx
 refine aIx 2 rfl Tryz.underlying62 sz9 (h:=aT 3 rfl (Zar fun D=>Zf rfl rfl lk9 rfl (hc4 _ 0 _ rfl) r4) (h:=aM 4 rfl (h:=aM 5 rfl (h:=?_))))
 obtain ⟨y,hy⟩:=Zag (xs:=ys) (i:=k) om
 obtain ⟨bb6,oo6,rfl⟩:=hb.base hy
 obtain ⟨_,⟨rfl,hb7⟩,hc7⟩:=hb.elem hy
 refine aIx 6 rfl Tryz.underlying62 sz9 (h:=aT 7 rfl (Zar fun D=>Zf rfl rfl lk9 rfl (hc7 _ 0 _ rfl) r4) (h:=Zw8 8 rfl (h:=Zz kr kr ?_)))
 refine Zj (Zb rfl (fun g3=>?_) (fun g3=>?_))
 try simp only [sQ,ne_eq] at g3
 refine Za (xA (h:=Zd (ZH (Zp (Z3 (ZH (Zp ?_)))))))
 exact eR t1 ⟨Zh (Zg5 hx hy g3),rfl,rfl⟩
 try simp only [sQ,ne_eq] at g3
 refine ZL (ZA (Zj (Zc (xM (h:=xD (h:=xA (h:=?_)))))))
 exact ZD (k+1) [] so2 ⟨rfl,oz,Zcw hx hy g3 he⟩ t4 rfl
 try simp only [sQ,ne_eq] at g2
 refine ZS (Zae (ZX (ZI (Zj (Za (xA (h:=Zd ?_)))))))
 exact eR t1 ⟨Zh (eqT oz oz he),rfl,rfl⟩

theorem Zoy (q:Option Addr) (cp:Nat) (xs:List Str) (u:Str) (B:Kn) (ha:SlK B q cp 1 Zbv xs):ZaM (pj J) 80 [.slice q xs.length cp,str u] B (.bool (decide (u∈xs))):=by
 refine cB 18 Tryz.func80 (h:=?_)
 have han:=ha.len
 refine Za (xA (h:=Zg (Za (xA (h:=Zl (ZO (α:=Nat) [0,1] (fun k=>[(5,.int .i64 k)]) [] (fun k=>[]) (fun k Bx=>Bx=B∧k≤xs.length∧∀x,x∈xs.take k→x≠u) (fun k=>xs.length - k) 0 t1 rfl (⟨rfl,Nat.zero_le _,by simp⟩) (fun k B1 hle1 hI=>?_)))))))
 obtain ⟨rfl,hk,hn⟩:=hI
 refine ZM [(0,_),(1,_),(5,_)] [] t3 rfl (Zg (Za (xM (h:=xM (h:=xV Tryz.underlying62 (h:=Zaf (h:=Zb rfl (fun g1=>?_) (fun g1=>?_))))))))
 try simp only [sQ,ne_eq] at g1
 refine wSk (Zg (Zl (Za (xM (h:=xM (h:=?_))))))
 obtain ⟨x,hx⟩:=Zag (xs:=xs) (i:=k) om
 obtain ⟨bb3,oo3,rfl⟩:=ha.base hx
 obtain ⟨_,⟨rfl,hb4⟩,hc4⟩:=ha.elem hx
 refine xIx Tryz.underlying62 sz9 (h:=y1 lk9 hc4 0 (h:=xM (h:=ZdG (h:=Zb rfl (fun g2=>?_) (fun g2=>?_)))))
 try simp only [sQ,ne_eq] at g2
 refine Za (xA (h:=Zd (ZH (Zp (Z3 (ZH (Zp ?_)))))))
 exact eR t1 ⟨Zh (Zzo hx g2),rfl,rfl⟩
 try simp only [sQ,ne_eq] at g2
 refine ZL (ZA (Zj (Zc (xM (h:=xD (h:=xA (h:=?_)))))))
 exact ZD (k+1) [] so2 ⟨rfl,oz,Zbu hx hn g2⟩ t3 rfl
 try simp only [sQ,ne_eq] at g1
 refine ZS (Zae (ZX (ZI (Zj (Za (xA (h:=Zd ?_)))))))
 exact eR t1 ⟨Zh (Zzp (ZbO oz hn)),rfl,rfl⟩

theorem Zpx (q:Option Addr) (cp:Nat) (xs:List Str) (B:Kn) (ha:SlK B q cp 1 Zbv xs):ZaM (pj J) 157 [.slice q xs.length cp] B (.bool (ZcW xs)):=by
 refine cB 29 Tryz.func157 (h:=?_)
 have han:=ha.len
 refine Za (xA (h:=Zg (Za (xA (h:=Zl (ZO (α:=Nat) [0] (fun k=>[(3,.int .i64 k)]) [] (fun k=>[]) (fun k Bx=>Bx=B∧k≤xs.length∧(xs.take k).all Zaz=true∧(xs.take k).Nodup) (fun k=>xs.length - k) 0 t1 rfl (⟨rfl,Nat.zero_le _,by simp,by simp⟩) (fun k B1 hle1 hI=>?_)))))))
 obtain ⟨rfl,hk,hv,hn⟩:=hI
 refine ZM [(0,_),(3,_)] [] t2 rfl (Zg (Za (xM (h:=xM (h:=xV Tryz.underlying62 (h:=Zaf (h:=Zb rfl (fun g1=>?_) (fun g1=>?_))))))))
 try simp only [sQ,ne_eq] at g1
 refine wSk (Zg (Zl (Zg (Z0 (same _ _) mo kr ⟨rfl,rfl⟩ (fun _ _=>?_)))))
 refine aM 0 rfl (h:=aM 1 rfl (h:=?_))
 obtain ⟨x,hx⟩:=Zag (xs:=xs) (i:=k) om
 obtain ⟨bb3,oo3,rfl⟩:=ha.base hx
 obtain ⟨_,⟨rfl,hb4⟩,hc4⟩:=ha.elem hx
 refine aIx 2 rfl Tryz.underlying62 sz9 (h:=aT 3 rfl (Zar fun D=>Zf rfl rfl lk9 rfl (hc4 _ 0 _ rfl) r4) (h:=aT 4 rfl (Zar fun D=>Zbc rfl rfl Zlq rfl (Zb6 _ om2 _) r4) (h:=?_)))
 refine aN 5 rfl (h:=aM 6 rfl (h:=ZaH (d:=16) rfl (fun g2=>?_) (fun g2=>?_)))
 try simp only [sQ,ne_eq] at g2
 refine aZ 7 rfl (h:=aZ 8 rfl (h:=aZ 9 rfl (h:=aZ 10 rfl (h:=aZ 11 rfl (h:=aZ 12 rfl (h:=aZ 13 rfl (h:=aZ 14 rfl (h:=aPT 15 rfl (h:=Zz kr kr ?_)))))))))
 refine Zj (Zb (t:=true) rfl (fun _=>Za (xA (h:=Zd (ZH (Zp (Z3 (ZH (Zp ?_)))))))) (fun h=>Bool.noConfusion h))
 exact eR t1 ⟨Zh (ZhP hx g2),rfl,rfl⟩
 try simp only [sQ,ne_eq] at g2
 refine aM 7 rfl (h:=aM 8 rfl (h:=?_))
 obtain ⟨hq6,q6,cp6,hv6,hr6⟩:=ha.cutE 0 k om om
 have hr6n:=hr6.len
 refine aT 9 rfl (Zar fun D=>ZfQ (a:=0) (b:=k) hv6 om hq6 rfl rfl Tryz.underlying62 sz9 rfl rfl ⟨_,_,rfl,by first | omega | (simp;done) | (simp;omega)⟩ r4) (h:=?_)
 refine aM 10 rfl (h:=aM 11 rfl (h:=aIx 12 rfl Tryz.underlying62 sz9 (h:=aT 13 rfl (Zar fun D=>Zf rfl rfl lk9 rfl (hc4 _ 0 _ rfl) r4) (h:=aT 14 rfl (Zar fun D=>Zbc rfl rfl Zy0 rfl (Zoy _ _ _ _ _ hr6) r4) (h:=aPF 15 rfl (h:=Zz kr kr ?_))))))
 refine Zj (Zb rfl (fun g3=>?_) (fun g3=>?_))
 try simp only [sQ,ne_eq] at g3
 refine Za (xA (h:=Zd (ZH (Zp (Z3 (ZH (Zp ?_)))))))
 exact eR t1 ⟨Zh (ZhO hx (by simpa using g3)),rfl,rfl⟩
 try simp only [sQ,ne_eq] at g3
 refine ZL (ZA (Zj (Zc (xM (h:=xD (h:=xA (h:=?_)))))))
 exact ZD (k+1) [] so2 ⟨rfl,oz,ZjS hx g2 hv,ZqZ hx hn (by simpa using g3)⟩ t2 rfl
 try simp only [sQ,ne_eq] at g1
 refine ZS (Zae (ZX (ZI (Zj (Za (xM (h:=xV Tryz.underlying62 (h:=ZcU (h:=xA (h:=Zd ?_))))))))))
 exact eR t1 ⟨Zh (ZiY oz hv hn),rfl,rfl⟩

theorem Zfd (q:Option Addr) (cp:Nat) (x:DLetter) (B:Kn) (ha:SlK B q cp 1 Zbv x.to_) (h1:x.fr.length≤2000000) (h2:x.text.length≤2000000):ZaM (pj J) 115 [.agg #[str x.fr,.slice q x.to_.length cp,str x.text]] B (.bool (ZaW x)):=by
 refine cB 23 Tryz.func115 (h:=?_)
 refine Za (xBx [_,_,_] (h:=fun b1=>xA (h:=tL1 (Za (xW Zjz (h:=x1 lk9 0 (h:=xR Zlq rfl (Zb6 _ om2 _) (h:=?_))))))))
 refine xM (h:=Zo (d:=6) rfl (fun g1=>?_) (fun g1=>?_))
 try simp only [sQ,ne_eq] at g1
 refine xW Zjy (h:=x1 Ze9 0 (h:=xR Zys rfl (Zpx _ _ _ _ ha) (h:=xT (h:=xM (h:=Zo (d:=11) rfl (fun g2=>?_) (fun g2=>?_))))))
 try simp only [sQ,ne_eq] at g2
 refine xW Zjy (h:=x1 Ze9 0 (h:=xV Tryz.underlying62 (h:=Zbp (h:=xT (h:=xM (h:=Zo (d:=17) rfl (fun g3=>?_) (fun g3=>?_)))))))
 try simp only [sQ,ne_eq] at g3
 refine xW ZnN (h:=x1 lk9 0 (h:=xVs Tryz.underlying9 (h:=ZcU (h:=xT (h:=xA (h:=Zd ?_))))))
 exact eR t1 ⟨Zh (by rw [Bool.eq_iff_iff];simp [ZaW,g1,g2,g3];try omega),rfl,rfl⟩
 try simp only [sQ,ne_eq] at g3
 refine xP (h:=xP (h:=xP (h:=xP (h:=xF (h:=xA (h:=Zd ?_))))))
 exact eR t1 ⟨Zh (by rw [Bool.eq_iff_iff];simp [ZaW,g1,g2,g3];try omega),rfl,rfl⟩
 try simp only [sQ,ne_eq] at g2
 refine xP (h:=xP (h:=xP (h:=xP (h:=xF (h:=xM (h:=xP (h:=xP (h:=xP (h:=xP (h:=xF (h:=xA (h:=Zd ?_))))))))))))
 exact eR t1 ⟨Zh (by rw [Bool.eq_iff_iff];simp [ZaW,g1,g2];try omega),rfl,rfl⟩
 try simp only [sQ,ne_eq] at g1
 refine xP (h:=xP (h:=xP (h:=xF (h:=xM (h:=xP (h:=xP (h:=xP (h:=xP (h:=xF (h:=xM (h:=xP (h:=xP (h:=xP (h:=xP (h:=xF (h:=xA (h:=Zd ?_)))))))))))))))))
 exact eR t1 ⟨Zh (by rw [Bool.eq_iff_iff];simp [ZaW,g1];try omega),rfl,rfl⟩

theorem Zrg (q:Option Addr) (cp:Nat) (xs:List Str) (v:Str) (B:Kn) (ha:SlK B q cp 1 Zbv xs):ZaM (pj J) 39 [.slice q xs.length cp,str v] B (.int .i64 (ZvN xs v)):=by
 refine cB 19 Tryz.func39 (h:=?_)
 have han:=ha.len
 refine Za (xA (h:=Zg (Za (xM (h:=xV Tryz.underlying62 (h:=xM (h:=Zl (ZO (α:=Nat) [0,1,7] (fun k=>[(8,.int .i64 k)]) [] (fun k=>[]) (fun k Bx=>Bx=B∧k≤xs.length∧∀x,x∈xs.take k→decide (x=v)=false) (fun k=>xs.length - k) 0 t1 rfl (⟨rfl,Nat.zero_le _,by simp⟩) (fun k B1 hle1 hI=>?_)))))))))
 obtain ⟨rfl,hk,hn⟩:=hI
 refine ZM [(0,_),(1,_),(7,_),(8,_)] [] t4 rfl (Za (Zaf (h:=Zg (Zb rfl (fun g1=>?_) (fun g1=>?_)))))
 try simp only [sQ,ne_eq] at g1
 refine wSk (Zg (Zl (Za (xM (h:=xA (h:=Za (xM (h:=xM (h:=xM (h:=?_))))))))))
 obtain ⟨x,hx⟩:=Zag (xs:=xs) (i:=k) om
 obtain ⟨bb3,oo3,rfl⟩:=ha.base hx
 obtain ⟨_,⟨rfl,hb4⟩,hc4⟩:=ha.elem hx
 refine xIx Tryz.underlying62 sz9 (h:=y1 lk9 hc4 0 (h:=ZdG (h:=Zb rfl (fun g2=>?_) (fun g2=>?_))))
 try simp only [sQ,ne_eq] at g2
 refine Za (xM (h:=xA (h:=Zd (ZH (Zp (Z3 (ZH (Zp ?_))))))))
 exact eR t1 ⟨Za1 (Zii hx (by simp [g2]) hn).symm,rfl,rfl⟩
 try simp only [sQ,ne_eq] at g2
 refine ZL (ZA (Zj (Zc (xD (h:=xM (h:=?_))))))
 exact ZD (k+1) [] so2 ⟨rfl,oz,Zbu hx hn (by simp [Ne.symm g2])⟩ t4 rfl
 try simp only [sQ,ne_eq] at g1
 refine ZS (Zae (ZX (ZI (Zj (Za (xA (h:=Zd ?_)))))))
 exact eR t1 ⟨Za1 (Zfp (ZbO oz hn)).symm,rfl,rfl⟩

theorem ZpV (q:Option Addr) (cp:Nat) (xs:List Str) (v:Str) (B:Kn) (ha:SlK B q cp 1 Zbv xs):ZaM (pj J) 159 [.slice q xs.length cp,str v] B (.bool (decide (v∈xs))):=by
 refine cB 9 Tryz.func159 (h:=?_)
 refine Za (xA (h:=Za (xM (h:=xM (h:=xR Zza rfl (Zrg _ _ _ _ _ ha) (h:=Zeo (h:=xA (h:=Zd ?_))))))))
 exact eR t1 ⟨Zh (by rw [Bool.eq_iff_iff];simp [Zoz]),rfl,rfl⟩

theorem Znm (q:Option Addr) (cp:Nat) (xs:List Str) (B:Kn) (ha:SlK B q cp 1 Zbv xs):ZaM (pj J) 121 [.slice q xs.length cp] B (.bool (decide (1≤xs.length) && ZcW xs)):=by
 refine cB 31 Tryz.func121 (h:=?_)
 have han:=ha.len
 refine Za (xA (h:=Zg (Za (xM (h:=xV Tryz.underlying62 (h:=Zaf (h:=xM (h:=Zo (d:=8) rfl (fun g1=>?_) (fun g1=>?_)))))))))
 try simp only [sQ,ne_eq] at g1
 refine xP (h:=xP (h:=xP (h:=xT (h:=Zb (t:=true) rfl (fun _=>Za (xA (h:=Zd (Zp ?_)))) (fun h=>Bool.noConfusion h)))))
 exact eR t1 ⟨Zh (by simp;omega),rfl,rfl⟩
 try simp only [sQ,ne_eq] at g1
 refine xM (h:=xV Tryz.underlying62 (h:=Zbp (h:=xF (h:=Zb rfl (fun g2=>?_) (fun g2=>?_)))))
 try simp only [sQ,ne_eq] at g2
 refine Za (xA (h:=Zd (Zp ?_)))
 exact eR t1 ⟨Zh (by simp [ZcW];omega),rfl,rfl⟩
 try simp only [sQ,ne_eq] at g2
 refine wSk (Zg (Za (xM (h:=xV Tryz.underlying62 (h:=xM (h:=Zl (ZO (α:=Nat) [0,12,13,14] (fun k=>[(15,.int .i64 k)]) [] (fun k=>[]) (fun k Bx=>Bx=B∧k≤xs.length∧(xs.take k).all Zaz=true∧(xs.take k).Nodup) (fun k=>xs.length - k) 0 t1 rfl (⟨rfl,Nat.zero_le _,by simp,by simp⟩) (fun k B1 hle1 hI=>?_))))))))
 obtain ⟨rfl,hk,hv,hn⟩:=hI
 refine ZM [(0,_),(12,_),(13,_),(14,_),(15,_)] [] t5 rfl (Za (Zaf (h:=Zg (Zb rfl (fun g3=>?_) (fun g3=>?_)))))
 try simp only [sQ,ne_eq] at g3
 refine wSk (Zg (Zl (Za (xM (h:=?_)))))
 obtain ⟨x,hx⟩:=Zag (xs:=xs) (i:=k) om
 obtain ⟨bb3,oo3,rfl⟩:=ha.base hx
 obtain ⟨_,⟨rfl,hb4⟩,hc4⟩:=ha.elem hx
 refine xIx Tryz.underlying62 sz9 (h:=y1 lk9 hc4 0 (h:=xA (h:=xA (h:=Za (xM (h:=xR ZvQ rfl (ZdA _ om2 _) (h:=?_)))))))
 refine xN (h:=xM (h:=Zo (d:=23) rfl (fun g4=>?_) (fun g4=>?_)))
 try simp only [sQ,ne_eq] at g4
 refine xP (h:=xP (h:=xP (h:=xP (h:=xP (h:=xT (h:=Zb (t:=true) rfl (fun _=>Za (xA (h:=Zd (ZH (Zp (Z3 (ZH (Zp ?_)))))))) (fun h=>Bool.noConfusion h)))))))
 exact eR t1 ⟨Zh (by rw [← ZhP hx g4,Bool.and_false]),rfl,rfl⟩
 try simp only [sQ,ne_eq] at g4
 refine xM (h:=xM (h:=?_))
 obtain ⟨hq6,q6,cp6,hv6,hr6⟩:=ha.cutE 0 k om om
 have hr6n:=hr6.len
 refine Zn (ZfQ (a:=0) (b:=k) hv6 om hq6 rfl rfl Tryz.underlying62 sz9 rfl rfl ⟨_,_,rfl,by first | omega | (simp;done) | (simp;omega)⟩ ?_)
 refine xM (h:=xR Zyq rfl (ZpV _ _ _ _ _ hr6) (h:=xF (h:=Zb rfl (fun g5=>?_) (fun g5=>?_))))
 try simp only [sQ,ne_eq] at g5
 refine Za (xA (h:=Zd (ZH (Zp (Z3 (ZH (Zp ?_)))))))
 exact eR t1 ⟨Zh (by rw [← ZhO hx (by simpa using g5),Bool.and_false]),rfl,rfl⟩
 try simp only [sQ,ne_eq] at g5
 refine ZL (ZA (Zj (Zc (xD (h:=xM (h:=?_))))))
 exact ZD (k+1) [] so2 ⟨rfl,oz,ZjS hx g4 hv,ZqZ hx hn (by simpa using g5)⟩ t5 rfl
 try simp only [sQ,ne_eq] at g3
 refine ZS (Zae (ZX (ZI (Zj (Za (xA (h:=Zd ?_)))))))
 exact eR t1 ⟨Zh (by rw [← ZiY oz hv hn];simp;omega),rfl,rfl⟩

theorem Zmr (q:Option Addr) (cp:Nat) (x:DLetter) (B:Kn) (ha:SlK B q cp 1 Zbv x.to_) (h1:x.fr.length≤2000000) (h2:x.text.length≤2000000):ZaM (pj J) 85 [.agg #[str x.fr,.slice q x.to_.length cp,str x.text]] B (.bool (ZaW x)):=by
 refine cB 17 Tryz.func85 (h:=?_)
 refine Za (xBx [_,_,_] (h:=fun b1=>xA (h:=tL1 (Za (xW Zjz (h:=x1 lk9 0 (h:=xR ZvQ rfl (ZdA _ om2 _) (h:=?_))))))))
 refine xM (h:=Zo (d:=6) rfl (fun g1=>?_) (fun g1=>?_))
 refine xW Zjy (h:=x1 Ze9 0 (h:=xR ZyB rfl (Znm _ _ _ _ ha) (h:=xT (h:=xM (h:=Zo (d:=11) rfl (fun g2=>?_) (fun g2=>?_))))))
 refine xW ZnN (h:=x1 lk9 0 (h:=xVs Tryz.underlying9 (h:=ZcU (h:=xT (h:=xA (h:=Zd ?_))))))
 exact eR t1 ⟨Zh (by rw [Zfm];simp [g1,g2]),rfl,rfl⟩
 refine xP (h:=xP (h:=xP (h:=xP (h:=xF (h:=xA (h:=Zd ?_))))))
 exact eR t1 ⟨Zh (by rw [Zfm];simp [g1,g2]),rfl,rfl⟩
 refine xP (h:=xP (h:=xP (h:=xF (h:=xM (h:=xP (h:=xP (h:=xP (h:=xP (h:=xF (h:=xA (h:=Zd ?_)))))))))))
 exact eR t1 ⟨Zh (by rw [Zfm];simp [g1]),rfl,rfl⟩

theorem Zny (b:Nat) (q:Option Addr) (m cp p:Nat) (hp:p≤900000000000) (hm:m≤2000) (B:Kn) (hbm:Zap B q m):Ex1 (pj J) 103 [ptr ⟨b,0,none⟩] B (rd b q m cp p) (fun v s=>∃x:Str,v=str x∧x.length≤40∧s=rd b q m cp (p+2)):=by
 refine cB 12 Tryz.func103 (h:=?_)
 refine Za (xA (h:=Zg (Za (xM (h:=xX 0 rfl Za7 rfl (ZK _ _ _ _ _ _ oz oz oz hm _ hbm) (h:=?_))))))
 rintro _ _ ⟨r1,rfl,r1a,r1b,rfl⟩
 refine ZE (h:=tL1 (Zb rfl (fun g1=>?_) (fun g1=>?_)))
 refine Za (xM (h:=xBs [(0,_),(1,_),(2,_),(3,_),(4,_),(5,_),(6,_),(7,_),(8,_)] [_,_,_,_,_,_,_,_,_] Tryz.underlying62 sz9 zo9 (h:=fun b2=>xK [0,1] rfl ZoK rfl (ZqT _ _ _ _ _ _ ([[],[46],[97,46,46,98],[97,46,98,46,99,46,100],[97,46,98,46,99],[97,98,99,100,101,102,103,104,46,97,98,99,100,101,102,103,104,46,97,98,99],[97,98,99,100,101,102,103,104,46,97,98,99,100,101,102,103,104,46,97,98],[104,111,115,116,46],[72,111,115,116,46,111,114,103]]:List Str) oz (by decide) (by decide) hm _ hbm) (h:=?_))))
 rintro _ B3 _ hle3 ⟨rfl,x3,hx3,rfl,rfl⟩
 replace hx3:=(show∀y∈( ([[],[46],[97,46,46,98],[97,46,98,46,99,46,100],[97,46,98,46,99],[97,98,99,100,101,102,103,104,46,97,98,99,100,101,102,103,104,46,97,98,99],[97,98,99,100,101,102,103,104,46,97,98,99,100,101,102,103,104,46,97,98],[104,111,115,116,46],[72,111,115,116,46,111,114,103]]:List Str):List Str),y.length≤40 from by decide) _ hx3
 refine xA (h:=tL2 (Zd (Zp ?_)))
 exact e1 0 rfl t1 ⟨rfl,_,rfl,_,rfl,hx3,rfl⟩
 refine wSk (Za (xM (h:=xBs [(0,_),(1,_),(2,_),(3,_)] [_,_,_,_] Tryz.underlying62 sz9 zo9 (h:=fun b4=>xK [0,1] rfl ZoK rfl (ZqT _ _ _ _ _ _ ([[104,111,115,116,46,111,114,103],[104,111,115,116],[97,46,98,46,99],[111,116,104,101,114,46,110,101,116]]:List Str) oz (by decide) (by decide) hm _ hbm) (h:=?_)))))
 rintro _ B5 _ hle5 ⟨rfl,x5,hx5,rfl,rfl⟩
 replace hx5:=(show∀y∈( ([[104,111,115,116,46,111,114,103],[104,111,115,116],[97,46,98,46,99],[111,116,104,101,114,46,110,101,116]]:List Str):List Str),y.length≤40 from by decide) _ hx5
 refine xA (h:=tL2 (Zd ?_))
 exact e1 0 rfl t1 ⟨rfl,_,rfl,_,rfl,hx5,rfl⟩

theorem Zge (aa:Option Addr) (ca:Nat) (a:DQueue) (ab:Option Addr) (cb:Nat) (b:DQueue) (B:Kn) (ha:SlK B aa ca 4 Zw a.items) (hb:SlK B ab cb 4 Zw b.items):ZaM (pj J) 17 [.agg #[.int .i64 a.next,.slice aa a.items.length ca],.agg #[.int .i64 b.next,.slice ab b.items.length cb]] B (.bool (decide (a=b))):=by
 refine cB 66 Tryz.func17 (h:=?_)
 have han:=ha.len
 have hbn:=hb.len
 refine Za (xBx [_,_] (h:=fun b1=>xBx [_,_] (h:=fun b2=>xA (h:=tL2 (Zg (Za (xW Zdk (h:=x1 lk3 0 (h:=xW Zdk (h:=x1 lk3 1 (h:=Zbm (h:=xM (h:=Zo (d:=13) rfl (fun g1=>?_) (fun g1=>?_))))))))))))))
 try simp only [sQ,ne_eq] at g1
 refine xP (h:=xP (h:=xP (h:=xP (h:=xP (h:=xP (h:=xP (h:=xT (h:=Zb (t:=true) rfl (fun _=>Za (xA (h:=Zd (Zp ?_)))) (fun h=>Bool.noConfusion h)))))))))
 exact eR t1 ⟨Zh (by symm;rw [decide_eq_false_iff_not];rintro rfl;exact g1 rfl),rfl,rfl⟩
 try simp only [sQ,ne_eq] at g1
 refine xW Zan (h:=x1 Zej 0 (h:=xV Tryz.underlying25 (h:=xW Zan (h:=x1 Zej 1 (h:=xV Tryz.underlying25 (h:=Zbm (h:=xF (h:=Zb rfl (fun g2=>?_) (fun g2=>?_)))))))))
 try simp only [sQ,ne_eq] at g2
 refine Za (xA (h:=Zd (Zp ?_)))
 exact eR t1 ⟨Zh (by symm;rw [decide_eq_false_iff_not];rintro rfl;exact g2 rfl),rfl,rfl⟩
 try simp only [sQ,ne_eq] at g2
 refine wSk (Zg (Za (xA (h:=Zl (ZO (α:=Nat) [0,1,2,3,21] (fun k=>[(5,.int .i64 k)]) [] (fun k=>[]) (fun k Bx=>Bx=B∧k≤a.items.length∧a.items.take k=b.items.take k) (fun k=>a.items.length - k) 0 t1 rfl (⟨rfl,Nat.zero_le _,by simp⟩) (fun k B3 hle3 hI=>?_))))))
 obtain ⟨rfl,hk,he⟩:=hI
 refine ZM [(0,_),(1,_),(2,_),(3,_),(5,_),(21,_)] [_,_] t6 rfl (Zg (Za (xM (h:=xW Zan (h:=x1 Zej 0 (h:=xV Tryz.underlying25 (h:=Zaf (h:=Zb rfl (fun g3=>?_) (fun g3=>?_)))))))))
 try simp only [sQ,ne_eq] at g3
 refine wSk (Zg (Zl (Za (xW Zan (h:=x1 Zej 0 (h:=xM (h:=?_)))))))
 obtain ⟨x,hx⟩:=Zag (xs:=a.items) (i:=k) om
 obtain ⟨bb5,oo5,rfl⟩:=ha.base hx
 obtain ⟨_,⟨qi6,ci6,rfl,hi6,hb6,hb6b⟩,hc6⟩:=ha.elem hx
 have hi6n:=hi6.len
 refine xIx Tryz.underlying25 Zdf (h:=yL [_,_,_,_] Zh4 hc6 0 (h:=xAl [_,_,_,_] Zgw (h:=fun b7=>xS [_,_,_,_] 2 [_,_,_,_] Zdf (h:=tL3 (Za (xW Zan (h:=x1 Zej 1 (h:=xM (h:=?_)))))))))
 obtain ⟨y,hy⟩:=Zag (xs:=b.items) (i:=k) om
 obtain ⟨bb9,oo9,rfl⟩:=hb.base hy
 obtain ⟨_,⟨qi10,ci10,rfl,hi10,hb10,hb10b⟩,hc10⟩:=hb.elem hy
 have hi10n:=hi10.len
 refine xIx Tryz.underlying25 Zdf (h:=yL [_,_,_,_] Zh4 hc10 0 (h:=xAl [_,_,_,_] Zgw (h:=fun b11=>xS [_,_,_,_] 3 [_,_,_,_] Zdf (h:=tL4 (Za (xW Zdi (h:=x1 lk3 2 (h:=xW Zdi (h:=x1 lk3 3 (h:=Zbm (h:=xM (h:=Zo (d:=44) rfl (fun g4=>?_) (fun g4=>?_)))))))))))))
 try simp only [sQ,ne_eq] at g4
 refine xP (h:=xP (h:=xP (h:=xP (h:=xP (h:=xT (h:=xM (h:=xP (h:=xP (h:=xP (h:=xP (h:=xP (h:=xT (h:=xM (h:=xP (h:=xP (h:=xP (h:=xP (h:=xP (h:=xP (h:=xT (h:=Zb (t:=true) rfl (fun _=>Za (xA (h:=Zd (ZH (Zp (Z3 (ZH (Zp ?_)))))))) (fun h=>Bool.noConfusion h))))))))))))))))))))))
 exact eR t1 ⟨Zh (Zib hx hy (fun e=>g4 (by rw [e]))),rfl,rfl⟩
 try simp only [sQ,ne_eq] at g4
 refine xW ZkG (h:=x1 lk9 2 (h:=xW ZkG (h:=x1 lk9 3 (h:=ZhE (h:=xF (h:=xM (h:=Zo (d:=51) rfl (fun g5=>?_) (fun g5=>?_))))))))
 try simp only [sQ,ne_eq] at g5
 refine xP (h:=xP (h:=xP (h:=xP (h:=xP (h:=xT (h:=xM (h:=xP (h:=xP (h:=xP (h:=xP (h:=xP (h:=xP (h:=xT (h:=Zb (t:=true) rfl (fun _=>Za (xA (h:=Zd (ZH (Zp (Z3 (ZH (Zp ?_)))))))) (fun h=>Bool.noConfusion h)))))))))))))))
 exact eR t1 ⟨Zh (Zib hx hy (fun e=>g5 (by rw [e]))),rfl,rfl⟩
 try simp only [sQ,ne_eq] at g5
 refine xW ZkF (h:=x1 lk9 2 (h:=xW ZkF (h:=x1 lk9 3 (h:=ZhE (h:=xF (h:=xM (h:=Zo (d:=58) rfl (fun g6=>?_) (fun g6=>?_))))))))
 try simp only [sQ,ne_eq] at g6
 refine xP (h:=xP (h:=xP (h:=xP (h:=xP (h:=xP (h:=xT (h:=Zb (t:=true) rfl (fun _=>Za (xA (h:=Zd (ZH (Zp (Z3 (ZH (Zp ?_)))))))) (fun h=>Bool.noConfusion h))))))))
 exact eR t1 ⟨Zh (Zib hx hy (fun e=>g6 (by rw [e]))),rfl,rfl⟩
 try simp only [sQ,ne_eq] at g6
 refine xW ZaO (h:=x1 Ze9 2 (h:=xW ZaO (h:=x1 Ze9 3 (h:=xR ZzO rfl (Znj _ _ _ _ _ _ _ hi6 hi10) (h:=xN (h:=xF (h:=Zb rfl (fun g7=>?_) (fun g7=>?_))))))))
 try simp only [sQ,ne_eq] at g7
 refine Za (xA (h:=Zd (ZH (Zp (Z3 (ZH (Zp ?_)))))))
 exact eR t1 ⟨Zh (Zib hx hy (fun e=>g7 (by rw [e]))),rfl,rfl⟩
 try simp only [sQ,ne_eq] at g7
 refine ZL (ZA (Zj (Zc (xM (h:=xD (h:=xA (h:=?_)))))))
 exact ZD (k+1) [0,1] so2 ⟨rfl,oz,Zcw hx hy (by cases x;cases y;simp_all) he⟩ t6 rfl
 try simp only [sQ,ne_eq] at g3
 refine ZS (Zae (ZX (ZI (Zj (Za (xA (h:=Zd ?_)))))))
 exact eR t1 ⟨Zh (by symm;rw [decide_eq_true_eq];cases a;cases b;rw [DQueue.mk.injEq];exact ⟨g1,by have:=eqT (inst:=Classical.propDecidable _) oz oz he;simpa using this.symm⟩),rfl,rfl⟩

theorem Zf9 (aq:Option Addr) (cq:Nat) (q:DQueue) (B:Kn) (hq:SlK B aq cq 4 Zw q.items):ZaM (pj J) 75 [.agg #[.int .i64 q.next,.slice aq q.items.length cq]] B (.bool (Zab q)):=by
 refine cB 48 Tryz.func75 (h:=?_)
 have hqn:=hq.len
 refine Za (xBx [_,_] (h:=fun b1=>xA (h:=tL1 (Za (xA (h:=Zg (Za (xA (h:=Zl (ZO (α:=Nat × Int) [0,1] (fun p=>[(3,.int .i64 p.2),(4,.int .i64 p.1)]) [] (fun p=>[]) (fun p Bx=>Bx=B∧p.1≤q.items.length∧Zc6 0 q.items=Zc6 p.2 (q.items.drop p.1)∧0≤p.2∧p.2≤99) (fun p=>q.items.length - p.1) (0,0) t2 rfl (⟨rfl,Nat.zero_le _,rfl,by decide,by decide⟩) (fun p B2 hle2 hI=>?_)))))))))))
 obtain ⟨rfl,hk,hs,hl0,hl1⟩:=hI
 refine ZM [(0,_),(1,_),(3,_),(4,_)] [_] t4 rfl (Zg (Za (xM (h:=xW Zan (h:=x1 Zej 0 (h:=xV Tryz.underlying25 (h:=Zaf (h:=Zb rfl (fun g1=>?_) (fun g1=>?_)))))))))
 try simp only [sQ,ne_eq] at g1
 refine wSk (Zg (Zl (Za (xW Zan (h:=x1 Zej 0 (h:=xM (h:=?_)))))))
 obtain ⟨x,hx⟩:=Zag (xs:=q.items) (i:=p.1) om
 obtain ⟨bb4,oo4,rfl⟩:=hq.base hx
 obtain ⟨_,⟨qi5,ci5,rfl,hi5,hb5,hb5b⟩,hc5⟩:=hq.elem hx
 have hi5n:=hi5.len
 refine xIx Tryz.underlying25 Zdf (h:=?_)
 replace hs:=ZqJ hs hx
 refine yL [_,_,_,_] Zh4 hc5 0 (h:=xAl [_,_,_,_] Zgw (h:=fun b6=>xS [_,_,_,_] 1 [_,_,_,_] Zdf (h:=tL2 (Zg (Za (xW Zdi (h:=x1 lk3 1 (h:=xM (h:=xD (h:=xR ZeF rfl (ZcA _ _ _ _) (h:=xN (h:=xM (h:=Zo (d:=24) rfl (fun g2=>?_) (fun g2=>?_))))))))))))))
 try simp only [sQ,ne_eq] at g2
 refine xP (h:=xP (h:=xP (h:=xP (h:=xP (h:=xP (h:=xP (h:=xP (h:=xP (h:=xT (h:=Zb (t:=true) rfl (fun _=>Za (xA (h:=Zd (Zp (ZH (Zp (Z3 (ZH (Zp ?_))))))))) (fun h=>Bool.noConfusion h)))))))))))
 exact eR t1 ⟨Zh (Zon (by rw [hs,if_neg];intro h;simp [h.1] at g2)),rfl,rfl⟩
 try simp only [sQ,ne_eq] at g2
 simp only [Bool.and_eq_true,decide_eq_true_eq] at g2
 refine xW ZkG (h:=x1 lk9 1 (h:=xW ZaO (h:=x1 Ze9 1 (h:=xW ZkF (h:=x1 lk9 1 (h:=xB [(0,_),(1,_),(2,_)] [_,_,_] [_,_,_] ZsQ ZoS (h:=xR Zvy rfl (Zfd _ _ ⟨x.fr,x.left,x.text⟩ _ hi5 oa oa) (h:=?_))))))))
 refine xN (h:=xF (h:=Zb rfl (fun g3=>?_) (fun g3=>?_)))
 try simp only [sQ,ne_eq] at g3
 refine Za (xA (h:=Zd (Zp (ZH (Zp (Z3 (ZH (Zp ?_))))))))
 exact eR t1 ⟨Zh (Zon (by rw [hs,if_neg];intro h;rw [ZcL,g3] at h;cases h.2)),rfl,rfl⟩
 try simp only [sQ,ne_eq] at g3
 refine wSk (Zc (xW Zdi (h:=x1 lk3 1 (h:=xA (h:=ZA (Zj (Zc (xM (h:=xD (h:=xA (h:=?_)))))))))))
 exact ZD (p.1+1,x.id) [0] so2 ⟨rfl,so,by rw [hs,if_pos ⟨g2,g3⟩],so,so⟩ t4 rfl
 try simp only [sQ,ne_eq] at g1
 rw [ZrT oz,Zc6] at hs
 refine ZS (Zae (ZX (ZI (Zj (Za (xW Zdk (h:=x1 lk3 0 (h:=xM (h:=xD (h:=xR ZeF rfl (ZcA _ _ _ _) (h:=xM (h:=Zo (d:=42) rfl (fun g1=>?_) (fun g1=>?_)))))))))))))
 try simp only [sQ,ne_eq] at g1
 refine xW Zan (h:=x1 Zej 0 (h:=xV Tryz.underlying25 (h:=ZcU (h:=xT (h:=xA (h:=Zd ?_))))))
 exact eR t1 ⟨Zh (by rw [← Zom hs,Bool.eq_iff_iff];simp [g1,g1];try omega),rfl,rfl⟩
 try simp only [sQ,ne_eq] at g1
 refine xP (h:=xP (h:=xP (h:=xP (h:=xF (h:=xA (h:=Zd ?_))))))
 exact eR t1 ⟨Zh (by rw [← Zom hs,Bool.eq_iff_iff];simp [g1,g1];try omega),rfl,rfl⟩

theorem Zs8 (l:Str) (n:Nat) (hl:l.length*n≤100000) (hn:n≤100000) (hl2:l.length≤100000) (B:Kn):ZaM (pj J) 172 [str l,.int .i64 n] B (str (rep l n)):=by
 refine cB 20 Tryz.func172 (h:=?_)
 refine Za (xA (h:=Za (xA (h:=Zg (Zl (ZO (α:=Str × Str × Nat) [4] (fun p=>[(0,str p.1),(1,.int .i64 p.2.2),(5,str p.2.1)]) [] (fun p=>[]) (fun p Bx=>Bx=B∧rep l n=p.2.1 ++ rep p.1 p.2.2∧p.2.2≤n∧p.1.length≤200000∧p.2.1.length≤100000∧(0<p.2.2→p.1.length≤100000)) (fun p=>p.2.2) (l,[],n) t3 rfl (⟨rfl,rfl,Nat.le_refl _,so,by simp,fun _=>hl2⟩) (fun p B1 hle1 hI=>?_)))))))
 obtain ⟨rfl,hr,h1,h2,h3,h4⟩:=hI
 have hrl:=congrArg List.length hr
 rw [List.length_append,Zk3,Zk3,Nat.mul_comm] at hrl
 refine ZM [(0,_),(1,_),(4,_),(5,_)] [] t4 rfl (Zg (Za (xM (h:=Zbp (h:=Zb rfl (fun g1=>?_) (fun g1=>?_))))))
 try simp only [sQ,ne_eq] at g1
 have hp0:0<p.2.2:=by omega
 replace h4:=h4 hp0
 have hm1:=Nat.le_mul_of_pos_left p.1.length hp0
 have e1:Int.tdiv (p.2.2:Int) 2=((p.2.2 / 2:Nat):Int):=by rw [Int.tdiv_eq_ediv_of_nonneg oz];omega
 have e2:Int.tmod (p.2.2:Int) 2=((p.2.2 % 2:Nat):Int):=by rw [Int.tmod_eq_emod_of_nonneg oz];omega
 refine wSk (Zl (Zg (Za (xM (h:=Zn (Zh2 rfl rfl rfl rfl oz rfl ?_))))))
 refine ZE (h:=Zb rfl (fun g2=>?_) (fun g2=>?_))
 try simp only [sQ,ne_eq] at g2
 rw [e2] at g2
 have hro:=ZuD p.1 p.2.2 oz
 have hol:=Zk3 (p.1 ++ p.1) (p.2.2 / 2)
 refine Zc (xM (h:=xM (h:=Zn (Zun rfl rfl rfl rfl (by first | omega | (simp;omega)) ?_))))
 refine xA (h:=Zj (Za (xM (h:=xM (h:=Zn (Zun rfl rfl rfl rfl (by first | omega | (simp;omega)) ?_))))))
 refine xA (h:=Zc (xM (h:=Zn (Ziw rfl rfl rfl rfl oz (by first | exact Za9 om om | rfl) ?_))))
 refine xA (h:=ZA ?_)
 exact ZD (p.1 ++ p.1,p.2.1 ++ p.1,p.2.2 / 2) [] so2 ⟨rfl,by rw [hr,hro,List.append_assoc],so,by simp only [List.length_append];omega,by simp only [List.length_append];omega,fun h=>by simp only [List.length_append] at h ⊢;have:=Nat.mul_le_mul_right p.1.length (show 2≤p.2.2 by omega);omega⟩ t4 rfl
 try simp only [sQ,ne_eq] at g2
 rw [e2] at g2
 have hro:=ZsG p.1 p.2.2 oz
 refine wSk (Za (xM (h:=xM (h:=Zn (Zun rfl rfl rfl rfl (by first | omega | (simp;omega)) ?_)))))
 refine xA (h:=Zc (xM (h:=Zn (Ziw rfl rfl rfl rfl oz (by first | exact Za9 om om | rfl) ?_))))
 refine xA (h:=ZA ?_)
 exact ZD (p.1 ++ p.1,p.2.1,p.2.2 / 2) [] so2 ⟨rfl,by rw [hr,hro],so,by simp only [List.length_append];omega,h3,fun h=>by simp only [List.length_append] at h ⊢;have:=Nat.mul_le_mul_right p.1.length (show 2≤p.2.2 by omega);omega⟩ t4 rfl
 try simp only [sQ,ne_eq] at g1
 refine ZS (Zae (ZX (ZI (Zj (Za (xM (h:=xA (h:=Zd ?_))))))))
 exact eR t1 ⟨Zwp (by rw [hr,show p.2.2=0 from by omega];simp [rep]),rfl,rfl⟩

theorem Zfn (b:Nat) (q:Option Addr) (m cp p:Nat) (hp:p≤900000000000) (hm:m≤2000) (B:Kn) (hbm:Zap B q m):Ex1 (pj J) 150 [ptr ⟨b,0,none⟩] B (rd b q m cp p) (fun v s=>∃x:Str,v=str x∧x.length≤40∧s=rd b q m cp (p+2)):=by
 refine cB 13 Tryz.func150 (h:=?_)
 refine Za (xA (h:=Zg (Za (xM (h:=xX 0 rfl Za7 rfl (ZK _ _ _ _ _ _ oz oz oz hm _ hbm) (h:=?_))))))
 rintro _ _ ⟨r1,rfl,r1a,r1b,rfl⟩
 refine ZE (h:=tL1 (Zb rfl (fun g1=>?_) (fun g1=>?_)))
 refine Za (xM (h:=xX 0 rfl Za7 rfl (ZK _ _ _ _ _ _ oz oz oz hm _ hbm) (h:=?_)))
 rintro _ _ ⟨ra,rfl,raa,rab,rfl⟩
 refine xD (h:=?_)
 obtain ⟨n3,hn3⟩:=Int.eq_ofNat_of_zero_le (show 0≤19+ra by omega)
 rw [hn3]
 refine xR Zyj rfl (Zs8 [120] n3 (by simp;omega) oz (by decide) _) (h:=?_)
 refine xA (h:=tL1 (Zd (Zp ?_)))
 exact e1 0 rfl t1 ⟨rfl,_,rfl,_,rfl,by rw [Zk3];simp;omega,rfl⟩
 refine wSk (Za (xM (h:=xBs [(0,_),(1,_),(2,_),(3,_),(4,_),(5,_)] [_,_,_,_,_,_] Tryz.underlying62 sz9 zo9 (h:=fun b4=>xK [0,1] rfl ZoK rfl (ZqT _ _ _ _ _ _ ([[],[104,101,108,108,111],[97,109,121,32,97,110,100,32,98,111,98],[120],[98,111,120,49,32,111,114,32,120],[116,111,32,98,111,98]]:List Str) oz (by decide) (by decide) hm _ hbm) (h:=?_)))))
 rintro _ B5 _ hle5 ⟨rfl,x5,hx5,rfl,rfl⟩
 replace hx5:=(show∀y∈( ([[],[104,101,108,108,111],[97,109,121,32,97,110,100,32,98,111,98],[120],[98,111,120,49,32,111,114,32,120],[116,111,32,98,111,98]]:List Str):List Str),y.length≤40 from by decide) _ hx5
 refine xA (h:=tL2 (Zd ?_))
 exact e1 0 rfl t1 ⟨rfl,_,rfl,_,rfl,hx5,rfl⟩

theorem ZuS (b:Nat) (q:Option Addr) (m cp p:Nat) (hp:p≤900000000000) (hm:m≤2000) (B:Kn) (hbm:Zap B q m):Zv (pj J) 173 [ptr ⟨b,0,none⟩] B [rd b q m cp p] (fun v B' Ls=>∃q' cp' xs p',v = .slice q' xs.length cp'∧SlK B' q' cp' 1 Zbv xs∧xs.length≤6∧p'≤p+6∧Ls=[rd b q m cp p']):=by
 refine cB 53 Tryz.func173 (h:=?_)
 refine Za (xA (h:=Za (xBs [] [] Tryz.underlying62 sz9 zo9 (h:=fun b1=>xA (h:=tL2 (Za (xBs [(0,_),(1,_),(2,_),(3,_)] [_,_,_,_] Tryz.underlying62 sz9 zo9 (h:=fun b2=>xA (h:=tL3 (Zd0 2 rfl (ZY.strs (ls:=([[97,109,121],[98,111,98],[99,121,100],[100,97,110]]:List Str)) (by first | decide | (simp;done) | (simp;omega))) Zbv.mono om3 (fun B3 hle3 hr3=>?_)))))))))))
 replace hbm:=hbm.mono hle3
 have hr3n:=hr3.len
 refine Zg (Za (xA (h:=tL3 (Zl (ZO (α:=Gh Str) [0,2,4] (fun x=>[(3,.slice x.a x.xs.length x.c),(5,.int .i64 x.k)]) [0,1] (fun x=>[rd b q m cp x.p,x.l]) (fun x Bx=>Bx=B3∧x.k≤3∧x.xs.length≤x.k∧x.p≤p+x.k∧ZY Bx x.l x.a x.c 9 1 Zbv x.xs) (fun x=>3 - x.k) ⟨0,p,_,_,_,[]⟩ t2 rfl (⟨rfl,Nat.zero_le _,Nat.le_refl _,Nat.le_refl _,.lit0⟩) (fun x B4 hle4 hI=>?_))))))
 obtain ⟨rfl,hk,hxk,hxp,hv⟩:=hI
 refine ZM [(0,_),(2,_),(3,_),(4,_),(5,_)] [_,_,_] t5 rfl (Zg (Za (xM (h:=Zaf (h:=Zb rfl (fun g1=>?_) (fun g1=>?_))))))
 try simp only [sQ,ne_eq] at g1
 refine wSk (Zg (Zl (Za (xM (h:=xX 0 rfl Za7 rfl (ZK _ _ _ _ _ _ oz oz oz hm _ hbm) (h:=?_))))))
 rintro _ _ ⟨r5,rfl,r5a,r5b,rfl⟩
 refine ZE (h:=tL3 (Zb rfl (fun g2=>?_) (fun g2=>?_)))
 try simp only [sQ,ne_eq] at g2
 refine Zc (xM (h:=xM (h:=xM (h:=?_))))
 obtain ⟨y,hy⟩:=Zag (xs:=([[97,109,121],[98,111,98],[99,121,100],[100,97,110]]:List Str)) (i:=x.k) om
 obtain ⟨_,⟨rfl,hb7⟩,hc7⟩:=hr3.elem hy
 refine xIx Tryz.underlying62 sz9 (h:=y1 lk9 hc7 0 (h:=xBs [(0,_)] [_] Tryz.underlying62 sz9 zo9 (h:=fun b8=>Zn (Zbg (z:=y) (R:=Zbv) 1 rfl hv rfl rfl rfl ZoI Zoc rfl rfl (ZaQ.box 3 rfl) rfl rfl (⟨rfl,by first | assumption | omega | (simp;done) | (simp;omega)⟩) om (fun l9 p9 c9 hv9=>?_)))))
 refine xA (h:=ZA (Zj (Zc (xM (h:=xD (h:=xA (h:=?_)))))))
 exact ZD ⟨x.k+1,(x.p+1),l9,p9,c9,(x.xs ++ [y])⟩ [0,1,2] so2 ⟨rfl,so,by simp;omega,so,hv9⟩ t5 rfl
 try simp only [sQ,ne_eq] at g2
 refine ZL (ZA (Zj (Zc (xM (h:=xD (h:=xA (h:=?_)))))))
 exact ZD ⟨x.k+1,(x.p+1),x.l,x.a,x.c,x.xs⟩ [0,1,2] so2 ⟨rfl,so,so,so,hv⟩ t5 rfl
 try simp only [sQ,ne_eq] at g1
 refine ZS (Zae (ZX (ZI (Zj (Zg (Za (xM (h:=xV Tryz.underlying62 (h:=ZE (h:=Zb rfl (fun g3=>?_) (fun g3=>?_)))))))))))
 try simp only [sQ,ne_eq] at g3
 refine Zc (xM (h:=xM (h:=xM (h:=xX 0 rfl Za7 rfl (ZK _ _ _ _ _ _ oz oz oz hm _ hbm) (h:=?_)))))
 rintro _ _ ⟨r10,rfl,r10a,r10b,rfl⟩
 obtain ⟨z,hz⟩:=ZeB (xs:=([[97,109,121],[98,111,98],[99,121,100],[100,97,110]]:List Str)) (i:=r10) om om
 obtain ⟨_,⟨rfl,hb12⟩,hc12⟩:=hr3.elem hz
 refine xIx Tryz.underlying62 sz9 (h:=y1 lk9 hc12 0 (h:=xBs [(0,_)] [_] Tryz.underlying62 sz9 zo9 (h:=fun b13=>Zn (Zbg (z:=z) (R:=Zbv) 1 rfl hv rfl rfl rfl ZoI Zoc rfl rfl (ZaQ.box 3 rfl) rfl rfl (⟨rfl,by first | assumption | omega | (simp;done) | (simp;omega)⟩) om (fun l14 p14 c14 hv14=>?_)))))
 refine xA (h:=Zj (Zg (Za (xM (h:=xX 0 rfl Za7 rfl (ZK _ _ _ _ _ _ oz oz oz hm _ hbm) (h:=?_))))))
 rintro _ _ ⟨r15,rfl,r15a,r15b,rfl⟩
 refine tL4 (Zl (Za (ZE (h:=xA (h:=Zb rfl (fun g4=>?_) (fun g4=>?_))))))
 try simp only [sQ,ne_eq] at g4
 refine Zc (xM (h:=xM (h:=?_)))
 obtain ⟨w,hw⟩:=Zag (xs:=(x.xs ++ [z])) (i:=0) om
 obtain ⟨bb17,_,hp17,⟨rfl,hb17⟩,hw17,hc17⟩:=hv14.row hw
 refine xIp hp17 Tryz.underlying62 sz9 (h:=Zn (Zf rfl rfl lk9 rfl (hc17 _ 1 rfl 0 _ rfl) (xBs [(0,_)] [_] Tryz.underlying62 sz9 zo9 (h:=fun b18=>Zn (Zbg (z:=w) (R:=Zbv) 1 rfl hv14 rfl rfl rfl ZoI Zoc rfl rfl (ZaQ.box 4 rfl) rfl rfl (⟨rfl,by first | assumption | omega | (simp;done) | (simp;omega)⟩) om (fun l19 p19 c19 hv19=>?_))))))
 refine xA (h:=ZA (Zj (Zd0 1 rfl hv19 Zbv.mono om3 (fun B20 hle20 hr20=>?_))))
 replace hbm:=hbm.mono hle20
 have hr20n:=hr20.len
 refine Za (xM (h:=xA (h:=tL5 (Zd ?_))))
 exact eN [0] rfl t1 ⟨_,_,_,_,rfl,hr20,by first | omega | (simp;done) | (simp;omega),oz,rfl⟩
 try simp only [sQ,ne_eq] at g4
 refine Za (ZE (h:=xA (h:=Zb rfl (fun g5=>?_) (fun g5=>?_))))
 try simp only [sQ,ne_eq] at g5
 refine Zc (xM (h:=Zn (ZeK rfl rfl Tryz.underlying62 sz9 rfl (a:=0) (b:=0) rfl ⟨_,_,rfl,rfl⟩ oz oz ?_)))
 refine xA (h:=ZA (Zj (Za (xM (h:=xA (h:=Zd ?_))))))
 exact eN [0] rfl t1 ⟨_,_,[],_,rfl,SlK.nil,Nat.zero_le _,oz,rfl⟩
 try simp only [sQ,ne_eq] at g5
 refine Za (ZE (h:=xA (h:=Zb rfl (fun g6=>?_) (fun g6=>?_))))
 try simp only [sQ,ne_eq] at g6
 refine Zc (xM (h:=xBs [(0,_),(1,_)] [_,_] Tryz.underlying62 sz9 zo9 (h:=fun b21=>Zn (Zn8 (rows:=(([[100,97,110],[101,118,101]]:List Str)).map fun x=>[str x]) (ys:=([[100,97,110],[101,118,101]]:List Str)) (R:=Zbv) 1 rfl hv14 rfl rfl rfl ZoI Zoc rfl rfl rfl (ZaQ.box 4 rfl) rfl ZvZ (ZvF (by decide)) om (fun l22 p22 c22 hv22=>?_)))))
 refine xA (h:=ZA (Zj (Zd0 1 rfl hv22 Zbv.mono om3 (fun B23 hle23 hr23=>?_))))
 replace hbm:=hbm.mono hle23
 have hr23n:=hr23.len
 refine Za (xM (h:=xA (h:=tL5 (Zd ?_))))
 exact eN [0] rfl t1 ⟨_,_,_,_,rfl,hr23,by first | omega | (simp;done) | (simp;omega),oz,rfl⟩
 try simp only [sQ,ne_eq] at g6
 refine ZL (ZA (Zj (Zd0 1 rfl hv14 Zbv.mono om3 (fun B24 hle24 hr24=>?_))))
 replace hbm:=hbm.mono hle24
 have hr24n:=hr24.len
 refine Za (xM (h:=xA (h:=tL4 (Zd ?_))))
 exact eN [0] rfl t1 ⟨_,_,_,_,rfl,hr24,by first | omega | (simp;done) | (simp;omega),oz,rfl⟩
 try simp only [sQ,ne_eq] at g3
 refine wSk (Zg (Za (xM (h:=xX 0 rfl Za7 rfl (ZK _ _ _ _ _ _ oz oz oz hm _ hbm) (h:=?_)))))
 rintro _ _ ⟨r25,rfl,r25a,r25b,rfl⟩
 refine tL3 (Zl (Za (ZE (h:=xA (h:=Zb rfl (fun g4=>?_) (fun g4=>?_))))))
 try simp only [sQ,ne_eq] at g4
 refine Zc (xM (h:=xM (h:=?_)))
 obtain ⟨w,hw⟩:=Zag (xs:=x.xs) (i:=0) om
 obtain ⟨bb27,_,hp27,⟨rfl,hb27⟩,hw27,hc27⟩:=hv.row hw
 refine xIp hp27 Tryz.underlying62 sz9 (h:=Zn (Zf rfl rfl lk9 rfl (hc27 _ 1 rfl 0 _ rfl) (xBs [(0,_)] [_] Tryz.underlying62 sz9 zo9 (h:=fun b28=>Zn (Zbg (z:=w) (R:=Zbv) 1 rfl hv rfl rfl rfl ZoI Zoc rfl rfl (ZaQ.box 3 rfl) rfl rfl (⟨rfl,by first | assumption | omega | (simp;done) | (simp;omega)⟩) om (fun l29 p29 c29 hv29=>?_))))))
 refine xA (h:=ZA (Zj (Zd0 1 rfl hv29 Zbv.mono om3 (fun B30 hle30 hr30=>?_))))
 have hr30n:=hr30.len
 refine Za (xM (h:=xA (h:=tL4 (Zd ?_))))
 exact eN [0] rfl t1 ⟨_,_,_,_,rfl,hr30,by first | omega | (simp;done) | (simp;omega),oz,rfl⟩
 try simp only [sQ,ne_eq] at g4
 refine Za (ZE (h:=xA (h:=Zb rfl (fun g5=>?_) (fun g5=>?_))))
 try simp only [sQ,ne_eq] at g5
 refine Zc (xM (h:=Zn (ZeK rfl rfl Tryz.underlying62 sz9 rfl (a:=0) (b:=0) rfl ⟨_,_,rfl,rfl⟩ oz oz ?_)))
 refine xA (h:=ZA (Zj (Za (xM (h:=xA (h:=Zd ?_))))))
 exact eN [0] rfl t1 ⟨_,_,[],_,rfl,SlK.nil,Nat.zero_le _,oz,rfl⟩
 try simp only [sQ,ne_eq] at g5
 refine Za (ZE (h:=xA (h:=Zb rfl (fun g6=>?_) (fun g6=>?_))))
 try simp only [sQ,ne_eq] at g6
 refine Zc (xM (h:=xBs [(0,_),(1,_)] [_,_] Tryz.underlying62 sz9 zo9 (h:=fun b31=>Zn (Zn8 (rows:=(([[100,97,110],[101,118,101]]:List Str)).map fun x=>[str x]) (ys:=([[100,97,110],[101,118,101]]:List Str)) (R:=Zbv) 1 rfl hv rfl rfl rfl ZoI Zoc rfl rfl rfl (ZaQ.box 3 rfl) rfl ZvZ (ZvF (by decide)) om (fun l32 p32 c32 hv32=>?_)))))
 refine xA (h:=ZA (Zj (Zd0 1 rfl hv32 Zbv.mono om3 (fun B33 hle33 hr33=>?_))))
 have hr33n:=hr33.len
 refine Za (xM (h:=xA (h:=tL4 (Zd ?_))))
 exact eN [0] rfl t1 ⟨_,_,_,_,rfl,hr33,by first | omega | (simp;done) | (simp;omega),oz,rfl⟩
 try simp only [sQ,ne_eq] at g6
 refine ZL (ZA (Zj (Zd0 1 rfl hv Zbv.mono om3 (fun B34 hle34 hr34=>?_))))
 have hr34n:=hr34.len
 refine Za (xM (h:=xA (h:=tL3 (Zd ?_))))
 exact eN [0] rfl t1 ⟨_,_,_,_,rfl,hr34,by first | omega | (simp;done) | (simp;omega),oz,rfl⟩

theorem ZaE (aq:Option Addr) (cq:Nat) (q:DQueue) (B:Kn) (hq:SlK B aq cq 4 Zw q.items):Zv (pj J) 82 [.agg #[.int .i64 q.next,.slice aq q.items.length cq]] B [] (fun v B' Ls=>∃l a cp,Ls=[l]∧v = .agg #[.int .i64 q.next,.slice a q.items.length cp]∧ZY (B'.less B) l a cp 64 4 Zw q.items):=by
 refine cB 34 Tryz.func82 (h:=?_)
 have hqn:=hq.len
 refine Za (xBx [_,_] (h:=fun b1=>xAl [_,_] ZfL (h:=fun b2=>tL2 (Za (xW Zdk (h:=x1 lk3 0 (h:=xBs [] [] Tryz.underlying25 Zdf Zgw (h:=fun b3=>xB [(0,_),(1,_)] [_,_] [_,_] ZsP ZfL (h:=xAl [_,_] ZfL (h:=fun b4=>xS [_,_] 3 [_,_] Zdg (h:=tL4 (Zg (Za (xA (h:=Zl (ZO (α:=Gh DItem) [0,1,2,3] (fun g=>[(4,.int .i64 g.k)]) [2,3] (fun g=>[g.l,Zah b4 [.int .i64 q.next,.slice g.a g.xs.length g.c] 27]) (fun g Bx=>g.k≤q.items.length∧g.xs=q.items.take g.k∧ZY (Bx.less B) g.l g.a g.c 64 4 Zw g.xs) (fun g=>q.items.length - g.k) ⟨0,0,_,_,_,[]⟩ t1 rfl (⟨Nat.zero_le _,rfl,.lit0⟩) (fun g B5 hle5 hI=>?_)))))))))))))))))
 obtain ⟨hk,hxs,hv⟩:=hI
 have hxn:=congrArg List.length hxs
 rw [List.length_take] at hxn
 replace hq:=up1 hle5 hq
 refine ZM [(0,_),(1,_),(2,_),(3,_),(4,_)] [_,_,_,_] t5 rfl (Zg (Za (xM (h:=xW Zan (h:=x1 Zej 0 (h:=xV Tryz.underlying25 (h:=Zaf (h:=Zb rfl (fun g1=>?_) (fun g1=>?_)))))))))
 try simp only [sQ,ne_eq] at g1
 refine wSk (Zg (Zl (Za (xW Zan (h:=x1 Zej 0 (h:=xM (h:=?_)))))))
 obtain ⟨x,hx⟩:=Zag (xs:=q.items) (i:=g.k) om
 obtain ⟨bb7,oo7,rfl⟩:=hq.base hx
 obtain ⟨_,⟨qi8,ci8,rfl,hi8,hb8,hb8b⟩,hc8⟩:=hq.elem hx
 have hi8n:=hi8.len
 refine xIx Tryz.underlying25 Zdf (h:=yL [_,_,_,_] Zh4 hc8 0 (h:=xAl [_,_,_,_] Zgw (h:=fun b9=>xS [_,_,_,_] 4 [_,_,_,_] Zdf (h:=tL5 (Za (xBs [] [] Tryz.underlying62 sz9 zo9 (h:=fun b10=>xW ZaO (h:=x1 Ze9 4 (h:=Zn (ZaY (R:=Zbv) 5 rfl (ZY.lit0 (R:=Zbv)) rfl rfl rfl ZoI Zoc rfl rfl rfl hi8.rows Zbv.one rfl om (fun l11 p11 c11 hv11=>?_)))))))))))
 refine xW ZaO (h:=xS [_] 4 [_,_,_,_] Zux (h:=tL6 (Zqc 5 rfl hv11 Zbv.any om3 hle5 (fun B12 hle12 hr12f=>?_))))
 have hr12:=hr12f.mono Zbv.mono Kn.less_le
 replace hv:=hv.mono Zw.mono (Kn.less_mono hle12)
 have hr12n:=hr12.len
 refine Zc (xW Zan (h:=x1 Zej 3 (h:=xL [_,_,_,_] Zh4 4 (h:=xBs [(0,_)] [_,_,_,_] Tryz.underlying25 Zdf Zgw (h:=fun b13=>Zn (Zbg (z:=⟨x.id,x.fr,x.text,x.left⟩) (R:=Zw) 2 rfl hv rfl rfl rfl ZvP ZvM rfl rfl (ZaQ.box 6 rfl) rfl rfl (⟨_,_,rfl,hr12f,by first | assumption | omega | (simp;done) | (simp;omega),by first | assumption | omega | (simp;done) | (simp;omega)⟩) om (fun l14 p14 c14 hv14=>?_)))))))
 refine xW Zan (h:=xS [_] 3 [_,_] ZvL (h:=ZA (Zj (Zc (xM (h:=xD (h:=xA (h:=?_))))))))
 exact ZD ⟨g.k+1,0,l14,p14,c14,(g.xs ++ [⟨x.id,x.fr,x.text,x.left⟩])⟩ [0,1,2,3] so2 ⟨so,by simp only [];rw [Zay hx,hxs],hv14⟩ t5 rfl
 try simp only [sQ,ne_eq] at g1
 have hxe:g.xs=q.items:=by rw [hxs];exact List.take_of_length_le oz
 refine ZS (Zae (ZX (ZI (Zj (Za (xL [_,_] Zb4 3 (h:=xS [_,_] 1 [_,_] Zdg (h:=tL4 (Zd ?_)))))))))
 exact Zas .ret (.inl rfl) [_] [2] rfl ⟨⟨_,rfl,.inr ⟨[_,_],Zb4,Z9 1 rfl rfl rfl,rfl⟩⟩,trivial⟩ ⟨_,_,_,rfl,by rw [← hxe];rfl,hxe ▸ hv⟩

theorem ZgH (aq:Option Addr) (cq:Nat) (q:DQueue) (qx:Option Addr) (cx:Nat) (x:DLetter) (B:Kn) (hq:SlK B aq cq 4 Zw q.items) (hx:SlK B qx cx 1 Zbv x.to_) (h1:x.fr.length≤2000000) (h2:x.text.length≤2000000):Zv (pj J) 152 [.agg #[.int .i64 q.next,.slice aq q.items.length cq],.agg #[str x.fr,.slice qx x.to_.length cx,str x.text]] B [] (fun v B' Ls=>(∃l a cp,Ls=[l]∧v = .tuple #[.agg #[.int .i64 (Zip q x).1.next,.slice a (Zip q x).1.items.length cp],.bool (Zip q x).2]∧ZY (B'.less B) l a cp 64 4 Zw (Zip q x).1.items)):=by
 refine cB 49 Tryz.func152 (h:=?_)
 have hqn:=hq.len
 have hxn:=hx.len
 refine Za (xBx [_,_] (h:=fun b1=>xBx [_,_,_] (h:=fun b2=>xAl [_,_] ZfL (h:=fun b3=>xA (h:=tL3 (Zg (Za (xL [_,_] Zb4 0 (h:=xR ZxX rfl (Zf9 _ _ q _ hq) (h:=xN (h:=xM (h:=Zo (d:=10) rfl (fun g1=>?_) (fun g1=>?_)))))))))))))
 try simp only [sQ,ne_eq] at g1
 refine xP (h:=xP (h:=xP (h:=xT (h:=Zb (t:=true) rfl (fun _=>Za (xB [] [_,_] [_,_] ZsP ZfL (h:=xS [_,_] 2 [_,_] Zdg (h:=xA (h:=tL3 (Zd (Zp ?_))))))) (fun h=>Bool.noConfusion h)))))
 have he:=Zsb (x:=x) g1
 exact Zt8 .ret (.inl rfl) [_,_] ⟨⟨_,rfl,.inr ⟨[_,_],Zb4,Z9 2 rfl rfl rfl,rfl⟩⟩,rfl,trivial⟩ ⟨_,none,0,rfl,by rw [he];rfl,by rw [he];exact ZY.nil⟩
 try simp only [sQ,ne_eq] at g1
 refine xL [_,_,_] Znw 1 (h:=xR Zvy rfl (Zfd _ _ x _ hx oa oa) (h:=?_))
 refine xN (h:=xF (h:=Zb rfl (fun g2=>?_) (fun g2=>?_)))
 try simp only [sQ,ne_eq] at g2
 refine Za (xB [] [_,_] [_,_] ZsP ZfL (h:=xS [_,_] 2 [_,_] Zdg (h:=xA (h:=tL3 (Zd (Zp ?_))))))
 have he:=Zsa (q:=q) g2
 exact Zt8 .ret (.inl rfl) [_,_] ⟨⟨_,rfl,.inr ⟨[_,_],Zb4,Z9 2 rfl rfl rfl,rfl⟩⟩,rfl,trivial⟩ ⟨_,none,0,rfl,by rw [he];rfl,by rw [he];exact ZY.nil⟩
 try simp only [sQ,ne_eq] at g2
 have hqb:=Zcy g1
 refine wSk (Za (xL [_,_] Zb4 0 (h:=xC ZkK rfl (ZaE _ _ q _ hq) (h:=?_))))
 rintro _ Bk _ hlek ⟨lk,ak,ck,rfl,rfl,hvk⟩
 replace hx:=up1 hlek hx
 replace hvk:=hvk.mono Zw.mono (Kn.less_up (Kn.le.refl _) (Kn.le.refl _))
 refine xAl [_,_] ZfL (h:=fun b7=>xS [_,_] 4 [_,_] Zdg (h:=tL5 (Zg (Za (xW Zan (h:=x1 Zej 0 (h:=xV Tryz.underlying25 (h:=Zeo (h:=xM (h:=Zo (d:=22) rfl (fun g3=>?_) (fun g3=>?_)))))))))))
 try simp only [sQ,ne_eq] at g3
 refine xP (h:=xP (h:=xP (h:=xT (h:=Zb (t:=true) rfl (fun _=>Za (xL [_,_] Zb4 4 (h:=xS [_,_] 2 [_,_] Zdg (h:=xA (h:=tL5 (Zd (Zp ?_))))))) (fun h=>Bool.noConfusion h)))))
 have he:=ZmZ g1 g2 (.inl oz)
 exact Zas .ret (.inl rfl) [_,_] [3] rfl ⟨⟨_,rfl,.inr ⟨[_,_],Zb4,Z9 2 rfl rfl rfl,rfl⟩⟩,rfl,trivial⟩ ⟨_,_,_,rfl,by rw [he];rfl,by rw [he];exact hvk⟩
 try simp only [sQ,ne_eq] at g3
 refine xW Zdk (h:=x1 lk3 0 (h:=Zbp (h:=xF (h:=Zb rfl (fun g4=>?_) (fun g4=>?_)))))
 try simp only [sQ,ne_eq] at g4
 refine Za (xL [_,_] Zb4 4 (h:=xS [_,_] 2 [_,_] Zdg (h:=xA (h:=tL5 (Zd (Zp ?_))))))
 have he:=ZmZ g1 g2 (.inr oz)
 exact Zas .ret (.inl rfl) [_,_] [3] rfl ⟨⟨_,rfl,.inr ⟨[_,_],Zb4,Z9 2 rfl rfl rfl,rfl⟩⟩,rfl,trivial⟩ ⟨_,_,_,rfl,by rw [he];rfl,by rw [he];exact hvk⟩
 try simp only [sQ,ne_eq] at g4
 refine wSk (Zg (Z0 (keeps _ [0,1,4] _) mo kr ⟨Kn.le.refl _,Zad.refl _ _⟩ (fun _ _=>?_)))
 refine aW 0 rfl Zan (h:=aT 1 rfl (ZB fun D B L hI=>Zf rfl rfl Zej rfl (atL 4 (hI.2.2.2.1.trans rfl) rfl rfl) r4) (h:=aW 2 rfl Zdk (h:=aT 3 rfl (ZB fun D B L hI=>Zf rfl rfl lk3 rfl (atL 0 (hI.2.1.trans rfl) rfl rfl) r4) (h:=aW 4 rfl Zjz (h:=aT 5 rfl (ZB fun D B L hI=>Zf rfl rfl lk9 rfl (atL 1 (hI.2.2.1.trans rfl) rfl rfl) r4) (h:=aW 6 rfl ZnN (h:=aT 7 rfl (ZB fun D B L hI=>Zf rfl rfl lk9 rfl (atL 1 (hI.2.2.1.trans rfl) rfl rfl) r4) (h:=aW 9 rfl Zjy (h:=aT 10 rfl (ZB fun D B L hI=>Zf rfl rfl Ze9 rfl (atL 1 (hI.2.2.1.trans rfl) rfl rfl) r4) (h:=Zq 8 kr rfl kr (Zu (parts:=[]) [] rfl rfl Tryz.underlying62 sz9 zo9 rfl rfl rfl rfl rfl (fun b8=>?_))))))))))))
 refine ⟨⟨Kn.le.refl _,t3⟩,(Zq 11 kr rfl kr (ZaY (R:=Zbv) 5 rfl (ZY.lit0 (R:=Zbv)) rfl rfl rfl ZoI Zoc rfl rfl rfl hx.rows Zbv.one rfl om (fun l9 p9 c9 hv9=>?_)))⟩
 refine ⟨⟨Kn.le.refl _,t3⟩,(Zw7 5 rfl hv9 Zbv.any om3 hlek (fun B' hle'=>⟨hle',t3⟩) (fun B10 hle10 hr10f=>?_))⟩
 have hr10:=hr10f.mono Zbv.mono Kn.less_le
 replace hvk:=hvk.mono Zw.mono (Kn.less_mono hle10)
 have hr10n:=hr10.len
 refine aT 12 rfl (ZB fun D B L hI=>ZaG (parts:=[(0,_),(1,_),(2,_),(3,_)]) [_,_,_,_] [_,_,_,_] rfl rfl Zzm Zgw rfl rfl rfl r4) (h:=Zq 13 kr rfl kr (Zu (parts:=[(0,_)]) [_,_,_,_] rfl rfl Tryz.underlying25 Zdf Zgw rfl rfl rfl rfl rfl (fun b11=>?_)))
 refine ⟨⟨hle10,t3⟩,(Zq 14 kr rfl kr (Zbg (z:=⟨q.next,x.fr,x.text,x.to_⟩) (R:=Zw) 3 rfl hvk rfl rfl rfl ZvP ZvM rfl rfl (ZaQ.box 6 rfl) rfl rfl (⟨_,_,rfl,hr10f,by first | assumption | omega | (simp;done) | (simp;omega),by first | assumption | omega | (simp;done) | (simp;omega)⟩) om (fun l12 p12 c12 hv12=>?_)))⟩
 refine ⟨⟨hle10,t3⟩,(aW 15 rfl Zan (h:=ZU 16 kr rfl kr kr kr (ZF [_] 4 [_,_] rfl rfl ZvL rfl rfl rfl rfl rfl rfl rfl rfl ?_)))⟩
 refine Zj (tL7 (Za (xW Zdk (h:=x1 lk3 0 (h:=xD (h:=xW Zdk (h:=xS [_] 4 [_,_] sz3 (h:=tL7 (Za (xL [_,_] Zb4 4 (h:=xS [_,_] 2 [_,_] Zdg (h:=xA (h:=tL7 (Zd ?_))))))))))))))
 have he:=ZvG g1 g2 oz oz
 exact Zas .ret (.inl rfl) [_,_] [3] rfl ⟨⟨_,rfl,.inr ⟨[_,_],Zb4,Z9 2 rfl rfl rfl,rfl⟩⟩,rfl,trivial⟩ ⟨_,_,_,rfl,by rw [he];rfl,by rw [he];exact hv12⟩

theorem Zmo (q:Option Addr) (cp:Nat) (xs:List Str) (u:Str) (B:Kn) (ha:SlK B q cp 1 Zbv xs):Zv (pj J) 81 [.slice q xs.length cp,str u] B [] (fun v B' Ls=>Ls=[]∧∃a cp,v = .slice a (without xs u).length cp∧SlK (B'.less B) a cp 1 Zbv (without xs u)):=by
 refine cB 28 Tryz.func81 (h:=?_)
 have han:=ha.len
 refine Za (xA (h:=Za (xBs [] [] Tryz.underlying62 sz9 zo9 (h:=fun b1=>xA (h:=tL1 (Zg (Za (xA (h:=Zl (ZO (α:=Gh Str) [0,1,4] (fun g=>[(5,.slice g.a g.xs.length g.c),(6,.int .i64 g.k)]) [0] (fun g=>[g.l]) (fun g Bx=>Bx=B∧g.k≤xs.length∧g.xs=without (xs.take g.k) u∧g.xs.length≤g.k∧ZY Bx g.l g.a g.c 9 1 Zbv g.xs) (fun g=>xs.length - g.k) ⟨0,0,_,_,_,[]⟩ t2 rfl (⟨rfl,Nat.zero_le _,rfl,Nat.le_refl _,.lit0⟩) (fun g B2 hle2 hI=>?_)))))))))))
 obtain ⟨rfl,hk,hxs,hgl,hv⟩:=hI
 refine ZM [(0,_),(1,_),(4,_),(5,_),(6,_)] [_] t5 rfl (Zg (Za (xM (h:=xM (h:=xV Tryz.underlying62 (h:=Zaf (h:=Zb rfl (fun g1=>?_) (fun g1=>?_))))))))
 try simp only [sQ,ne_eq] at g1
 refine wSk (Zg (Zl (Za (xM (h:=xM (h:=?_))))))
 obtain ⟨x,hx⟩:=Zag (xs:=xs) (i:=g.k) om
 obtain ⟨bb4,oo4,rfl⟩:=ha.base hx
 obtain ⟨_,⟨rfl,hb5⟩,hc5⟩:=ha.elem hx
 refine xIx Tryz.underlying62 sz9 (h:=y1 lk9 hc5 0 (h:=xM (h:=ZhE (h:=Zb rfl (fun g2=>?_) (fun g2=>?_)))))
 try simp only [sQ,ne_eq] at g2
 refine Zc (xM (h:=xM (h:=xM (h:=xIx Tryz.underlying62 sz9 (h:=y1 lk9 hc5 0 (h:=xBs [(0,_)] [_] Tryz.underlying62 sz9 zo9 (h:=fun b6=>Zn (Zbg (z:=x) (R:=Zbv) 0 rfl hv rfl rfl rfl ZoI Zoc rfl rfl (ZaQ.box 1 rfl) rfl rfl (⟨rfl,by first | assumption | omega | (simp;done) | (simp;omega)⟩) om (fun l7 p7 c7 hv7=>?_)))))))))
 refine xA (h:=ZA (Zj (Zc (xM (h:=xD (h:=xA (h:=?_)))))))
 exact ZD ⟨g.k+1,0,l7,p7,c7,(g.xs ++ [x])⟩ [0] so2 ⟨rfl,so,by simp only [];rw [ZlE hx g2,hxs],by simp;omega,hv7⟩ t5 rfl
 try simp only [sQ,ne_eq] at g2
 refine ZL (ZA (Zj (Zc (xM (h:=xD (h:=xA (h:=?_)))))))
 exact ZD ⟨g.k+1,0,g.l,g.a,g.c,g.xs⟩ [0] so2 ⟨rfl,so,by simp only [];rw [ZlD hx g2,hxs],so,hv⟩ t5 rfl
 try simp only [sQ,ne_eq] at g1
 have hxe:g.xs=without xs u:=by rw [hxs,List.take_of_length_le oz]
 refine ZS (Zae (ZX (ZI (Zj (Zqc 0 rfl hv Zbv.any om3 (Kn.le.refl _) (fun B8 hle8 hr8f=>?_))))))
 have hr8:=hr8f.mono Zbv.mono Kn.less_le
 have hr8n:=hr8.len
 refine Za (xM (h:=xA (h:=tL1 (Zd ?_))))
 exact Zas .ret (.inl rfl) [_] [] rfl ⟨rfl,trivial⟩ ⟨rfl,_,_,by rw [← hxe];rfl,hxe ▸ hr8f⟩

theorem Zmp (aq:Option Addr) (cq:Nat) (q:DQueue) (id:Int) (u:Str) (B:Kn) (hq:SlK B aq cq 4 Zw q.items):Zv (pj J) 31 [.agg #[.int .i64 q.next,.slice aq q.items.length cq],.int .i64 id,str u] B [] (fun v B' Ls=>(∃l a cp,Ls=[l]∧v = .tuple #[.agg #[.int .i64 (Zba q id u).1.next,.slice a (Zba q id u).1.items.length cp],str (Zba q id u).2.1,.bool (Zba q id u).2.2]∧ZY (B'.less B) l a cp 64 4 Zw (Zba q id u).1.items∧(Zba q id u).2.1.length≤2000000)):=by
 refine cB 65 Tryz.func31 (h:=?_)
 have hqn:=hq.len
 refine Za (xBx [_,_] (h:=fun b1=>xAl [_,_] ZfL (h:=fun b2=>xA (h:=xA (h:=tL2 (Za (xW Zdk (h:=x1 lk3 0 (h:=xBs [] [] Tryz.underlying25 Zdf Zgw (h:=fun b3=>xB [(0,_),(1,_)] [_,_] [_,_] ZsP ZfL (h:=xAl [_,_] ZfL (h:=fun b4=>xS [_,_] 3 [_,_] Zdg (h:=tL4 (Za (xA (h:=Za (xA (h:=Zg (Za (xA (h:=Zl (ZO (α:=Gh2 DItem (Str × Bool)) [0,1,2,3,6,7,8,9] (fun g=>[(10,str g.e.1),(11,.bool g.e.2),(12,.int .i64 g.k)]) [2,3] (fun g=>[g.l,Zah b4 [.int .i64 q.next,.slice g.a g.xs.length g.c] 27]) (fun g Bx=>g.k≤q.items.length∧g.e=Zf7 id u (q.items.take g.k)∧g.e.1.length≤2000000∧g.xs=Ze7 id u (q.items.take g.k)∧ZY (Bx.less B) g.l g.a g.c 64 4 Zw g.xs) (fun g=>q.items.length - g.k) ⟨0,0,_,_,_,[],([],false)⟩ t3 rfl (⟨Nat.zero_le _,rfl,Nat.zero_le _,rfl,.lit0⟩) (fun g B5 hle5 hI=>?_)))))))))))))))))))))))
 obtain ⟨hk,he,htl,hxs,hv⟩:=hI
 have hxn:g.xs.length≤g.k:=by rw [hxs];exact Nat.le_trans (ZiE _ _ _) (by rw [List.length_take];omega)
 replace hq:=up1 hle5 hq
 refine ZM [(0,_),(1,_),(2,_),(3,_),(6,_),(7,_),(8,_),(9,_),(10,_),(11,_),(12,_)] [_,_,_,_] t11 rfl (Zg (Za (xM (h:=xW Zan (h:=x1 Zej 0 (h:=xV Tryz.underlying25 (h:=Zaf (h:=Zb rfl (fun g1=>?_) (fun g1=>?_)))))))))
 try simp only [sQ,ne_eq] at g1
 refine wSk (Zg (Zl (Za (xW Zan (h:=x1 Zej 0 (h:=xM (h:=?_)))))))
 obtain ⟨x,hx⟩:=Zag (xs:=q.items) (i:=g.k) om
 obtain ⟨bb7,oo7,rfl⟩:=hq.base hx
 obtain ⟨_,⟨qi8,ci8,rfl,hi8,hb8,hb8b⟩,hc8⟩:=hq.elem hx
 have hi8n:=hi8.len
 refine xIx Tryz.underlying25 Zdf (h:=yL [_,_,_,_] Zh4 hc8 0 (h:=xAl [_,_,_,_] Zgw (h:=fun b9=>xS [_,_,_,_] 4 [_,_,_,_] Zdf (h:=tL5 (Za (xBs [] [] Tryz.underlying62 sz9 zo9 (h:=fun b10=>xW ZaO (h:=x1 Ze9 4 (h:=Zn (ZaY (R:=Zbv) 5 rfl (ZY.lit0 (R:=Zbv)) rfl rfl rfl ZoI Zoc rfl rfl rfl hi8.rows Zbv.one rfl om (fun l11 p11 c11 hv11=>?_)))))))))))
 refine xW ZaO (h:=xS [_] 4 [_,_,_,_] Zux (h:=tL6 (Zg (Zqc 5 rfl hv11 Zbv.any om3 hle5 (fun B12 hle12 hr12f=>?_)))))
 have hr12:=hr12f.mono Zbv.mono Kn.less_le
 replace hv:=hv.mono Zw.mono (Kn.less_mono hle12)
 have hr12n:=hr12.len
 refine Za (xW Zdi (h:=x1 lk3 4 (h:=xM (h:=ZE (h:=xM (h:=Zo (d:=39) rfl (fun g2=>?_) (fun g2=>?_)))))))
 try simp only [sQ,ne_eq] at g2
 refine xW ZaO (h:=x1 Ze9 4 (h:=xM (h:=xR Zy0 rfl (Zoy _ _ _ _ _ hr12) (h:=xT (h:=tL6 (Zb rfl (fun g3=>?_) (fun g3=>?_)))))))
 try simp only [sQ,ne_eq] at g3
 have hwl:=Zit x.left u
 refine Za (xA (h:=Za (xW ZkF (h:=x1 lk9 4 (h:=xA (h:=Zc (xW ZaO (h:=x1 Ze9 4 (h:=xM (h:=xQ ZzC rfl (Zmo _ _ _ _ _ hr12) (h:=?_)))))))))))
 intro v14 B14 hle14
 rintro ⟨a14,c14,rfl,hw14f⟩
 replace hr12f:=hr12f.mono Zbv.mono (Kn.less_mono hle14)
 replace hv:=hv.mono Zw.mono (Kn.less_mono hle14)
 replace hw14f:=hw14f.mono Zbv.mono (Kn.less_up (hle5.trans hle12) (Kn.le.refl _))
 have hw14:=hw14f.mono Zbv.mono Kn.less_le
 refine xW ZaO (h:=xS [_] 4 [_,_,_,_] Zux (h:=Zj (Za (xW ZaO (h:=x1 Ze9 4 (h:=xV Tryz.underlying62 (h:=Zbp (h:=tL6 (Zb rfl (fun g4=>?_) (fun g4=>?_))))))))))
 try simp only [sQ,ne_eq] at g4
 refine Zc (xW Zan (h:=x1 Zej 3 (h:=xL [_,_,_,_] Zh4 4 (h:=xBs [(0,_)] [_,_,_,_] Tryz.underlying25 Zdf Zgw (h:=fun b15=>Zn (Zbg (z:=⟨x.id,x.fr,x.text,(without x.left u)⟩) (R:=Zw) 2 rfl hv rfl rfl rfl ZvP ZvM rfl rfl (ZaQ.box 6 rfl) rfl rfl (⟨_,_,rfl,hw14f,by first | assumption | omega | (simp;done) | (simp;omega),by first | assumption | omega | (simp;done) | (simp;omega)⟩) om (fun l16 p16 c16 hv16=>?_)))))))
 refine xW Zan (h:=xS [_] 3 [_,_] ZvL (h:=ZA (Zj (Zc (xM (h:=xD (h:=xA (h:=?_))))))))
 exact ZD ⟨g.k+1,0,l16,p16,c16,(g.xs ++ [⟨x.id,x.fr,x.text,(without x.left u)⟩]),(x.text,true)⟩ [0,1,2,3] so2 ⟨so,by simp only [];rw [ZlX hx g2 g3],by simp only [];first | assumption | omega,by simp only [];rw [hxs,ZiF hx (Zfb g2 g3) (by simpa using g4)],hv16⟩ t11 rfl
 try simp only [sQ,ne_eq] at g4
 refine ZL (ZA (Zj (Zc (xM (h:=xD (h:=xA (h:=?_)))))))
 exact ZD ⟨g.k+1,0,g.l,g.a,g.c,g.xs,(x.text,true)⟩ [0,1,2,3] so2 ⟨so,by simp only [];rw [ZlX hx g2 g3],by simp only [];first | assumption | omega,by simp only [];rw [hxs,Zhd hx (Zfb g2 g3) (by simpa using g4)],hv⟩ t11 rfl
 try simp only [sQ,ne_eq] at g3
 refine wSk (Za (xW ZaO (h:=x1 Ze9 4 (h:=xV Tryz.underlying62 (h:=Zbp (h:=Zb rfl (fun g4=>?_) (fun g4=>?_)))))))
 try simp only [sQ,ne_eq] at g4
 refine Zc (xW Zan (h:=x1 Zej 3 (h:=xL [_,_,_,_] Zh4 4 (h:=xBs [(0,_)] [_,_,_,_] Tryz.underlying25 Zdf Zgw (h:=fun b17=>Zn (Zbg (z:=⟨x.id,x.fr,x.text,x.left⟩) (R:=Zw) 2 rfl hv rfl rfl rfl ZvP ZvM rfl rfl (ZaQ.box 6 rfl) rfl rfl (⟨_,_,rfl,hr12f,by first | assumption | omega | (simp;done) | (simp;omega),by first | assumption | omega | (simp;done) | (simp;omega)⟩) om (fun l18 p18 c18 hv18=>?_)))))))
 refine xW Zan (h:=xS [_] 3 [_,_] ZvL (h:=ZA (Zj (Zc (xM (h:=xD (h:=xA (h:=?_))))))))
 exact ZD ⟨g.k+1,0,l18,p18,c18,(g.xs ++ [⟨x.id,x.fr,x.text,x.left⟩]),g.e⟩ [0,1,2,3] so2 ⟨so,by simp only [];rw [ZlV hx g3];exact he,by simp only [];first | assumption | omega,by simp only [];rw [hxs,ZiF hx (ZhL g3) (by simpa using g4)],hv18⟩ t11 rfl
 try simp only [sQ,ne_eq] at g4
 refine ZL (ZA (Zj (Zc (xM (h:=xD (h:=xA (h:=?_)))))))
 exact ZD ⟨g.k+1,0,g.l,g.a,g.c,g.xs,g.e⟩ [0,1,2,3] so2 ⟨so,by simp only [];rw [ZlV hx g3];exact he,by simp only [];first | assumption | omega,by simp only [];rw [hxs,Zhd hx (ZhL g3) (by simpa using g4)],hv⟩ t11 rfl
 try simp only [sQ,ne_eq] at g2
 refine xP (h:=xP (h:=xP (h:=xP (h:=xF (h:=tL6 (Zb (t:=false) rfl (fun h=>Bool.noConfusion h) (fun _=>wSk (Za (xW ZaO (h:=x1 Ze9 4 (h:=xV Tryz.underlying62 (h:=Zbp (h:=Zb rfl (fun g3=>?_) (fun g3=>?_))))))))))))))
 try simp only [sQ,ne_eq] at g3
 refine Zc (xW Zan (h:=x1 Zej 3 (h:=xL [_,_,_,_] Zh4 4 (h:=xBs [(0,_)] [_,_,_,_] Tryz.underlying25 Zdf Zgw (h:=fun b19=>Zn (Zbg (z:=⟨x.id,x.fr,x.text,x.left⟩) (R:=Zw) 2 rfl hv rfl rfl rfl ZvP ZvM rfl rfl (ZaQ.box 6 rfl) rfl rfl (⟨_,_,rfl,hr12f,by first | assumption | omega | (simp;done) | (simp;omega),by first | assumption | omega | (simp;done) | (simp;omega)⟩) om (fun l20 p20 c20 hv20=>?_)))))))
 refine xW Zan (h:=xS [_] 3 [_,_] ZvL (h:=ZA (Zj (Zc (xM (h:=xD (h:=xA (h:=?_))))))))
 exact ZD ⟨g.k+1,0,l20,p20,c20,(g.xs ++ [⟨x.id,x.fr,x.text,x.left⟩]),g.e⟩ [0,1,2,3] so2 ⟨so,by simp only [];rw [ZlW hx g2];exact he,by simp only [];first | assumption | omega,by simp only [];rw [hxs,ZiF hx (ZhM g2) (by simpa using g3)],hv20⟩ t11 rfl
 try simp only [sQ,ne_eq] at g3
 refine ZL (ZA (Zj (Zc (xM (h:=xD (h:=xA (h:=?_)))))))
 exact ZD ⟨g.k+1,0,g.l,g.a,g.c,g.xs,g.e⟩ [0,1,2,3] so2 ⟨so,by simp only [];rw [ZlW hx g2];exact he,by simp only [];first | assumption | omega,by simp only [];rw [hxs,Zhd hx (ZhM g2) (by simpa using g3)],hv⟩ t11 rfl
 try simp only [sQ,ne_eq] at g1
 have hkl:q.items.take g.k=q.items:=List.take_of_length_le oz
 rw [hkl] at he hxs
 refine ZS (Zae (ZX (ZI (Zj (Za (xL [_,_] Zb4 3 (h:=xM (h:=xM (h:=xS [_,_] 1 [_,_] Zdg (h:=xA (h:=xA (h:=tL4 (Zd ?_)))))))))))))
 exact Zas .ret (.inl rfl) [_,_,_] [2] rfl ⟨⟨_,rfl,.inr ⟨[_,_],Zb4,Z9 1 rfl rfl rfl,rfl⟩⟩,rfl,rfl,trivial⟩ ⟨_,_,_,rfl,by simp only [Zba,← he,← hxs];rfl,by simp only [Zba,← hxs];exact hv,by simp only [Zba,← he];exact htl⟩

theorem Zki (aq:Option Addr) (cq:Nat) (q:DQueue) (id:Int) (u:Str) (B:Kn) (hq:SlK B aq cq 4 Zw q.items):Zv (pj J) 154 [.agg #[.int .i64 q.next,.slice aq q.items.length cq],.int .i64 id,str u] B [] (fun v B' Ls=>(∃l a cp,Ls=[l]∧v = .tuple #[.agg #[.int .i64 (Zac q id u).1.next,.slice a (Zac q id u).1.items.length cp],str (Zac q id u).2.1,.bool (Zac q id u).2.2]∧ZY (B'.less B) l a cp 64 4 Zw (Zac q id u).1.items∧(Zac q id u).2.1.length≤2000000)):=by
 refine cB 20 Tryz.func154 (h:=?_)
 refine Za (xBx [_,_] (h:=fun b1=>xAl [_,_] ZfL (h:=fun b2=>xA (h:=xA (h:=tL2 (Zg (Za (xL [_,_] Zb4 0 (h:=xR ZxX rfl (Zf9 _ _ q _ hq) (h:=xN (h:=Zb rfl (fun g1=>?_) (fun g1=>?_))))))))))))
 try simp only [sQ,ne_eq] at g1
 refine Za (xB [] [_,_] [_,_] ZsP ZfL (h:=xS [_,_] 1 [_,_] Zdg (h:=xA (h:=xA (h:=tL2 (Zd (Zp ?_)))))))
 have he:Zac q id u=(⟨0,[]⟩,[],false):=by simp [Zac,g1]
 exact Zt8 .ret (.inl rfl) [_,_,_] ⟨⟨_,rfl,.inr ⟨[_,_],Zb4,Z9 1 rfl rfl rfl,rfl⟩⟩,rfl,rfl,trivial⟩ ⟨_,none,0,rfl,by rw [he];rfl,by rw [he];exact ZY.nil,by rw [he];exact Nat.zero_le _⟩
 try simp only [sQ,ne_eq] at g1
 refine wSk (Za (xL [_,_] Zb4 0 (h:=xM (h:=xM (h:=xC Zzd rfl (Zmp _ _ q id u _ hq) (h:=?_))))))
 rintro _ Bk _ hlek ⟨lk,ak,ck,rfl,rfl,hvk,htk⟩
 replace hvk:=hvk.mono Zw.mono (Kn.less_up (Kn.le.refl _) (Kn.le.refl _))
 refine xE (h:=xE (h:=xE (h:=xS [_,_] 1 [_,_] Zdg (h:=xA (h:=xA (h:=tL3 (Zd ?_)))))))
 have he:Zac q id u=Zba q id u:=by simp [Zac,g1]
 exact Zas .ret (.inl rfl) [_,_,_] [2] rfl ⟨⟨_,rfl,.inr ⟨[_,_],Zb4,Z9 1 rfl rfl rfl,rfl⟩⟩,rfl,rfl,trivial⟩ ⟨_,_,_,rfl,by rw [he];rfl,by rw [he];exact hvk,by rw [he];exact htk⟩

theorem Zi4 (b:Nat) (q:Option Addr) (m cp p:Nat) (hp:p≤850000000000) (hm:m≤2000) (B:Kn) (hbm:Zap B q m):Zv (pj J) 153 [ptr ⟨b,0,none⟩] B [rd b q m cp p] (fun v B' Ls=>∃(qx:Option Addr) (cx:Nat) (x:DLetter) (p':Nat),v = .agg #[str x.fr,.slice qx x.to_.length cx,str x.text]∧SlK B' qx cx 1 Zbv x.to_∧x.fr.length≤40∧x.text.length≤40∧x.to_.length≤6∧p'≤p+20∧Ls=[rd b q m cp p']):=by
 refine cB 19 Tryz.func153 (h:=?_)
 refine Za (xAl [_,_,_] ZoS (h:=fun b1=>tL2 (Za (xM (h:=xBs [(0,_),(1,_),(2,_)] [_,_,_] Tryz.underlying62 sz9 zo9 (h:=fun b2=>xK [0,2] rfl ZoK rfl (ZqT _ _ _ _ _ _ ([[97,109,121],[98,111,98],[99,121,100]]:List Str) oz (by decide) (by decide) hm _ hbm) (h:=?_)))))))
 rintro _ B3 _ hle3 ⟨rfl,x3,hx3,rfl,rfl⟩
 replace hx3:=(show∀y∈( ([[97,109,121],[98,111,98],[99,121,100]]:List Str):List Str),y.length≤40 from by decide) _ hx3
 refine xM (h:=xK [0] rfl Zyi rfl (ZuS _ _ _ _ _ oz hm _ hbm) (h:=?_))
 rintro _ B4 _ hle4 ⟨q4,cp4,xs4,p4,rfl,ht4,htn4,hp4,rfl⟩
 replace hbm:=hbm.mono hle4
 refine xM (h:=xX 0 rfl ZrQ rfl (Zfn _ _ _ _ _ oz hm _ hbm) (h:=?_))
 rintro _ _ ⟨x5,rfl,hx5,rfl⟩
 refine xB [(0,_),(1,_),(2,_)] [_,_,_] [_,_,_] ZsQ ZoS (h:=xAl [_,_,_] ZoS (h:=fun b6=>xS [_,_,_] 3 [_,_,_] Zuy (h:=tL4 (Zg (Za (xM (h:=xX 0 rfl Za7 rfl (ZK _ _ _ _ _ _ oz oz oz hm _ hbm) (h:=?_))))))))
 rintro _ _ ⟨r7,rfl,r7a,r7b,rfl⟩
 refine ZE (h:=tL4 (Zb rfl (fun g1=>?_) (fun g1=>?_)))
 refine Zc (xM (h:=xX 0 rfl Zvm rfl (ZdN _ _ _ _ _ oz hm _ hbm) (h:=?_)))
 rintro _ _ ⟨x8,rfl,hx8,rfl⟩
 refine xW Zjz (h:=xS [_] 3 [_,_,_] sz9 (h:=Zj (Za (xL [_,_,_] Znw 3 (h:=xS [_,_,_] 1 [_,_,_] Zuy (h:=tL4 (Zd ?_)))))))
 exact eN [0] rfl ⟨⟨_,rfl,.inr ⟨[_,_,_],Znw,Z9 1 rfl rfl rfl,rfl⟩⟩,trivial⟩ ⟨_,_,⟨x8,xs4,x5⟩,_,rfl,ht4,so2,so2,so2,oz,rfl⟩
 refine wSk (Za (xL [_,_,_] Znw 3 (h:=xS [_,_,_] 1 [_,_,_] Zuy (h:=tL4 (Zd ?_)))))
 exact eN [0] rfl ⟨⟨_,rfl,.inr ⟨[_,_,_],Znw,Z9 1 rfl rfl rfl,rfl⟩⟩,trivial⟩ ⟨_,_,⟨x3,xs4,x5⟩,_,rfl,ht4,so2,so2,so2,oz,rfl⟩

theorem Zpu (b:Nat) (q:Option Addr) (m cp p:Nat) (hp:p≤800000000000) (hm:m≤2000) (B:Kn) (hbm:Zap B q m):Zv (pj J) 107 [ptr ⟨b,0,none⟩] B [rd b q m cp p] (fun v B' Ls=>∃(aq:Option Addr) (cq:Nat) (qq:DQueue) (p':Nat),v = .agg #[.int .i64 qq.next,.slice aq qq.items.length cq]∧SlK B' aq cq 4 Zw qq.items∧p'≤p+1000∧Ls=[rd b q m cp p']):=by
 refine cB 84 Tryz.func107 (h:=?_)
 refine Za (xAl [_,_] ZfL (h:=fun b1=>tL2 (Za (xM (h:=xX 0 rfl Za7 rfl (ZK _ _ _ _ _ _ oz oz oz hm _ hbm) (h:=?_))))))
 rintro _ _ ⟨ra,rfl,raa,rab,rfl⟩
 refine xD (h:=xBs [] [] Tryz.underlying25 Zdf Zgw (h:=fun b3=>xB [(0,_),(1,_)] [_,_] [_,_] ZsP ZfL (h:=xAl [_,_] ZfL (h:=fun b4=>xS [_,_] 3 [_,_] Zdg (h:=tL4 (Za (xM (h:=xX 0 rfl Za7 rfl (ZK _ _ _ _ _ _ oz oz oz hm _ hbm) (h:=?_)))))))))
 rintro _ _ ⟨rb,rfl,rba,rbb,rfl⟩
 refine xA (h:=tL4 (Zg (Za (xA (h:=Zl (ZO (α:=GQ) [0,2,3,4] (fun g=>[(5,.int .i64 g.k)]) [0,2,3] (fun g=>[rd b q m cp g.p,g.l,Zah b4 [.int .i64 g.q.next,.slice g.a g.q.items.length g.c] 27]) (fun g Bx=>g.k≤8∧g.p≤p+2+40*g.k∧g.q.items.length≤2000000 - 8+g.k∧ZY Bx g.l g.a g.c 64 4 Zw g.q.items) (fun g=>8 - g.k) ⟨0,p+2,_,_,_,⟨_,[]⟩⟩ t1 rfl (⟨Nat.zero_le _,Nat.le_refl _,Nat.zero_le _,.lit0⟩) (fun g B6 hle6 hI=>?_)))))))
 obtain ⟨hk,hgp,hgn,hv⟩:=hI
 replace hbm:=hbm.mono hle6
 refine ZM [(0,_),(2,_),(3,_),(4,_),(5,_)] [_,_,_,_] t5 rfl (Zg (Za (xM (h:=xM (h:=Zaf (h:=Zb rfl (fun g1=>?_) (fun g1=>?_)))))))
 try simp only [sQ,ne_eq] at g1
 refine wSk (Zg (Zl (ZlG (α:=GM) [0,2,3,4,5,17] (fun h=>[(6,ptr ⟨h.b,0,none⟩),(7,.bool h.f)]) [0] (fun h=>[rd b q m cp h.p]) (fun h=>[Zah h.b [.int .i64 h.q.next,.slice h.a h.q.items.length h.c] 27,h.l]) (fun h Bx=>h.p≤g.p+20∧h.q.items.length≤g.q.items.length+1∧ZY Bx h.l h.a h.c 64 4 Zw h.q.items) ?_ (fun h B7 hle7 hF=>?_))))
 refine Z0 (keeps _ [3] _) mo kr ⟨Kn.le.refl _,Zad.refl _ _⟩ (fun _ _=>?_)
 refine aT 0 rfl (ZB fun D B L hI=>ZT [_,_] rfl rfl Zb4 rfl (Z9 3 (hI.2.1.trans rfl) rfl rfl) r4) (h:=aM 1 rfl (h:=Zak [2,7] kr kr kr ⟨?_,?_⟩))
 refine (Zax [0] rfl rfl rfl rfl ZwT rfl (Zi4 _ _ _ _ _ oz hm _ hbm) ?_)
 rintro _ Bu _ hleu ⟨qxu,cxu,xu,pu,rfl,htu,hfu,hwu,htnu,hpu,rfl⟩
 replace hv:=hv.mono Zw.mono hleu
 replace hbm:=hbm.mono hleu
 refine ⟨⟨hleu,t1⟩,(Zak [3,7] kr kr kr ⟨?_,?_⟩)⟩
 refine (Zax [2] rfl rfl rfl rfl Ztv rfl (Zv.borrow fun hmv=>ZgH _ _ g.q _ _ xu _ (hv.lend Zw.mono hmv om) (htu.mono Zbv.mono (Kn.le_add _ _)) (by first | assumption | omega | (simp;omega)) (by first | assumption | omega | (simp;omega))) ?_)
 rintro _ Bv _ hlev ⟨BBv,_,rfl,hBv,_,hmv,_,lv,av,cv,rfl,rfl,hvv⟩
 replace htu:=up1 hlev htu
 replace hv:=hv.mono Zw.mono hlev
 replace hbm:=hbm.mono hlev
 replace hvv:=hvv.mono Zw.mono (Kn.less_minus' hmv hBv)
 refine ⟨⟨(hleu.trans hlev),t1⟩,(aM 4 rfl (h:=aE 5 rfl (h:=aE 6 rfl (h:=Zq 7 kr rfl kr (Zai (l:=[_,_]) rfl rfl ZfL rfl (fun b10=>?_))))))⟩
 refine ⟨⟨(hleu.trans hlev),t1⟩,(Za8 8 kr rfl kr kr (ZF [_,_] 5 [_,_] rfl rfl Zdg rfl rfl rfl rfl rfl rfl rfl rfl ?_))⟩
 refine aA 9 rfl (h:=Zz kr kr ?_)
 exact ZJ ⟨_,pu,lv,av,cv,(Zip g.q xu).1,_⟩ [0,1,2,3,5,4] ⟨hpu,Zio _ _,hvv⟩ t8 rfl
 refine (Zai (l:=[_,_]) rfl rfl ZfL rfl (fun b11=>⟨⟨hleu,t1⟩,(Zq 3 kr rfl kr (Zax [2] rfl rfl rfl rfl Ztv rfl (Zv.borrow fun hmv=>ZgH _ _ g.q _ _ xu _ (hv.lend Zw.mono hmv om) (htu.mono Zbv.mono (Kn.le_add _ _)) (by first | assumption | omega | (simp;omega)) (by first | assumption | omega | (simp;omega))) ?_))⟩))
 rintro _ Bv _ hlev ⟨BBv,_,rfl,hBv,_,hmv,_,lv,av,cv,rfl,rfl,hvv⟩
 replace htu:=up1 hlev htu
 replace hv:=hv.mono Zw.mono hlev
 replace hbm:=hbm.mono hlev
 replace hvv:=hvv.mono Zw.mono (Kn.less_minus' hmv hBv)
 refine ⟨⟨(hleu.trans hlev),t1⟩,(aM 4 rfl (h:=aE 5 rfl (h:=aE 6 rfl (h:=Za8 8 kr rfl kr kr (ZF [_,_] 4 [_,_] rfl rfl Zdg rfl rfl rfl rfl rfl rfl rfl rfl ?_)))))⟩
 refine aA 9 rfl (h:=Zz kr kr ?_)
 exact ZJ ⟨_,pu,lv,av,cv,(Zip g.q xu).1,_⟩ [0,1,2,3,4,5] ⟨hpu,Zio _ _,hvv⟩ t8 rfl
 refine (Zai (l:=[_,_]) rfl rfl ZfL rfl (fun b13=>⟨⟨Kn.le.refl _,t1⟩,(Zq 2 kr rfl kr (Zax [0] rfl rfl rfl rfl ZwT rfl (Zi4 _ _ _ _ _ oz hm _ hbm) ?_))⟩))
 rintro _ Bu _ hleu ⟨qxu,cxu,xu,pu,rfl,htu,hfu,hwu,htnu,hpu,rfl⟩
 replace hv:=hv.mono Zw.mono hleu
 replace hbm:=hbm.mono hleu
 refine ⟨⟨hleu,t1⟩,(Zq 3 kr rfl kr (Zax [2] rfl rfl rfl rfl Ztv rfl (Zv.borrow fun hmv=>ZgH _ _ g.q _ _ xu _ (hv.lend Zw.mono hmv om) (htu.mono Zbv.mono (Kn.le_add _ _)) (by first | assumption | omega | (simp;omega)) (by first | assumption | omega | (simp;omega))) ?_))⟩
 rintro _ Bv _ hlev ⟨BBv,_,rfl,hBv,_,hmv,_,lv,av,cv,rfl,rfl,hvv⟩
 replace hv:=hv.mono Zw.mono hlev
 replace hbm:=hbm.mono hlev
 replace hvv:=hvv.mono Zw.mono (Kn.less_minus' hmv hBv)
 refine ⟨⟨(hleu.trans hlev),t1⟩,(aM 4 rfl (h:=aE 5 rfl (h:=aE 6 rfl (h:=Za8 8 kr rfl kr kr (ZF [_,_] 4 [_,_] rfl rfl Zdg rfl rfl rfl rfl rfl rfl rfl rfl ?_)))))⟩
 refine aA 9 rfl (h:=Zz kr kr ?_)
 exact ZJ ⟨_,pu,lv,av,cv,(Zip g.q xu).1,_⟩ [0,1,2,3,4,5] ⟨hpu,Zio _ _,hvv⟩ t8 rfl
 obtain ⟨hhp,hhn,hw⟩:=hF
 replace hv:=hv.mono Zw.mono hle7
 replace hbm:=hbm.mono hle7
 refine ZM [(0,_),(2,_),(3,_),(4,_),(5,_),(6,_),(7,_),(17,_)] [_,_,_,_,_,_] t8 rfl (Zqi (α:=GQ) [0,2,3,4,5,6,7,17] (fun o=>[]) (fun o=>[rd b q m cp o.p,Zah b1 [.int .i64 0,.slice none 0 0] 27,o.l,Zah b4 [.int .i64 o.q.next,.slice o.a o.q.items.length o.c] 27]) (fun o Bx=>o.p≤g.p+20∧o.q.items.length≤g.q.items.length+1∧ZY Bx o.l o.a o.c 64 4 Zw o.q.items) ?_ (fun o B16 hle16 hF=>?_))
 refine Za (xM (h:=Zb rfl (fun g2=>?_) (fun g2=>?_)))
 try simp only [sQ,ne_eq] at g2
 refine Zc (xL [_,_] Zb4 4 (h:=xS [_,_] 3 [_,_] Zdg (h:=?_)))
 exact ZJ ⟨0,h.p,h.l,h.a,h.c,h.q⟩ [0,1,5,3] ⟨hhp,hhn,hw⟩ t8 rfl
 try simp only [sQ,ne_eq] at g2
 refine ZL ?_
 exact ZJ ⟨0,h.p,g.l,g.a,g.c,g.q⟩ [0,1,2,3] ⟨hhp,so,hv⟩ t8 rfl
 clear hv
 obtain ⟨hop,hon,hv⟩:=hF
 replace hbm:=hbm.mono hle16
 refine ZM [(0,_),(2,_),(3,_),(4,_),(5,_),(6,_),(7,_),(17,_)] [_,_,_,_] t8 rfl (Za (xW Zan (h:=x1 Zej 3 (h:=xV Tryz.underlying25 (h:=Zbp (h:=xM (h:=Zo (d:=33) rfl (fun g3=>?_) (fun g3=>?_))))))))
 try simp only [sQ,ne_eq] at g3
 refine xM (h:=xX 0 rfl Za7 rfl (ZK _ _ _ _ _ _ oz oz oz hm _ hbm) (h:=?_))
 rintro _ _ ⟨r17,rfl,r17a,r17b,rfl⟩
 refine ZE (h:=xT (h:=tL4 (Zb rfl (fun g4=>?_) (fun g4=>?_))))
 try simp only [sQ,ne_eq] at g4
 refine Z0 (keeps _ [2,3] _) mo kr ⟨Kn.le.refl _,Zad.refl _ _⟩ (fun _ _=>?_)
 refine aT 0 rfl (ZB fun D B L hI=>ZT [_,_] rfl rfl Zb4 rfl (Z9 3 (hI.2.2.1.trans rfl) rfl rfl) r4) (h:=aW 1 rfl Zan (h:=aT 2 rfl (ZB fun D B L hI=>Zf rfl rfl Zej rfl (atL 3 (hI.2.2.1.trans rfl) rfl rfl) r4) (h:=aM 3 rfl (h:=aW 4 rfl Zan (h:=aT 5 rfl (ZB fun D B L hI=>Zf rfl rfl Zej rfl (atL 3 (hI.2.2.1.trans rfl) rfl rfl) r4) (h:=aV 6 rfl Tryz.underlying25 (h:=aM 11 rfl (h:=Zak [7,12] kr kr kr ⟨?_,?_⟩))))))))
 refine (ZbD 0 rfl rfl rfl Za7 rfl (ZK _ _ _ _ _ _ oz oz oz hm _ hbm) ?_)
 rintro _ _ ⟨r18,rfl,r18a,r18b,rfl⟩
 refine ⟨⟨Kn.le.refl _,t2⟩,?_⟩
 obtain ⟨z19,hz19⟩:=ZeB (xs:=o.q.items) (i:=r18) om om
 obtain ⟨bb20,_,hp20,⟨qi20,ci20,rfl,hi20,hb20,hb20b⟩,hw20,hc20⟩:=hv.row hz19
 have hi20n:=hi20.len
 refine aT 8 rfl (ZB fun D B L hI=>Zf1 hp20 rfl rfl Tryz.underlying25 Zdf rfl rfl om om r4) (h:=?_)
 refine aW 9 rfl Zdi (h:=aT 10 rfl (ZB fun D B L hI=>Zf rfl rfl lk3 rfl (hc20 _ 2 (hI.2.1.trans rfl) 0 _ rfl) r4) (h:=Zq 12 kr rfl kr (Zu (parts:=[(0,_),(1,_),(2,_)]) [_,_,_] rfl rfl Tryz.underlying62 sz9 zo9 rfl rfl rfl rfl rfl (fun b21=>?_))))
 refine ⟨⟨Kn.le.refl _,t2⟩,(Zq 13 kr rfl kr (Zax [0,4] rfl rfl rfl rfl ZoK rfl (ZqT _ _ _ _ _ _ ([[97,109,121],[98,111,98],[99,121,100]]:List Str) oz (by decide) (by decide) hm _ hbm) ?_))⟩
 rintro _ Bw _ hlew ⟨rfl,xw,hxw,rfl,rfl⟩
 replace hxw:=(show∀y∈( ([[97,109,121],[98,111,98],[99,121,100]]:List Str):List Str),y.length≤40 from by decide) _ hxw
 refine ⟨⟨Kn.le.refl _,t2⟩,(Zq 14 kr rfl kr (Zax [2] rfl rfl rfl rfl ZwS rfl (Zv.borrow fun hm23=>Zki _ _ o.q z19.id xw _ (hv.lend Zw.mono hm23 om)) ?_))⟩
 rintro _ B23 _ hle23 ⟨BB23,_,rfl,hB23,_,hm23,_,l23,a23,c23,rfl,rfl,hv23,ht23⟩
 replace hv:=hv.mono Zw.mono hle23
 replace hbm:=hbm.mono hle23
 replace hv23:=hv23.mono Zw.mono (Kn.less_minus' hm23 hB23)
 refine ⟨⟨hle23,t2⟩,(aM 15 rfl (h:=aE 16 rfl (h:=aE 17 rfl (h:=aE 18 rfl (h:=Za8 19 kr rfl kr kr (ZF [_,_] 3 [_,_] rfl rfl Zdg rfl rfl rfl rfl rfl rfl rfl rfl ?_))))))⟩
 refine Zz kr kr ?_
 refine ZA (Zj (Zc (xM (h:=xD (h:=xA (h:=?_))))))
 exact ZD ⟨g.k+1,(((o.p+1)+1)+1),l23,a23,c23,((Zac o.q z19.id xw).1)⟩ [0,1,5,3] so2 ⟨so,so,Nat.le_trans (ZiR _ _ _) (so),hv23⟩ t5 rfl
 refine (Zu (parts:=[(0,_),(1,_),(2,_)]) [_,_,_] rfl rfl Tryz.underlying62 sz9 zo9 rfl rfl rfl rfl rfl (fun b24=>⟨⟨Kn.le.refl _,t2⟩,(Zq 7 kr rfl kr (ZbD 0 rfl rfl rfl Za7 rfl (ZK _ _ _ _ _ _ oz oz oz hm _ hbm) ?_))⟩))
 rintro _ _ ⟨r25,rfl,r25a,r25b,rfl⟩
 refine ⟨⟨Kn.le.refl _,t2⟩,?_⟩
 obtain ⟨z26,hz26⟩:=ZeB (xs:=o.q.items) (i:=r25) om om
 obtain ⟨bb27,_,hp27,⟨qi27,ci27,rfl,hi27,hb27,hb27b⟩,hw27,hc27⟩:=hv.row hz26
 have hi27n:=hi27.len
 refine aT 8 rfl (ZB fun D B L hI=>Zf1 hp27 rfl rfl Tryz.underlying25 Zdf rfl rfl om om r4) (h:=?_)
 refine aW 9 rfl Zdi (h:=aT 10 rfl (ZB fun D B L hI=>Zf rfl rfl lk3 rfl (hc27 _ 2 (hI.2.1.trans rfl) 0 _ rfl) r4) (h:=Zq 13 kr rfl kr (Zax [0,4] rfl rfl rfl rfl ZoK rfl (ZqT _ _ _ _ _ _ ([[97,109,121],[98,111,98],[99,121,100]]:List Str) oz (by decide) (by decide) hm _ hbm) ?_)))
 rintro _ Bw _ hlew ⟨rfl,xw,hxw,rfl,rfl⟩
 replace hxw:=(show∀y∈( ([[97,109,121],[98,111,98],[99,121,100]]:List Str):List Str),y.length≤40 from by decide) _ hxw
 refine ⟨⟨Kn.le.refl _,t2⟩,(Zq 14 kr rfl kr (Zax [2] rfl rfl rfl rfl ZwS rfl (Zv.borrow fun hm29=>Zki _ _ o.q z26.id xw _ (hv.lend Zw.mono hm29 om)) ?_))⟩
 rintro _ B29 _ hle29 ⟨BB29,_,rfl,hB29,_,hm29,_,l29,a29,c29,rfl,rfl,hv29,ht29⟩
 replace hv:=hv.mono Zw.mono hle29
 replace hbm:=hbm.mono hle29
 replace hv29:=hv29.mono Zw.mono (Kn.less_minus' hm29 hB29)
 refine ⟨⟨hle29,t2⟩,(aM 15 rfl (h:=aE 16 rfl (h:=aE 17 rfl (h:=aE 18 rfl (h:=Za8 19 kr rfl kr kr (ZF [_,_] 3 [_,_] rfl rfl Zdg rfl rfl rfl rfl rfl rfl rfl rfl ?_))))))⟩
 refine Zz kr kr ?_
 refine ZA (Zj (Zc (xM (h:=xD (h:=xA (h:=?_))))))
 exact ZD ⟨g.k+1,(((o.p+1)+1)+1),l29,a29,c29,((Zac o.q z26.id xw).1)⟩ [0,1,5,3] so2 ⟨so,so,Nat.le_trans (ZiR _ _ _) (so),hv29⟩ t5 rfl
 try simp only [sQ,ne_eq] at g4
 refine ZL (ZA (Zj (Zc (xM (h:=xD (h:=xA (h:=?_)))))))
 exact ZD ⟨g.k+1,(o.p+1),o.l,o.a,o.c,o.q⟩ [0,1,2,3] so2 ⟨so,so,so,hv⟩ t5 rfl
 try simp only [sQ,ne_eq] at g3
 refine xP (h:=xP (h:=xP (h:=xF (h:=Zb (t:=false) rfl (fun h=>Bool.noConfusion h) (fun _=>ZL (ZA (Zj (Zc (xM (h:=xD (h:=xA (h:=?_))))))))))))
 exact ZD ⟨g.k+1,o.p,o.l,o.a,o.c,o.q⟩ [0,1,2,3] so2 ⟨so,so,so,hv⟩ t5 rfl
 try simp only [sQ,ne_eq] at g1
 refine ZS (Zae (ZX (ZI (Zj (Zg (Za (xM (h:=xX 0 rfl Za7 rfl (ZK _ _ _ _ _ _ oz oz oz hm _ hbm) (h:=?_)))))))))
 rintro _ _ ⟨r30,rfl,r30a,r30b,rfl⟩
 refine tL4 (Zl (Za (ZE (h:=xA (h:=Zb rfl (fun g2=>?_) (fun g2=>?_))))))
 try simp only [sQ,ne_eq] at g2
 refine Zc (xBs [(0,_),(1,_),(2,_),(3,_),(4,_)] [_,_,_,_,_] Tryz.underlying185 sz3 zo3 (h:=fun b31=>Z1 4 rfl (ZY.ints (ls:=([0,1,99,100,101]:List Int))) Zcf.mono om3 (fun B32 hle32 hr32=>?_)))
 replace hv:=hv.mono Zw.mono hle32
 replace hbm:=hbm.mono hle32
 have hr32n:=hr32.len
 refine xM (h:=xX 0 rfl Za7 rfl (ZK _ _ _ _ _ _ oz oz oz hm _ hbm) (h:=?_))
 rintro _ _ ⟨r33,rfl,r33a,r33b,rfl⟩
 obtain ⟨z34,hz34⟩:=ZeB (xs:=([0,1,99,100,101]:List Int)) (i:=r33) om om
 obtain ⟨_,rfl,hc35⟩:=hr32.elem hz34
 refine xIx Tryz.underlying185 sz3 (h:=y1 lk3 hc35 0 (h:=xW Zdk (h:=xS [_] 3 [_,_] sz3 (h:=ZA (Zj (Zd0 2 rfl hv Zw.mono om3 (fun B36 hle36 hr36=>?_)))))))
 replace hbm:=hbm.mono hle36
 have hr36n:=hr36.len
 refine Za (xL [_,_] Zb4 3 (h:=xS [_,_] 1 [_,_] Zdg (h:=tL5 (Zd ?_))))
 exact eN [0] rfl ⟨⟨_,rfl,.inr ⟨[_,_],Zb4,Z9 1 rfl rfl rfl,rfl⟩⟩,trivial⟩ ⟨_,_,⟨z34,g.q.items⟩,_,(ol),hr36,oz,rfl⟩
 try simp only [sQ,ne_eq] at g2
 refine Za (ZE (h:=xA (h:=Zb rfl (fun g3=>?_) (fun g3=>?_))))
 try simp only [sQ,ne_eq] at g3
 refine Za (xW Zan (h:=x1 Zej 3 (h:=xV Tryz.underlying25 (h:=Zbp (h:=Zb rfl (fun g4=>?_) (fun g4=>?_))))))
 try simp only [sQ,ne_eq] at g4
 refine Z0 (keeps _ [2,3] _) mo kr ⟨Kn.le.refl _,Zad.refl _ _⟩ (fun _ _=>?_)
 refine aW 0 rfl Zan (h:=aT 1 rfl (ZB fun D B L hI=>Zf rfl rfl Zej rfl (atL 3 (hI.2.2.1.trans rfl) rfl rfl) r4) (h:=aM 2 rfl (h:=aW 3 rfl Zan (h:=aT 4 rfl (ZB fun D B L hI=>Zf rfl rfl Zej rfl (atL 3 (hI.2.2.1.trans rfl) rfl rfl) r4) (h:=aV 5 rfl Tryz.underlying25 (h:=Zak [6,7] kr kr kr ⟨?_,?_⟩))))))
 refine (ZbD 0 rfl rfl rfl Za7 rfl (ZK _ _ _ _ _ _ oz oz oz hm _ hbm) ?_)
 rintro _ _ ⟨r37,rfl,r37a,r37b,rfl⟩
 refine ⟨⟨Kn.le.refl _,t2⟩,(Zq 7 kr rfl kr (Zu (parts:=[]) [] rfl rfl Tryz.underlying62 sz9 zo9 rfl rfl rfl rfl rfl (fun b38=>?_)))⟩
 refine ⟨⟨Kn.le.refl _,t2⟩,?_⟩
 obtain ⟨z39,hz39⟩:=ZeB (xs:=g.q.items) (i:=r37) om om
 obtain ⟨bb40,_,hp40,⟨qi40,ci40,rfl,hi40,hb40,hb40b⟩,hw40,hc40⟩:=hv.row hz39
 have hi40n:=hi40.len
 refine aT 8 rfl (ZB fun D B L hI=>Zf1 hp40 rfl rfl Tryz.underlying25 Zdf rfl rfl om om r4) (h:=?_)
 refine aW 9 rfl ZaO (h:=ZU 10 kr rfl kr kr kr (ZeJ (k:=(r37).toNat) (off:=3) (⟨z39.id,z39.fr,z39.text,[]⟩) [_] 2 hv hp40 hz39 rfl rfl Zux rfl rfl rfl rfl rfl rfl (by rintro _ ⟨_,_,rfl,_,e1,e2⟩;exact ⟨_,_,rfl,SlK.nil,e1,e2⟩) (fun l41 hv41=>?_)))
 refine ZA (Zj (Zd0 2 rfl hv41 Zw.mono om3 (fun B42 hle42 hr42=>?_)))
 replace hbm:=hbm.mono hle42
 have hr42n:=hr42.len
 refine Za (xL [_,_] Zb4 3 (h:=xS [_,_] 1 [_,_] Zdg (h:=tL5 (Zd ?_))))
 exact Zas .ret (.inl rfl) [_] [0] rfl ⟨⟨_,rfl,.inr ⟨[_,_],Zb4,Z9 1 rfl rfl rfl,rfl⟩⟩,trivial⟩ ⟨_,_,⟨g.q.next,(g.q.items.set ((r37).toNat) (⟨z39.id,z39.fr,z39.text,[]⟩))⟩,_,(by first | rfl | (simp only [List.length_set];rfl)),hr42,by omega,rfl⟩
 refine (Zu (parts:=[]) [] rfl rfl Tryz.underlying62 sz9 zo9 rfl rfl rfl rfl rfl (fun b43=>⟨⟨Kn.le.refl _,t2⟩,(Zq 6 kr rfl kr (ZbD 0 rfl rfl rfl Za7 rfl (ZK _ _ _ _ _ _ oz oz oz hm _ hbm) ?_))⟩))
 rintro _ _ ⟨r44,rfl,r44a,r44b,rfl⟩
 refine ⟨⟨Kn.le.refl _,t2⟩,?_⟩
 obtain ⟨z45,hz45⟩:=ZeB (xs:=g.q.items) (i:=r44) om om
 obtain ⟨bb46,_,hp46,⟨qi46,ci46,rfl,hi46,hb46,hb46b⟩,hw46,hc46⟩:=hv.row hz45
 have hi46n:=hi46.len
 refine aT 8 rfl (ZB fun D B L hI=>Zf1 hp46 rfl rfl Tryz.underlying25 Zdf rfl rfl om om r4) (h:=?_)
 refine aW 9 rfl ZaO (h:=ZU 10 kr rfl kr kr kr (ZeJ (k:=(r44).toNat) (off:=3) (⟨z45.id,z45.fr,z45.text,[]⟩) [_] 2 hv hp46 hz45 rfl rfl Zux rfl rfl rfl rfl rfl rfl (by rintro _ ⟨_,_,rfl,_,e1,e2⟩;exact ⟨_,_,rfl,SlK.nil,e1,e2⟩) (fun l47 hv47=>?_)))
 refine ZA (Zj (Zd0 2 rfl hv47 Zw.mono om3 (fun B48 hle48 hr48=>?_)))
 have hr48n:=hr48.len
 refine Za (xL [_,_] Zb4 3 (h:=xS [_,_] 1 [_,_] Zdg (h:=tL5 (Zd ?_))))
 exact Zas .ret (.inl rfl) [_] [0] rfl ⟨⟨_,rfl,.inr ⟨[_,_],Zb4,Z9 1 rfl rfl rfl,rfl⟩⟩,trivial⟩ ⟨_,_,⟨g.q.next,(g.q.items.set ((r44).toNat) (⟨z45.id,z45.fr,z45.text,[]⟩))⟩,_,(by first | rfl | (simp only [List.length_set];rfl)),hr48,by omega,rfl⟩
 try simp only [sQ,ne_eq] at g4
 refine ZL (ZA (Zj (Zd0 2 rfl hv Zw.mono om3 (fun B49 hle49 hr49=>?_))))
 have hr49n:=hr49.len
 refine Za (xL [_,_] Zb4 3 (h:=xS [_,_] 1 [_,_] Zdg (h:=tL4 (Zd ?_))))
 exact eN [0] rfl ⟨⟨_,rfl,.inr ⟨[_,_],Zb4,Z9 1 rfl rfl rfl,rfl⟩⟩,trivial⟩ ⟨_,_,g.q,_,(ol),hr49,oz,rfl⟩
 try simp only [sQ,ne_eq] at g3
 refine ZL (ZA (Zj (Zd0 2 rfl hv Zw.mono om3 (fun B50 hle50 hr50=>?_))))
 have hr50n:=hr50.len
 refine Za (xL [_,_] Zb4 3 (h:=xS [_,_] 1 [_,_] Zdg (h:=tL4 (Zd ?_))))
 exact eN [0] rfl ⟨⟨_,rfl,.inr ⟨[_,_],Zb4,Z9 1 rfl rfl rfl,rfl⟩⟩,trivial⟩ ⟨_,_,g.q,_,(ol),hr50,oz,rfl⟩

theorem ZnD (q:Option Addr) (cp:Nat) (x:DItem) (B:Kn) (hx:SlK B q cp 1 Zbv x.left):Zv (pj J) 88 [.agg #[.int .i64 x.id,str x.fr,str x.text,.slice q x.left.length cp]] B [] (fun v B' Ls=>B'=B∧∃ins a c,Ls=[ins]∧v = .agg #[.int .i64 x.id,str x.fr,str x.text,.slice a x.left.length c]∧Zsh 9 ins a c x.left):=by
 refine cB 9 Tryz.func88 (h:=?_)
 have hxn:=hx.len
 refine Za (xBx [_,_,_,_] (h:=fun b1=>xAl [_,_,_,_] Zgw (h:=fun b2=>tL2 (Za (xBs [] [] Tryz.underlying62 sz9 zo9 (h:=fun b3=>xW ZaO (h:=x1 Ze9 0 (h:=Zn (ZaY (R:=Zbv) 2 rfl (ZY.lit0 (R:=Zbv)) rfl rfl rfl ZoI Zoc rfl rfl rfl hx.rows Zbv.one rfl om (fun l4 p4 c4 hv4=>?_))))))))))
 refine xW ZaO (h:=xS [_] 0 [_,_,_,_] Zux (h:=tL3 (Za (xL [_,_,_,_] Zh4 0 (h:=xS [_,_,_,_] 1 [_,_,_,_] Zdf (h:=tL3 (Zd ?_)))))))
 exact eN [2] rfl ⟨⟨_,rfl,.inr ⟨[_,_,_,_],Zh4,Z9 1 rfl rfl rfl,rfl⟩⟩,trivial⟩ ⟨rfl,_,_,_,rfl,rfl,(hv4).anyK Zbv.any⟩

theorem ZpX (q:Option Addr) (m cp:Nat) (B:Kn):Zv (pj J) 87 [.slice q m cp] B [] (fun v B' Ls=>B'=B∧∃b,Ls=[Zah b [.slice q m cp] 25]∧v = .func (.func 124) #[] #[ptr ⟨b,0,none⟩]):=by
 refine cB 4 Tryz.func87 (h:=?_)
 refine Za (xBx [_] (h:=fun b1=>xA (h:=tL1 (Za (Zn (Zep (xs:=[]) (ys:=[_]) rfl rfl rfl rfl (xA (h:=Zd ?_))))))))
 exact eN [0] rfl t1 ⟨rfl,_,rfl,rfl⟩

theorem ZvE (l bc:Nat) (q:Option Addr) (cp:Nat) (xs:List DItem) (Inv:Nat→Kn→Cells→Prop) (s0:Cells) (B:Kn) (hq:SlK B q cp 4 Zw xs) (hcc:Zbi B bc 0 [.slice q xs.length cp]) (h0:Inv xs.length B s0) (hround :∀(j:Nat) (i:Int) (x:DItem) (row:List Value) (B':Kn) (s:Cells),B.le B'→Inv (j+1) B' s→xs[j]? = some x→Zw B' row x→∃lp,(l,Obj.loop lp)∈s∧lp.params.size=2∧Zsj (pj J) l lp.fn (ZmV lp.params lp.tmps [.int .i64 i,.agg row.toArray]) lp.assign lp.body B' s (fun B'' s'=>Inv j B'' s')):Zv (pj J) 124 [.func (.yield l) #[] #[],ptr ⟨bc,0,none⟩] B [s0] (fun v B' Ls=>∃s,Ls=[s]∧Inv 0 B' s):=by
 refine cB 19 Tryz.func124 (h:=?_)
 have hqn:=hq.len
 refine Za (Zn (Zf rfl rfl Zej rfl (hcc _ 0 _ rfl) (xV Tryz.underlying25 (h:=xU (h:=xA (h:=Zl (ZO (α:=Int × Cells) [0,1] (fun g=>[(3,.int .i64 g.1)]) [0] (fun g=>[g.2]) (fun g Bx=>-1≤g.1∧g.1<xs.length∧Inv (g.1+1).toNat Bx g.2) (fun g=>(g.1+1).toNat) ((xs.length:Int) - 1,s0) t1 rfl (⟨so,so,by rw [show ((xs.length:Int) - 1+1).toNat=xs.length from by omega];exact h0⟩) (fun g B1 hle1 hI=>?_))))))))
 obtain ⟨hk1,hk,hI⟩:=hI
 replace hq:=up1 hle1 hq
 replace hcc:=hcc.mono hle1
 refine ZM [(0,_),(1,_),(3,_)] [_] t3 rfl (Zg (Za (xM (h:=Zeo (h:=Zb rfl (fun g1=>?_) (fun g1=>?_))))))
 try simp only [sQ,ne_eq] at g1
 refine wSk (Zg (Zl (Za (xM (h:=xM (h:=Zn (Zf rfl rfl Zej rfl (hcc _ 0 _ rfl) (xM (h:=?_)))))))))
 obtain ⟨x,hx⟩:=ZeB (xs:=xs) (i:=g.1) om om
 obtain ⟨bb3,oo3,rfl⟩:=hq.base hx
 obtain ⟨_,⟨qi4,ci4,rfl,hi4,hb4,hb4b⟩,hc4⟩:=hq.elem hx
 have hi4n:=hi4.len
 refine xIx Tryz.underlying25 Zdf (h:=?_)
 obtain ⟨lp,hl,hs,hr⟩:=hround g.1.toNat g.1 x _ _ g.2 (oy) (by rw [show g.1.toNat+1=(g.1+1).toNat from by omega];exact hI) hx ⟨_,_,rfl,oy,oy,oy⟩
 refine yL [_,_,_,_] Zh4 hc4 0 (h:=Zn (Zuo (j:=0) rfl hl rfl rfl rfl rfl hs.symm hr (fun Bc sc hlec hIc=>xN (h:=tL1 (Zb rfl (fun g2=>by cases g2) (fun g2=>?_))))))
 try simp only [sQ,ne_eq] at g2
 refine ZL (ZA (Zj (Zc (xM (h:=xU (h:=xA (h:=?_)))))))
 exact ZD (g.1 - 1,sc) [0] so2 ⟨so,so,by simp only [];rw [show (g.1 - 1+1).toNat=g.1.toNat from by omega];exact hIc⟩ t3 rfl
 try simp only [sQ,ne_eq] at g1
 refine ZS (Zae (ZX (ZI ?_)))
 exact Zas .normal (.inr rfl) [] [0] rfl trivial ⟨_,rfl,by rw [show (g.1+1).toNat=0 from by omega] at hI;exact hI⟩

theorem ZiQ (q:Option Addr) (cp:Nat) (x:DQueue) (B:Kn) (hx:SlK B q cp 4 Zw x.items):Zv (pj J) 37 [.agg #[.int .i64 x.next,.slice q x.items.length cp]] B [] (fun v B' Ls=>∃s,Ls=[s]∧ZfO 9 83 v x.items s):=by
 refine ZmQ 17 Tryz.func37 rfl rfl rfl (Nat.le_of_ble_eq_true rfl) ?_
 refine Zfc (xBx [_,_] (h:=fun b1=>xA (h:=Zqy [(0,_),(1,_),(2,_)] [_] t3 rfl (Zfc (xAl [_] ZyT (h:=fun b2=>Zqy [(0,_),(1,_),(2,_),(3,_)] [_,_] t4 rfl (Zwg (Zfc (xW Zan (h:=x1 Zej 0 (h:=xC Zzy rfl (ZpX _ _ _ _) (h:=?_))))))))))))
 rintro _ B3 _ hle3 ⟨rfl,b3,rfl,rfl⟩
 refine Zqy [(0,_),(1,_),(2,_),(3,_),(8,_)] [_,_,_] t5 rfl (Zuw (ZxE 2 rfl (fun B4 hle4 hm4=>?_)))
 replace hx:=up1 hle4 hx
 have hcc:=ZbY hm4
 refine ZxD [1] rfl (Zsy (J:=fun B' L'=>∃v s,L'=[Zah b2 [v] 79,s]∧ZfO 9 83 v x.items s) (cap:=[_]) rfl Zyy (fun lp l hTn hTS hps hasg hbd hst hlp=>?_) (fun r B9 L9 hle9 hJ=>?_))
 refine Zv.mono (ZvE l _ _ _ x.items (fun j B9 s9=>∃v cells,s9.Perm ((l,Obj.loop lp) :: (Zah b2 [v] 79 ++ cells))∧ZfO 9 83 v (x.items.drop j) cells) _ _ hx hcc ⟨.pointer none,[],by simp,by rw [List.drop_length];exact ⟨rfl,rfl⟩⟩ ?_) ?_
 rintro j i y row B9 s9 hle9 ⟨v,cells,hp,hl⟩ hy hrow
 obtain ⟨qy,cy,rfl,hy5,hy6,hy7⟩:=hrow
 have hy5n:=hy5.len
 obtain ⟨p9,rfl⟩:=hl.ptr
 obtain ⟨hA,hN⟩:=ZtK (a:=9) (b:=10) (x:=.int .i64 i) (y:=.agg #[.int .i64 y.id,str y.fr,str y.text,.slice qy y.left.length cy]) hTS hTn rfl rfl
 refine ⟨lp,hp.mem_iff.2 (List.mem_cons_self ..),by rw [hps];rfl,?_⟩
 rw [hps,hasg,hbd]
 refine ZqM (L:=[Zah b2 [.pointer p9] 79,cells]) (lp:=lp) hN [(3,_),(9,_),(10,_)] (hA.sub t3) (by simpa using hp) hst ?_
 refine Zc (xAl [_,_,_,_] Zgw (h:=fun b4=>xS [_,_,_,_] 3 [_,_,_,_] Zdf (h:=⟨rfl,rfl,rfl,(tL4 (Zl (Z0 (keeps _ [1,3] _) mo kr ⟨Kn.le.refl _,Zad.refl _ _⟩ (fun _ _=>?_))))⟩)))
 refine aT 0 rfl (ZB fun D B L hI=>ZT [_,_,_,_] rfl rfl Zh4 rfl (Z9 3 (hI.2.2.1.trans rfl) rfl rfl) r4) (h:=aT 2 rfl (ZB fun D B L hI=>Zf rfl rfl Zpo rfl (atL 1 (hI.2.1.trans rfl) rfl rfl) r4) (h:=Zq 1 kr rfl kr (Zbs rfl rfl Zzx rfl (ZnD _ _ y _ hy5) ?_)))
 rintro _ B5 _ hle5 ⟨rfl,ins5,a5,c5,rfl,rfl,hs5⟩
 refine ⟨⟨Kn.le.refl _,t2⟩,(aT 3 rfl (ZB fun D B L hI=>ZaG (parts:=[(0,_),(1,_)]) [_,_,_,_,_] [_,_,_,_,_] rfl rfl Zzl Zzh rfl rfl rfl r4) (h:=Zq 4 kr rfl kr (Zwc (l:=[_,_,_,_,_]) rfl rfl rfl rfl (fun b6=>?_))))⟩
 refine ⟨⟨Kn.le.refl _,t2⟩,(ZU 5 kr rfl kr kr kr (ZF [_] 1 [_] rfl rfl ZxF rfl rfl rfl rfl rfl rfl rfl rfl ?_))⟩
 refine ZA (⟨rfl,rfl,(l,Obj.loop lp) :: (Zah b2 [ptr ⟨b6,0,none⟩] 79 ++ (Zah b6 ([.int .i64 y.id,str y.fr,str y.text,.slice a5 y.left.length c5] ++ [.pointer p9]) 83 ++ (ins5 ++ cells))),Zah b4 [.int .i64 y.id,str y.fr,str y.text,.slice qy y.left.length cy] 64,?_,_,_,.refl _,?_⟩)
 refine (ZaC [0,1,5,4,2] _ _ _ rfl).trans ?_
 rw [hlp]
 simp [Zah]
 rw [ZrS hy]
 exact ⟨_,_,_,_,_,rfl,.refl _,⟨_,_,rfl,hs5,oy,oy,oy⟩,hl⟩
 rintro _ B9 _ hle9 ⟨s9,rfl,v,cells,hp,hl⟩
 exact ⟨[Zah b2 [v] 79,cells],_,rfl,by simpa using hp,v,cells,rfl,by simpa using hl⟩
 obtain ⟨v,s9,rfl,hl⟩:=hJ
 refine ZA (Zj (Za (x1 Zpo 0 (h:=xA (h:=tL3 (Zd ?_))))))
 exact ⟨.inl rfl,r,2,rfl,rfl,[_],[_],t1,⟨_,List.perm_append_comm⟩,_,rfl,hl⟩

theorem ZiP (nx:Int) (v:Value) (xs:List DItem) (cells:Cells) (B:Kn) (hn:xs.length≤2000000) (hv:ZfO 9 83 v xs cells):Zv (pj J) 41 [.int .i64 nx,v] B [cells] (fun v B' Ls=>B'=B∧∃l q c,Ls=[l]∧v = .agg #[.int .i64 nx,.slice q xs.length c]∧ZcD l q c 64 4 (Zb3 9) xs):=by
 refine cB 27 Tryz.func41 (h:=?_)
 obtain ⟨p,rfl⟩:=hv.ptr
 refine Za (xAl [_,_] ZfL (h:=fun b1=>tL2 (Za (xM (h:=xBs [] [] Tryz.underlying25 Zdf Zgw (h:=fun b2=>xB [(0,_),(1,_)] [_,_] [_,_] ZsP ZfL (h:=xAl [_,_] ZfL (h:=fun b3=>xS [_,_] 3 [_,_] Zdg (h:=tL4 (Zg (Za (xM (h:=xA (h:=Zl (ZO (α:=QOf) [0,1,4,5] (fun g=>[(6,.pointer g.p)]) [0,2,3] (fun g=>[g.cells,g.l,Zah b3 [.int .i64 nx,.slice g.q g.ys.length g.c] 27]) (fun g Bx=>Bx=B∧g.ys ++ g.xs=xs∧ZcD g.l g.q g.c 64 4 (Zb3 9) g.ys∧ZfO 9 83 (.pointer g.p) g.xs g.cells) (fun g=>g.xs.length) ⟨p,[],xs,_,_,_,_⟩ t1 rfl (⟨rfl,rfl,.lit0,hv⟩) (fun g B4 hle4 hI=>?_))))))))))))))))
 obtain ⟨rfl,hxs,hvd,hl⟩:=hI
 refine ZM [(0,_),(1,_),(4,_),(5,_),(6,_)] [_,_,_,_] t5 rfl (Zg (Za (xM (h:=Zn (Zqg rfl rfl rfl rfl rfl (ZeW Tryz.underlying79) (Zb rfl (fun g1=>?_) (fun g1=>?_)))))))
 obtain ⟨y,ys,b8,q8,c8,np,ins8,rest8,hp8,hrest,hperm,hy5,hy6,hy7,hy8,hl8⟩:=hl.more (by simpa using g1)
 rw [hp8]
 have hlen:=congrArg List.length hxs
 rw [List.length_append,hrest,List.length_cons] at hlen
 replace hlen:g.ys.length+1≤2000000:=by omega
 refine ZkT 0 rfl hperm (tL6 (wSk (Zg (Zl (Z0 (keeps _ [0,3] _) mo kr ⟨Kn.le.refl _,Zad.refl _ _⟩ (fun _ _=>?_))))))
 refine aW 0 rfl Zan (h:=aT 1 rfl (ZB fun D B L hI=>Zf rfl rfl Zej rfl (atL 3 (hI.2.2.1.trans rfl) rfl rfl) r4) (h:=aM 2 rfl (h:=aNc 3 rfl (h:=aW 4 rfl Zrz (h:=aT 5 rfl (ZB fun D B L hI=>ZT [_,_,_,_] rfl rfl Zh4 rfl (Z9 0 (hI.2.1.trans rfl) rfl rfl) r4) (h:=Zq 6 kr rfl kr (Zu (parts:=[(0,_)]) [_,_,_,_] rfl rfl Tryz.underlying25 Zdf Zgw rfl rfl rfl rfl rfl (fun b5=>?_))))))))
 refine ⟨⟨Kn.le.refl _,t2⟩,(Zq 7 kr rfl kr (Zwe (R:=Zb3 9) (z:=y) 2 4 rfl rfl rfl hvd rfl rfl rfl ZvP ZvM rfl rfl (ZaQ.box 6 rfl) rfl rfl ⟨_,_,rfl,hy5,hy6,hy7,hy8⟩ oz (fun l9 q9 c9 hv9=>?_)))⟩
 refine ⟨⟨Kn.le.refl _,t2⟩,(aW 8 rfl Zan (h:=ZU 9 kr rfl kr kr kr (ZF [_] 3 [_,_] rfl rfl ZvL rfl rfl rfl rfl rfl rfl rfl rfl ?_)))⟩
 refine ZA (Zj (Zc (xM (h:=xNc (h:=xW Zry (h:=x1 Zpo 0 (h:=xA (h:=?_))))))))
 exact ZD ⟨np,g.ys ++ [y],ys,l9,q9,c9,rest8⟩ [5,1,2,3] (by rw [hrest];simp) ⟨rfl,by rw [← hxs,hrest];simp,hv9,hl8⟩ t5 rfl
 rw [hl.done (by simpa using g1),List.append_nil] at hxs
 subst hxs
 refine ZS (Zae (ZX (ZI (Zj (Za (xL [_,_] Zb4 3 (h:=xS [_,_] 1 [_,_] Zdg (h:=tL4 (Zd ?_)))))))))
 exact eN [2] rfl ⟨⟨_,rfl,.inr ⟨[_,_],Zb4,Z9 1 rfl rfl rfl,rfl⟩⟩,trivial⟩ ⟨rfl,_,_,_,rfl,rfl,hvd⟩

theorem Zfh (q:Option Addr) (cp:Nat) (x:DQueue) (B:Kn) (hx:SlK B q cp 4 Zw x.items):Zv (pj J) 38 [.agg #[.int .i64 x.next,.slice q x.items.length cp]] B [] (fun v B' Ls=>∃l q c,Ls=[l]∧v = .agg #[.int .i64 x.next,.slice q x.items.length c]∧ZcD l q c 64 4 (Zb3 9) x.items):=by
 refine cB 8 Tryz.func38 (h:=?_)
 have hxn:=hx.len
 refine Za (xBx [_,_] (h:=fun b1=>xAl [_,_] ZfL (h:=fun b2=>tL2 (Zg (Z0 (keeps _ [0] _) mo kr ⟨Kn.le.refl _,Zad.refl _ _⟩ (fun _ _=>?_))))))
 refine aW 0 rfl Zdk (h:=aT 1 rfl (ZB fun D B L hI=>Zf rfl rfl lk3 rfl (atL 0 (hI.2.1.trans rfl) rfl rfl) r4) (h:=aT 2 rfl (ZB fun D B L hI=>ZT [_,_] rfl rfl Zb4 rfl (Z9 0 (hI.2.1.trans rfl) rfl rfl) r4) (h:=Zq 3 kr rfl kr (Zbs rfl rfl Zzb rfl (ZiQ _ _ x _ hx) ?_))))
 rintro _ B3 _ hle3 ⟨sl3,rfl,hl3⟩
 refine ⟨⟨hle3,t1⟩,(Zq 4 kr rfl kr (Zax [2] rfl rfl rfl rfl Zx0 rfl (ZiP _ _ _ _ _ oa hl3) ?_))⟩
 rintro _ B4 _ hle4 ⟨rfl,ld4,ad4,cd4,rfl,rfl,hd4⟩
 refine ⟨⟨hle3,t1⟩,(ZU 5 kr rfl kr kr kr (ZF [_,_] 1 [_,_] rfl rfl Zdg rfl rfl rfl rfl rfl rfl rfl rfl ?_))⟩
 refine Zj (tL3 (Zd ?_))
 exact eN [2] rfl ⟨⟨_,rfl,.inr ⟨[_,_],Zb4,Z9 1 rfl rfl rfl,rfl⟩⟩,trivial⟩ ⟨_,_,_,rfl,rfl,hd4⟩

theorem Zrk (q:Option Addr) (m cp:Nat) (B:Kn):ZaM (pj J) 224 [.slice q m cp] B (.int .i64 m):=by
 refine cB 5 Tryz.func224 (h:=?_)
 refine Za (xA (h:=Za (xM (h:=xV Tryz.underlying186 (h:=xA (h:=Zd ?_))))))
 exact eR t1 ⟨rfl,rfl,rfl⟩

theorem ZgX (q:Option Addr) (cp:Nat) (xs:List Int) (i j:Nat) (a b:Int) (hi:xs[i]? = some a) (hj:xs[j]? = some b) (B:Kn) (hx:SlK B q cp 1 Zcf xs):ZaM (pj J) 225 [.slice q xs.length cp,.int .i64 i,.int .i64 j] B (.bool (decide (a<b))):=by
 refine cB 16 Tryz.func225 (h:=?_)
 have hil:=ZbH hi
 have hjl:=ZbH hj
 refine Za (xA (h:=Zg (Z0 (same _ _) mo kr ⟨rfl,rfl⟩ (fun _ _=>?_))))
 refine aM 0 rfl (h:=aM 1 rfl (h:=?_))
 obtain ⟨z,hz⟩:=Zag (xs:=xs) (i:=i) om
 obtain ⟨bb2,oo2,rfl⟩:=hx.base hz
 obtain ⟨_,rfl,hc3⟩:=hx.elem hz
 refine aIx 2 rfl Tryz.underlying185 sz3 (h:=aT 3 rfl (Zar fun D=>Zf rfl rfl lk3 rfl (hc3 _ 0 _ rfl) r4) (h:=aM 4 rfl (h:=aM 5 rfl (h:=?_))))
 obtain ⟨w,hw⟩:=Zag (xs:=xs) (i:=j) om
 obtain ⟨_,rfl,hc5⟩:=hx.elem hw
 refine aIx 6 rfl Tryz.underlying185 sz3 (h:=?_)
 rw [hi] at hz
 cases hz
 rw [hj] at hw
 cases hw
 refine aT 7 rfl (Zar fun D=>Zf rfl rfl lk3 rfl (hc5 _ 0 _ rfl) r4) (h:=Zse 8 rfl (h:=aA 9 rfl (h:=Zz kr kr ?_)))
 refine Zj (Zd ?_)
 exact eR t1 ⟨rfl,rfl,rfl⟩

theorem Ztg (b:Nat) (q:Option Addr) (cp:Nat) (xs:List Int) (l:Cells) (z:Int) (hn:xs.length≤2000000) (B:Kn) (hv:ZY B l q cp 3 1 Zcf xs):Zv (pj J) 227 [ptr ⟨b,0,none⟩,.iface 3 (.int .i64 z)] B [Zah b [.slice q xs.length cp] 186,l] (fun v B' Ls=>B'=B∧∃q' c' l',Ls=[Zah b [.slice q' (xs ++ [z]).length c'] 186,l']∧ZY B l' q' c' 3 1 Zcf (xs ++ [z])):=by
 refine cB 13 Tryz.func227 (h:=?_)
 refine Z0 (keeps _ [0] _) mo kr ⟨Kn.le.refl _,Zad.refl _ _⟩ (fun _ _=>?_)
 refine aM 0 rfl (h:=aM 1 rfl (h:=aNc 2 rfl (h:=aT 3 rfl (ZB fun D B L hI=>Zf rfl rfl ZfN rfl (atL 0 (hI.2.1.trans rfl) rfl rfl) r4) (h:=aM 4 rfl (h:=aT 5 rfl (ZB fun D B L hI=>ZlJ rfl rfl Tryz.underlying3 rfl rfl r4) (h:=Zq 6 kr rfl kr (Zu (parts:=[(0,_)]) [_] rfl rfl Tryz.underlying185 sz3 zo3 rfl rfl rfl rfl rfl (fun b1=>?_))))))))
 refine ⟨⟨Kn.le.refl _,t1⟩,(Zq 7 kr rfl kr (Zbg (z:=z) (R:=Zcf) 1 rfl hv rfl rfl rfl ZxV ZxJ rfl rfl (ZaQ.box 2 rfl) rfl rfl (rfl) om (fun l2 p2 c2 hv2=>?_)))⟩
 refine ⟨⟨Kn.le.refl _,t1⟩,(aNc 8 rfl (h:=ZU 9 kr rfl kr kr kr (ZF [_] 0 [_] rfl rfl Zwk rfl rfl rfl rfl rfl rfl rfl rfl ?_)))⟩
 exact Zas .normal (.inr rfl) [] [0,1] rfl trivial ⟨rfl,_,_,_,rfl,hv2⟩

theorem Zu1 (b:Nat) (q:Option Addr) (cp:Nat) (xs:List Int) (l:Cells) (z:Int) (hz:xs[xs.length - 1]? = some z) (hn:xs.length≤2000000) (B:Kn) (hv:ZY B l q cp 3 1 Zcf xs):Zv (pj J) 226 [ptr ⟨b,0,none⟩] B [Zah b [.slice q xs.length cp] 186,l] (fun v B' Ls=>B'=B∧v = .iface 3 (.int .i64 z)∧Ls=[Zah b [.slice q (xs.length - 1) cp] 186,l]∧ZY B l q cp 3 1 Zcf (xs.take (xs.length - 1))):=by
 refine cB 25 Tryz.func226 (h:=?_)
 have hl1:=ZbH hz
 have hcp:=hv.cap
 have hv9:=hv.take (k:=xs.length - 1) oz
 have hs0:=hv.slice0 (sz:=1)
 refine Za (xA (h:=Za (xM (h:=xNc (h:=x1 ZfN 0 (h:=xV Tryz.underlying186 (h:=Zn (ZjX (r:=((xs.length - 1:Nat):Int)) rfl rfl rfl rfl (by rw [show ((xs.length:Int) - 1)=((xs.length - 1:Nat):Int) from by omega];exact Za9 oz oz) ?_))))))))
 refine xA (h:=Za (xM (h:=xNc (h:=x1 ZfN 0 (h:=xM (h:=?_))))))
 obtain ⟨w,hw⟩:=Zag (xs:=xs) (i:=(xs.length - 1)) om
 obtain ⟨bb2,_,hp2,rfl,hw2,hc2⟩:=hv.row hw
 refine xIp hp2 Tryz.underlying185 sz3 (h:=?_)
 rw [hz] at hw
 cases hw
 refine Zn (Zf rfl rfl lk3 rfl (hc2 _ 1 rfl 0 _ rfl) (xA (h:=Za (xM (h:=xM (h:=xNc (h:=x1 ZfN 0 (h:=xM (h:=Zn (ZeK rfl rfl Tryz.underlying185 sz3 rfl (a:=0) (b:=xs.length - 1) rfl ⟨_,_,rfl,rfl⟩ oz oz ?_))))))))))
 rw [hs0]
 refine xNc (h:=xS [_] 0 [_] Zwk (h:=tL2 (Za (xM (h:=Zn (ZeL rfl rfl Tryz.underlying3 rfl rfl (xA (h:=Zd ?_))))))))
 exact eN [0,1] rfl t1 ⟨rfl,rfl,rfl,hv9⟩

theorem ZgW (q:Option Addr) (cp:Nat) (xs:List Int) (l:Cells) (i j:Nat) (a b:Int) (hi:xs[i]? = some a) (hj:xs[j]? = some b) (hn:xs.length≤2000000) (B:Kn) (hv:ZY B l q cp 3 1 Zcf xs):Zv (pj J) 228 [.slice q xs.length cp,.int .i64 i,.int .i64 j] B [l] (fun v B' Ls=>B'=B∧∃l',Ls=[l']∧ZY B l' q cp 3 1 Zcf ((xs.set i b).set j a)):=by
 refine cB 20 Tryz.func228 (h:=?_)
 have hil:=ZbH hi
 have hjl:=ZbH hj
 refine Z0 (keeps _ [0] _) mo kr ⟨Kn.le.refl _,Zad.refl _ _⟩ (fun _ _=>?_)
 refine aM 0 rfl (h:=aM 1 rfl (h:=aM 2 rfl (h:=aM 3 rfl (h:=aM 4 rfl (h:=aM 5 rfl (h:=?_))))))
 obtain ⟨y,hy⟩:=Zag (xs:=xs) (i:=j) om
 obtain ⟨bb2,_,hp2,rfl,hw2,hc2⟩:=hv.row hy
 refine aT 6 rfl (ZB fun D B L hI=>Zf1 hp2 rfl rfl Tryz.underlying185 sz3 rfl rfl om om r4) (h:=?_)
 refine aT 7 rfl (ZB fun D B L hI=>Zf rfl rfl lk3 rfl (hc2 _ 0 (hI.2.1.trans rfl) 0 _ rfl) r4) (h:=aM 8 rfl (h:=aM 9 rfl (h:=?_)))
 obtain ⟨x,hx⟩:=Zag (xs:=xs) (i:=i) om
 obtain ⟨bb4,_,hp4,rfl,hw4,hc4⟩:=hv.row hx
 refine aT 10 rfl (ZB fun D B L hI=>Zf1 hp4 rfl rfl Tryz.underlying185 sz3 rfl rfl om om r4) (h:=?_)
 refine aT 11 rfl (ZB fun D B L hI=>Zf rfl rfl lk3 rfl (hc4 _ 0 (hI.2.1.trans rfl) 0 _ rfl) r4) (h:=?_)
 obtain ⟨bb5,_,hp5,rfl,hw5,hc5⟩:=hv.row hx
 refine aT 12 rfl (ZB fun D B L hI=>Zf1 hp5 rfl rfl Tryz.underlying185 sz3 rfl rfl om om r4) (h:=?_)
 refine Za8 13 kr rfl kr kr (ZeJ (k:=i) (off:=0) (y) [_] 0 hv hp5 hx rfl rfl sz3 rfl rfl rfl rfl rfl rfl ((fun row h=>by cases h;rfl)) (fun l6 hv6=>?_))
 obtain ⟨w,hw⟩:=Zag (xs:=(xs.set i (y))) (i:=j) om
 obtain ⟨bb8,_,hp8,rfl,hw8,hc8⟩:=hv6.row hw
 refine aT 14 rfl (ZB fun D B L hI=>Zf1 hp8 rfl rfl Tryz.underlying185 sz3 rfl rfl om om r4) (h:=?_)
 refine ZU 15 kr rfl kr kr kr (ZeJ (k:=j) (off:=0) (x) [_] 0 hv6 hp8 hw rfl rfl sz3 rfl rfl rfl rfl rfl rfl ((fun row h=>by cases h;rfl)) (fun l9 hv9=>?_))
 rw [hi] at hx
 cases hx
 rw [hj] at hy
 cases hy
 exact Zas .normal (.inr rfl) [] [0] rfl trivial ⟨rfl,_,rfl,hv9⟩

theorem Ztj (b:Nat) (q:Option Addr) (cp:Nat) (xs:List Int) (l:Cells) (j:Nat) (hj:j<xs.length) (hn:xs.length≤2000000) (hh:Zgv xs j) (B:Kn) (hv:ZY B l q cp 3 1 Zcf xs):Zv (pj J) 160 [.iface 184 (ptr ⟨b,0,none⟩),.int .i64 j] B [Zah b [.slice q xs.length cp] 186,l] (fun v B' Ls=>B'=B∧∃ys l',Ls=[Zah b [.slice q ys.length cp] 186,l']∧ZY B l' q cp 3 1 Zcf ys∧ys.Perm xs∧ZdW ys):=by
 refine cB 23 Tryz.func160 (h:=?_)
 refine Zl (ZO (α:=Nat × List Int × Cells) [0] (fun g=>[(1,.int .i64 g.1)]) [0,1] (fun g=>[Zah b [.slice q g.2.1.length cp] 186,g.2.2]) (fun g Bx=>Bx=B∧g.1<g.2.1.length∧g.2.1.Perm xs∧Zgv g.2.1 g.1∧ZY B g.2.2 q cp 3 1 Zcf g.2.1) (fun g=>g.1) (j,xs,l) t1 rfl (⟨rfl,hj,.refl _,hh,hv⟩) (fun g B1 hle1 hI=>?_))
 obtain ⟨rfl,hk,hp,hb,hv⟩:=hI
 have hpl:=hp.length_eq
 refine ZM [(0,_),(1,_)] [_,_] t2 rfl (Zl (Za (xM (h:=Zn (ZjX rfl rfl rfl rfl (Za9 oz oz) ?_)))))
 refine Zn (Ziw (r:=(((g.1 - 1) / 2:Nat):Int)) rfl rfl rfl rfl oz (by rw [show Int.tdiv ((g.1:Int) - 1) 2=(((g.1 - 1) / 2:Nat):Int) from ZxA g.1];exact Za9 oz oz) ?_)
 refine xA (h:=Zg (Za (xM (h:=xM (h:=ZE (h:=xM (h:=Zo (d:=11) rfl (fun g1=>?_) (fun g1=>?_))))))))
 try simp only [sQ,ne_eq] at g1
 refine xP (h:=xP (h:=xP (h:=xP (h:=xP (h:=xT (h:=Zb (t:=true) rfl (fun _=>ZS (Zae (ZfF rfl (ZX (ZI ?_))))) (fun h=>Bool.noConfusion h)))))))
 exact Zas .normal (.inr rfl) [] [0,1] rfl trivial ⟨rfl,_,_,rfl,hv,hp,Zus (by rw [show g.1=0 from by omega] at hb;exact hb)⟩
 try simp only [sQ,ne_eq] at g1
 refine xM (h:=xM (h:=xM (h:=Zn (Zf2 1 rfl rfl rfl ZrN rfl rfl (ZbI Zew Tryz.underlying184 ZfN (atL 0 rfl rfl rfl)) (ZaM.borrow fun hm2=>ZgX _ _ _ _ _ _ _ (Zbh oz) (Zbh oz) _ (hv.lend Zcf.mono hm2 om)) ?_))))
 refine xN (h:=xF (h:=Zb rfl (fun g2=>?_) (fun g2=>?_)))
 try simp only [sQ,ne_eq] at g2
 refine ZS (Zae (ZfF rfl (ZX (ZI ?_))))
 exact Zas .normal (.inr rfl) [] [0,1] rfl trivial ⟨rfl,_,_,rfl,hv,hp,Zuu hb (by simpa using g2)⟩
 try simp only [sQ,ne_eq] at g2
 refine wSk (Za (xM (h:=xM (h:=xM (h:=Zn (ZhI [1] rfl rfl rfl rfl ZrM rfl rfl (ZbI Zev Tryz.underlying184 ZfN (atL 0 rfl rfl rfl)) (ZgW _ _ _ _ _ _ _ _ (Zbh oz) (Zbh oz) oz _ hv) ?_))))))
 rintro _ B3 _ hle3 ⟨rfl,l3,rfl,hv3⟩
 refine tL2 (Zc (xM (h:=xA (h:=ZA ?_))))
 rw [← ZdK g.2.1 ((g.1 - 1) / 2) g.1]
 exact ZD ((g.1 - 1) / 2,(swp g.2.1 ((g.1 - 1) / 2) g.1),l3) [0,1] (so) ⟨rfl,by have:=ZdK g.2.1 ((g.1 - 1) / 2) g.1;simp only [];omega,(ZgE oz oz).trans hp,Zut oz oz hb (by simpa using g2),hv3⟩ t2 rfl

theorem ZpG (b:Nat) (q:Option Addr) (cp:Nat) (xs:List Int) (l:Cells) (z:Int) (hn:xs.length<2000000) (hh:ZdW xs) (B:Kn) (hv:ZY B l q cp 3 1 Zcf xs):Zv (pj J) 122 [.iface 184 (ptr ⟨b,0,none⟩),.iface 3 (.int .i64 z)] B [Zah b [.slice q xs.length cp] 186,l] (fun v B' Ls=>B'=B∧∃q' c' ys l',Ls=[Zah b [.slice q' ys.length c'] 186,l']∧ZY B l' q' c' 3 1 Zcf ys∧ys.Perm (xs ++ [z])∧ZdW ys):=by
 refine cB 12 Tryz.func122 (h:=?_)
 refine Za (xM (h:=xM (h:=Zn (ZhI [0,1] rfl rfl rfl rfl Zx3 rfl rfl (ZmB Zpj Tryz.underlying184) (Ztg _ _ _ _ _ _ oz _ hv) ?_))))
 rintro _ B1 _ hle1 ⟨rfl,q1,c1,l1,rfl,hv1⟩
 refine tL2 (Zc (xM (h:=xM (h:=Zn (Zf2 1 rfl rfl rfl ZwO rfl rfl (ZbI Zme Tryz.underlying184 ZfN (atL 0 rfl rfl rfl)) (ZaM.borrow fun hm2=>Zrk _ _ _ _) (Zn (ZjX (r:=((xs.length:Nat):Int)) rfl rfl rfl rfl ((congrArg _ (show _=((xs.length:Nat):Int) from by rw [List.length_append,List.length_singleton];omega)).trans (Za9 oz oz)) ?_)))))))
 refine xK [0,1] rfl Zyo rfl (Ztj _ _ _ _ _ _ (by simp) (by simp;omega) (ZsK hh) _ hv1) (h:=?_)
 rintro _ Bu _ hleu ⟨rfl,ysu,lu,rfl,hvu,hpu,hhu⟩
 exact Zas .normal (.inr rfl) [] [0,1] rfl trivial ⟨rfl,_,_,_,_,rfl,hvu,hpu,hhu⟩

end Go.Proofs.YtikanaeckjcelaaGreatDoor
