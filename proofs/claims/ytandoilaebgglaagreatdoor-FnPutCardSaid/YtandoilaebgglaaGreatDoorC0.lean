/-
  WHAT THE FUNCTIONS THAT THE LAWS REACH COMPUTE: each function's contract, proved off its printed body (the text is written by program). No condition beyond those that each theorem states.
-/
import Derived.Test.YtandoilaebgglaaGreatDoorRows
import Derived.Test.YtandoilaebgglaaGreatDoorL0
import Derived.KernelRfl
namespace Go.Proofs.YtandoilaebgglaaGreatDoor
open Go Go.BL
set_option linter.unusedVariables false
set_option linter.unusedSimpArgs false
noncomputable abbrev pj (J : JoinT) : PJ := ⟨Tryz.prog, J⟩
noncomputable abbrev wgL : Go.Conc.Lib.WgLink := { add := 97, done := 99, wait := 101, relMerge := 130, disable := 131, enable := 132, inBubble := 133, associate := 134, fatal := 135, uOr := 136, uAdd := 137, raceRead := 138, uLoad := 139, uStore := 140, disassociate := 141, semrelease := 142, acquire := 143, isAssociated := 144, uCas := 145, raceWrite := 146, semacquire := 147, orU64 := 169, addU64 := 170, loadU64 := 171, storeU64 := 172, casU64 := 173, tWg := 151, tUP := 178, tAssoc := 179, tAU := 148, tU64 := 146, tUint := 183, tU32 := 149, tNoCopy := 143, tANoCopy := 144, tAlign64 := 145, tWgP := 176, tPU32 := 184, tPAU := 218, tPU64 := 220 }
theorem ZmP : Go.Conc.Lib.WgLib Tryz.prog wgL :=
  ⟨Tryz.func97, Tryz.func99, Tryz.func101, Tryz.func130, Tryz.func131, Tryz.func132, Tryz.func133, Tryz.func134, Tryz.func135, Tryz.func136, Tryz.func137, Tryz.func138, Tryz.func139, Tryz.func140, Tryz.func141, Tryz.func142, Tryz.func143, Tryz.func144, Tryz.func145, Tryz.func146, Tryz.func147, Tryz.func169, Tryz.func170, Tryz.func171, Tryz.func172, Tryz.func173, Tryz.underlying176, Tryz.runUnderlying176, Tryz.sizeOf176, Tryz.isAgg176, Tryz.zeroValue176, Tryz.underlying178, Tryz.runUnderlying178, Tryz.sizeOf178, Tryz.isAgg178, Tryz.zeroValue178, Tryz.underlying179, Tryz.runUnderlying179, Tryz.sizeOf179, Tryz.isAgg179, Tryz.zeroValue179, Tryz.underlying151, Tryz.runUnderlying151, Tryz.sizeOf151, Tryz.isAgg151, Tryz.zeroValue151, Tryz.underlying148, Tryz.runUnderlying148, Tryz.sizeOf148, Tryz.isAgg148, Tryz.zeroValue148, Tryz.underlying146, Tryz.runUnderlying146, Tryz.sizeOf146, Tryz.isAgg146, Tryz.zeroValue146, Tryz.underlying183, Tryz.runUnderlying183, Tryz.sizeOf183, Tryz.isAgg183, Tryz.zeroValue183, Tryz.underlying149, Tryz.runUnderlying149, Tryz.sizeOf149, Tryz.isAgg149, Tryz.zeroValue149, Tryz.underlying184, Tryz.runUnderlying184, Tryz.sizeOf184, Tryz.isAgg184, Tryz.zeroValue184, Tryz.underlying218, Tryz.runUnderlying218, Tryz.sizeOf218, Tryz.isAgg218, Tryz.zeroValue218, Tryz.underlying220, Tryz.runUnderlying220, Tryz.sizeOf220, Tryz.isAgg220, Tryz.zeroValue220, Tryz.underlying0, Tryz.runUnderlying0, Tryz.sizeOf0, Tryz.isAgg0, Tryz.zeroValue0, Tryz.underlying3, Tryz.runUnderlying3, Tryz.sizeOf3, Tryz.isAgg3, Tryz.zeroValue3, Tryz.underlying4, Tryz.runUnderlying4, Tryz.sizeOf4, Tryz.isAgg4, Tryz.zeroValue4, Tryz.underlying9, Tryz.runUnderlying9, Tryz.sizeOf9, Tryz.isAgg9, Tryz.zeroValue9, Tryz.underlying20, Tryz.runUnderlying20, Tryz.sizeOf20, Tryz.isAgg20, Tryz.zeroValue20, Tryz.underlying21, Tryz.runUnderlying21, Tryz.sizeOf21, Tryz.isAgg21, Tryz.zeroValue21, (by kernel_rfl), (by kernel_rfl)⟩
theorem Zko : enters Tryz.prog 81 = true := by kernel_rfl
theorem mo : Tryz.prog.follows .mixedOrders = true := by kernel_rfl
theorem Zcp : ZP Tryz.prog 134 1 = some 1 := by kernel_rfl
theorem lk3 : lk Tryz.prog 3 = some none := by kernel_rfl
theorem Zg0 : ZP Tryz.prog 134 0 = some 0 := by kernel_rfl
theorem lk9 : lk Tryz.prog 9 = some none := by kernel_rfl
theorem Zxn : enters Tryz.prog 93 = true := by kernel_rfl
theorem sz3 : Z8 Tryz.prog 3 = some 1 := by kernel_rfl
theorem ZyK : enters Tryz.prog 149 = true := by kernel_rfl
theorem ZvB : enters Tryz.prog 104 = true := by kernel_rfl
theorem ZyQ : enters Tryz.prog 125 = true := by kernel_rfl
theorem Zwx : ZaX Tryz.prog 134 = some [(0, 1), (1, 1)] := by kernel_rfl
theorem Zsj : Zaw Tryz.prog 134 = some (.agg #[.string ⟨#[]⟩, .int .i64 0]) := by kernel_rfl
theorem Zwq : Z8 Tryz.prog 134 = some 2 := by kernel_rfl
theorem sz5 : Z8 Tryz.prog 5 = some 1 := by kernel_rfl
theorem Zwz : ZaX Tryz.prog 107 = some [(0, 1), (1, 1)] := by kernel_rfl
theorem ZvX : Zaw Tryz.prog 107 = some (.agg #[.slice none 0 0, .int .i64 0]) := by kernel_rfl
theorem ZnD : ZP Tryz.prog 107 1 = some 1 := by kernel_rfl
theorem Zfg : ZP Tryz.prog 107 0 = some 0 := by kernel_rfl
theorem Zt9 : lk Tryz.prog 22 = some none := by kernel_rfl
theorem lk5 : lk Tryz.prog 5 = some none := by kernel_rfl
theorem Za4 : enters Tryz.prog 25 = true := by kernel_rfl
theorem sz9 : Z8 Tryz.prog 9 = some 1 := by kernel_rfl
theorem zo9 : Zaw Tryz.prog 9 = some (.string ⟨#[]⟩) := by kernel_rfl
theorem ZoB : enters Tryz.prog 68 = true := by kernel_rfl
theorem Zg4 : ZcK Tryz.prog 109 9 1 16 = true := by kernel_rfl
theorem ZgL : (match Program.underlying Tryz.prog 109 with | some (.slice _) => true | _ => false) = true := by kernel_rfl
theorem ZyT : enters Tryz.prog 116 = true := by kernel_rfl
theorem Zk7 : enters Tryz.prog 117 = true := by kernel_rfl
theorem ZeW : Z8 Tryz.prog 50 = some 3 := by kernel_rfl
theorem Zdm : ZP Tryz.prog 50 0 = some 0 := by kernel_rfl
theorem ZwX : enters Tryz.prog 186 = true := by kernel_rfl
theorem Zja : ZP Tryz.prog 139 0 = some 0 := by kernel_rfl
theorem Zi9 : ZP Tryz.prog 139 1 = some 1 := by kernel_rfl
theorem ZcX : lk Tryz.prog 109 = some none := by kernel_rfl
theorem ZyF : enters Tryz.prog 162 = true := by kernel_rfl
theorem ZnC : ZP Tryz.prog 139 2 = some 2 := by kernel_rfl
theorem Zyq : enters Tryz.prog 187 = true := by kernel_rfl
theorem Zuc : enters Tryz.prog 64 = true := by kernel_rfl
theorem ZyD : enters Tryz.prog 165 = true := by kernel_rfl
theorem ZyP : enters Tryz.prog 126 = true := by kernel_rfl
theorem Zd6 : ZP Tryz.prog 27 0 = some 0 := by kernel_rfl
theorem Zar : ZP Tryz.prog 27 1 = some 1 := by kernel_rfl
theorem Zey : lk Tryz.prog 25 = some none := by kernel_rfl
theorem Zbg : Z8 Tryz.prog 117 = some 4 := by kernel_rfl
theorem ZdF : lk Tryz.prog 117 = some (some 4) := by kernel_rfl
theorem ZcM : Zaw Tryz.prog 117 = some (.agg #[.int .i64 0, .string ⟨#[]⟩, .string ⟨#[]⟩, .slice none 0 0]) := by kernel_rfl
theorem ZcZ : ZP Tryz.prog 117 0 = some 0 := by kernel_rfl
theorem Zg1 : ZP Tryz.prog 117 1 = some 1 := by kernel_rfl
theorem Zjd : ZP Tryz.prog 117 2 = some 2 := by kernel_rfl
theorem ZaG : ZP Tryz.prog 117 3 = some 3 := by kernel_rfl
theorem ZzT : enters Tryz.prog 86 = true := by kernel_rfl
theorem ZsI : ZaX Tryz.prog 139 = some [(0, 1), (1, 1), (2, 1)] := by kernel_rfl
theorem ZoL : Zaw Tryz.prog 139 = some (.agg #[.string ⟨#[]⟩, .slice none 0 0, .string ⟨#[]⟩]) := by kernel_rfl
theorem ZvA : enters Tryz.prog 118 = true := by kernel_rfl
theorem Zz0 : enters Tryz.prog 69 = true := by kernel_rfl
theorem ZhC : Zaw Tryz.prog 27 = some (.agg #[.int .i64 0, .slice none 0 0]) := by kernel_rfl
theorem Zt6 : ZaX Tryz.prog 27 = some [(0, 1), (1, 1)] := by kernel_rfl
theorem ZfA : Z8 Tryz.prog 27 = some 2 := by kernel_rfl
theorem ZoS : Z8 Tryz.prog 109 = some 1 := by kernel_rfl
theorem ZvS : ZcK Tryz.prog 25 117 4 64 = true := by kernel_rfl
theorem ZvP : (match Program.underlying Tryz.prog 25 with | some (.slice _) => true | _ => false) = true := by kernel_rfl
theorem ZvO : Z8 Tryz.prog 25 = some 1 := by kernel_rfl
theorem ZdP : lk Tryz.prog 27 = some (some 2) := by kernel_rfl
theorem Zyb : enters Tryz.prog 76 = true := by kernel_rfl
theorem Zni : lk Tryz.prog 139 = some (some 3) := by kernel_rfl
theorem Zkn : enters Tryz.prog 83 = true := by kernel_rfl
theorem Zx0 : ZaX Tryz.prog 117 = some [(0, 1), (1, 1), (2, 1), (3, 1)] := by kernel_rfl
theorem Zyp : enters Tryz.prog 188 = true := by kernel_rfl
theorem ZwY : enters Tryz.prog 176 = true := by kernel_rfl
theorem ZyA : enters Tryz.prog 175 = true := by kernel_rfl
theorem Zvr : enters Tryz.prog 28 = true := by kernel_rfl
theorem Zuy : Z8 Tryz.prog 139 = some 3 := by kernel_rfl
theorem Ztp : enters Tryz.prog 67 = true := by kernel_rfl
theorem Zw2 : enters Tryz.prog 154 = true := by kernel_rfl
theorem Ztq : enters Tryz.prog 153 = true := by kernel_rfl
theorem Zw1 : enters Tryz.prog 155 = true := by kernel_rfl
theorem zo3 : Zaw Tryz.prog 3 = some (.int .i64 0) := by kernel_rfl
theorem Zxw : Zaw Tryz.prog 203 = some (.pointer none) := by kernel_rfl
theorem Zys : enters Tryz.prog 184 = true := by kernel_rfl
theorem Zyo : enters Tryz.prog 193 = true := by kernel_rfl
theorem ZuS : lk Tryz.prog 203 = some none := by kernel_rfl
theorem Zyr : enters Tryz.prog 185 = true := by kernel_rfl
theorem ZxV : ZaX Tryz.prog 239 = some [(0, 4), (4, 1)] := by kernel_rfl
theorem Zxv : Zaw Tryz.prog 239 = some (.agg #[.int .i64 0, .string ⟨#[]⟩, .string ⟨#[]⟩, .slice none 0 0, .pointer none]) := by kernel_rfl
theorem ZxR : Z8 Tryz.prog 203 = some 1 := by kernel_rfl
theorem Zva : ZP Tryz.prog 239 0 = some 0 := by kernel_rfl
theorem Zu9 : ZP Tryz.prog 239 1 = some 4 := by kernel_rfl
theorem ZyH : enters Tryz.prog 159 = true := by kernel_rfl
theorem ZyI : enters Tryz.prog 158 = true := by kernel_rfl
theorem ZfB : lk Tryz.prog 173 = some none := by kernel_rfl
theorem Zx9 : ZcK Tryz.prog 173 3 1 8 = true := by kernel_rfl
theorem ZxT : (match Program.underlying Tryz.prog 173 with | some (.slice _) => true | _ => false) = true := by kernel_rfl
theorem Zwo : Z8 Tryz.prog 173 = some 1 := by kernel_rfl
theorem Zep : ZkP Tryz.prog 172 "Less" 217 false = true := by kernel_rfl
theorem ZrI : enters Tryz.prog 217 = true := by kernel_rfl
theorem Zeo : ZkP Tryz.prog 172 "Swap" 220 false = true := by kernel_rfl
theorem ZrH : enters Tryz.prog 220 = true := by kernel_rfl
theorem Zpc : ZkP Tryz.prog 172 "Push" 219 true = true := by kernel_rfl
theorem Zyi : enters Tryz.prog 219 = true := by kernel_rfl
theorem ZlX : ZkP Tryz.prog 172 "Len" 216 false = true := by kernel_rfl
theorem ZwW : enters Tryz.prog 216 = true := by kernel_rfl
theorem ZyC : enters Tryz.prog 166 = true := by kernel_rfl
theorem ZyB : enters Tryz.prog 167 = true := by kernel_rfl
theorem ZqV : ZkP Tryz.prog 172 "Pop" 218 true = true := by kernel_rfl
theorem Zyj : enters Tryz.prog 218 = true := by kernel_rfl
theorem ZyO : enters Tryz.prog 127 = true := by kernel_rfl
theorem ZyN : enters Tryz.prog 128 = true := by kernel_rfl
theorem ZzM : enters Tryz.prog 94 = true := by kernel_rfl
theorem ZzL : enters Tryz.prog 95 = true := by kernel_rfl
theorem Zhw : ZP Tryz.prog 89 0 = some 0 := by kernel_rfl
theorem Zi5 : ZP Tryz.prog 89 1 = some 1 := by kernel_rfl
theorem ZwV : enters Tryz.prog 35 = true := by kernel_rfl
theorem Zmm : ZP Tryz.prog 89 2 = some 2 := by kernel_rfl
theorem Zyg : enters Tryz.prog 30 = true := by kernel_rfl
theorem ZaL : ZP Tryz.prog 38 1 = some 1 := by kernel_rfl
theorem Zfs : lk Tryz.prog 36 = some none := by kernel_rfl
theorem Zgc : Z8 Tryz.prog 89 = some 3 := by kernel_rfl
theorem Zpg : lk Tryz.prog 89 = some (some 3) := by kernel_rfl
theorem ZyE : enters Tryz.prog 163 = true := by kernel_rfl
theorem ZbW : ZP Tryz.prog 38 0 = some 0 := by kernel_rfl
theorem Zlk : Zaw Tryz.prog 89 = some (.agg #[.int .i64 0, .int .i64 0, .string ⟨#[]⟩]) := by kernel_rfl
theorem ZzQ : enters Tryz.prog 89 = true := by kernel_rfl
theorem Zbp : lk Tryz.prog 38 = some (some 2) := by kernel_rfl
theorem Zye : enters Tryz.prog 45 = true := by kernel_rfl
theorem Zrr : ZP Tryz.prog 50 1 = some 1 := by kernel_rfl
theorem Zi6 : ZP Tryz.prog 50 2 = some 2 := by kernel_rfl
theorem Zon : lk Tryz.prog 50 = some (some 3) := by kernel_rfl
theorem ZgH : Zaw Tryz.prog 50 = some (.agg #[.string ⟨#[]⟩, .string ⟨#[]⟩, .int .i64 0]) := by kernel_rfl
theorem ZzP : enters Tryz.prog 90 = true := by kernel_rfl
theorem Zzn : enters Tryz.prog 52 = true := by kernel_rfl
theorem ZsH : ZaX Tryz.prog 50 = some [(0, 1), (1, 1), (2, 1)] := by kernel_rfl
theorem ZAa : enters Tryz.prog 53 = true := by kernel_rfl
theorem Zz9 : enters Tryz.prog 54 = true := by kernel_rfl
theorem ZbX : ZP Tryz.prog 29 1 = some 1 := by kernel_rfl
theorem ZjC : lk Tryz.prog 23 = some none := by kernel_rfl
theorem Zzw : enters Tryz.prog 17 = true := by kernel_rfl
theorem ZX : ZP Tryz.prog 29 2 = some 2 := by kernel_rfl
theorem Zck : lk Tryz.prog 24 = some none := by kernel_rfl
theorem Zba : Z8 Tryz.prog 40 = some 5 := by kernel_rfl
theorem Zb5 : ZP Tryz.prog 40 0 = some 0 := by kernel_rfl
theorem Zd5 : ZP Tryz.prog 40 1 = some 1 := by kernel_rfl
theorem Ze9 : lk Tryz.prog 40 = some (some 5) := by kernel_rfl
theorem ZzS : enters Tryz.prog 87 = true := by kernel_rfl
theorem ZzR : enters Tryz.prog 88 = true := by kernel_rfl
theorem Zcg : ZP Tryz.prog 29 3 = some 3 := by kernel_rfl
theorem Zxo : enters Tryz.prog 55 = true := by kernel_rfl
theorem ZeV : Z8 Tryz.prog 93 = some 2 := by kernel_rfl
theorem Zeu : ZP Tryz.prog 93 0 = some 0 := by kernel_rfl
theorem Zkj : ZP Tryz.prog 93 1 = some 1 := by kernel_rfl
theorem Zub : enters Tryz.prog 79 = true := by kernel_rfl
theorem Zby : ZP Tryz.prog 40 3 = some 3 := by kernel_rfl
theorem ZyS : enters Tryz.prog 122 = true := by kernel_rfl
theorem Zdh : Zaw Tryz.prog 40 = some (.agg #[.string ⟨#[]⟩, .string ⟨#[]⟩, .slice none 0 0, .int .i64 0, .slice none 0 0]) := by kernel_rfl
theorem ZcN : ZP Tryz.prog 40 2 = some 2 := by kernel_rfl
theorem Zph : lk Tryz.prog 35 = some none := by kernel_rfl
theorem Ztt : enters Tryz.prog 119 = true := by kernel_rfl
theorem Zts : enters Tryz.prog 120 = true := by kernel_rfl
theorem Zw3 : enters Tryz.prog 121 = true := by kernel_rfl
theorem Zi7 : ZP Tryz.prog 29 0 = some 0 := by kernel_rfl
theorem ZzX : enters Tryz.prog 74 = true := by kernel_rfl
theorem ZzW : enters Tryz.prog 75 = true := by kernel_rfl
theorem ZY : lk Tryz.prog 29 = some (some 5) := by kernel_rfl
theorem ZzV : enters Tryz.prog 77 = true := by kernel_rfl
theorem Zvq : enters Tryz.prog 36 = true := by kernel_rfl
theorem Zzi : enters Tryz.prog 78 = true := by kernel_rfl
theorem Zzh : enters Tryz.prog 80 = true := by kernel_rfl
theorem ZvQ : lk Tryz.prog 93 = some (some 2) := by kernel_rfl
theorem ZjA : Zaw Tryz.prog 93 = some (.agg #[.string ⟨#[]⟩, .int .i64 0]) := by kernel_rfl
theorem Zy4 : enters Tryz.prog 103 = true := by kernel_rfl
theorem Zzm : enters Tryz.prog 63 = true := by kernel_rfl
theorem ZwN : Extern.findNext Tryz.f168 = none := by kernel_rfl
theorem ZwO : Extern.find Tryz.f168 = some Extern.BytealgCompare.compare := by kernel_rfl
theorem ZyM : enters Tryz.prog 129 = true := by kernel_rfl
theorem Zze : enters Tryz.prog 96 = true := by kernel_rfl
theorem ZzO : enters Tryz.prog 91 = true := by kernel_rfl
theorem Zz8 : enters Tryz.prog 56 = true := by kernel_rfl
theorem Zyf : enters Tryz.prog 43 = true := by kernel_rfl
theorem Zzj : enters Tryz.prog 73 = true := by kernel_rfl
theorem sz4 : Z8 Tryz.prog 4 = some 1 := by kernel_rfl
theorem lk4 : lk Tryz.prog 4 = some none := by kernel_rfl
theorem ZyL : enters Tryz.prog 148 = true := by kernel_rfl
theorem ZzN : enters Tryz.prog 92 = true := by kernel_rfl
theorem ZwF : lk Tryz.prog 141 = some none := by kernel_rfl
theorem Zx4 : lk Tryz.prog 67 = some none := by kernel_rfl
theorem Zy7 : enters Tryz.prog 100 = true := by kernel_rfl
theorem Zxx : Zaw Tryz.prog 151 = some (.agg #[.int .u64 0, .int .u32 0]) := by kernel_rfl
theorem Zya : ZcK Tryz.prog 141 4 1 1 = true := by kernel_rfl
theorem zo4 : Zaw Tryz.prog 4 = some (.bool false) := by kernel_rfl
theorem Zxy : Zaw Tryz.prog 141 = some (.slice none 0 0) := by kernel_rfl
theorem ZxS : Z8 Tryz.prog 141 = some 1 := by kernel_rfl
theorem ZzK : enters Tryz.prog 97 = true := by kernel_rfl
theorem Zy6 : enters Tryz.prog 101 = true := by kernel_rfl
theorem Zy5 : enters Tryz.prog 102 = true := by kernel_rfl
theorem Zz7 : enters Tryz.prog 57 = true := by kernel_rfl
theorem Zz6 : enters Tryz.prog 58 = true := by kernel_rfl
theorem Zz5 : enters Tryz.prog 59 = true := by kernel_rfl
theorem Zz4 : enters Tryz.prog 60 = true := by kernel_rfl
theorem Zz3 : enters Tryz.prog 61 = true := by kernel_rfl
theorem Zz2 : enters Tryz.prog 62 = true := by kernel_rfl
theorem Zzv : enters Tryz.prog 19 = true := by kernel_rfl
theorem ZwM : Zhy Tryz.prog 50 [(0, 9), (1, 9), (2, 3)] = true := by kernel_rfl
theorem ZwK : Zhy Tryz.prog 93 [(0, 9), (1, 3)] = true := by kernel_rfl
theorem ZwL : Zhy Tryz.prog 89 [(0, 3), (1, 3), (2, 9)] = true := by kernel_rfl
theorem ZAb : enters Tryz.prog 50 = true := by kernel_rfl
theorem Zzx : enters Tryz.prog 15 = true := by kernel_rfl
theorem Zzy : enters Tryz.prog 14 = true := by kernel_rfl
theorem Zyc : enters Tryz.prog 51 = true := by kernel_rfl
theorem ZAg : enters Tryz.prog 40 = true := by kernel_rfl
theorem ZAf : enters Tryz.prog 41 = true := by kernel_rfl
theorem ZAe : enters Tryz.prog 42 = true := by kernel_rfl
theorem Zoz : ZcK Tryz.prog 23 50 3 40 = true := by kernel_rfl
theorem Zn5 : (match Program.underlying Tryz.prog 23 with | some (.slice _) => true | _ => false) = true := by kernel_rfl
theorem ZeS : Zaw Tryz.prog 38 = some (.agg #[.int .i64 0, .slice none 0 0]) := by kernel_rfl
theorem ZvR : ZcK Tryz.prog 36 89 3 32 = true := by kernel_rfl
theorem Zwr : (match Program.underlying Tryz.prog 36 with | some (.slice _) => true | _ => false) = true := by kernel_rfl
theorem Znc : ZaX Tryz.prog 38 = some [(0, 1), (1, 1)] := by kernel_rfl
theorem Zcx : Z8 Tryz.prog 38 = some 2 := by kernel_rfl
theorem ZrF : ZcK Tryz.prog 35 93 2 24 = true := by kernel_rfl
theorem Zqr : (match Program.underlying Tryz.prog 35 with | some (.slice _) => true | _ => false) = true := by kernel_rfl
theorem Zwm : Z8 Tryz.prog 35 = some 1 := by kernel_rfl
theorem Zyd : enters Tryz.prog 46 = true := by kernel_rfl
theorem Zww : ZaX Tryz.prog 40 = some [(0, 1), (1, 1), (2, 1), (3, 2)] := by kernel_rfl
theorem Zzp : enters Tryz.prog 44 = true := by kernel_rfl
theorem Za1 : Zaw Tryz.prog 29 = some (.agg #[.string ⟨#[]⟩, .slice none 0 0, .slice none 0 0, .int .i64 0, .slice none 0 0]) := by kernel_rfl
theorem Zd0 : ZaX Tryz.prog 29 = some [(0, 1), (1, 1), (2, 1), (3, 2)] := by kernel_rfl
theorem Zaq : Z8 Tryz.prog 29 = some 5 := by kernel_rfl
theorem Zjj : ZcK Tryz.prog 24 40 5 88 = true := by kernel_rfl
theorem ZjB : (match Program.underlying Tryz.prog 24 with | some (.slice _) => true | _ => false) = true := by kernel_rfl
theorem Zsg : Z8 Tryz.prog 24 = some 1 := by kernel_rfl
theorem Zsh : enters Tryz.prog 34 = true := by kernel_rfl
theorem Zvx : enters Tryz.prog 164 = true := by kernel_rfl
theorem ZyR : enters Tryz.prog 123 = true := by kernel_rfl
theorem Zzg : enters Tryz.prog 82 = true := by kernel_rfl
theorem ZxP : Z8 Tryz.prog 36 = some 1 := by kernel_rfl
theorem Zvz : enters Tryz.prog 124 = true := by kernel_rfl
theorem ZzU : enters Tryz.prog 84 = true := by kernel_rfl
theorem Zzc : ZaX Tryz.prog 89 = some [(0, 1), (1, 1), (2, 1)] := by kernel_rfl
theorem ZoC : enters Tryz.prog 38 = true := by kernel_rfl
theorem Zzf : enters Tryz.prog 85 = true := by kernel_rfl
theorem ZwU : enters Tryz.prog 37 = true := by kernel_rfl
theorem Zxp : enters Tryz.prog 39 = true := by kernel_rfl
theorem ZwZ : enters Tryz.prog 174 = true := by kernel_rfl
theorem ZxU : ZaX Tryz.prog 93 = some [(0, 1), (1, 1)] := by kernel_rfl
theorem Zvy : enters Tryz.prog 150 = true := by kernel_rfl
theorem Zvs : enters Tryz.prog 197 = true := by kernel_rfl
theorem Zyn : enters Tryz.prog 194 = true := by kernel_rfl
theorem Zym : enters Tryz.prog 195 = true := by kernel_rfl
theorem ZwT : ZcK Tryz.prog 110 3 1 8 = true := by kernel_rfl
theorem Zws : (match Program.underlying Tryz.prog 110 with | some (.slice _) => true | _ => false) = true := by kernel_rfl
theorem Zqp : Z8 Tryz.prog 228 = some 2 := by kernel_rfl
theorem Zrt : ZP Tryz.prog 228 0 = some 0 := by kernel_rfl
theorem Zrs : ZP Tryz.prog 228 1 = some 1 := by kernel_rfl
theorem Zvw : enters Tryz.prog 189 = true := by kernel_rfl
theorem Zyk : enters Tryz.prog 198 = true := by kernel_rfl
theorem Zvc : ZP Tryz.prog 226 1 = some 1 := by kernel_rfl
theorem Zvb : ZP Tryz.prog 226 2 = some 2 := by kernel_rfl
theorem ZnA : ZP Tryz.prog 226 0 = some 0 := by kernel_rfl
theorem Zyl : enters Tryz.prog 196 = true := by kernel_rfl
theorem Zpi : lk Tryz.prog 226 = some (some 3) := by kernel_rfl
theorem Zvv : enters Tryz.prog 190 = true := by kernel_rfl
theorem Zvt : enters Tryz.prog 192 = true := by kernel_rfl
theorem Zvu : enters Tryz.prog 191 = true := by kernel_rfl
theorem Zk6 : enters Tryz.prog 152 = true := by kernel_rfl
theorem Zf4 : ZP Tryz.prog 163 1 = some 1 := by kernel_rfl
theorem Zk4 : ZP Tryz.prog 163 2 = some 2 := by kernel_rfl
theorem Zi8 : ZP Tryz.prog 163 3 = some 3 := by kernel_rfl
theorem ZxX : ZaX Tryz.prog 226 = some [(0, 1), (1, 1), (2, 1)] := by kernel_rfl
theorem ZvV : Zaw Tryz.prog 226 = some (.agg #[.string ⟨#[]⟩, .string ⟨#[]⟩, .string ⟨#[]⟩]) := by kernel_rfl
theorem ZxQ : Z8 Tryz.prog 226 = some 3 := by kernel_rfl
theorem Zbv : ZP Tryz.prog 163 6 = some 6 := by kernel_rfl
theorem ZxW : ZaX Tryz.prog 228 = some [(0, 1), (1, 1)] := by kernel_rfl
theorem ZvU : Zaw Tryz.prog 228 = some (.agg #[.int .i64 0, .int .i64 0]) := by kernel_rfl
theorem Zb8 : ZP Tryz.prog 163 0 = some 0 := by kernel_rfl
theorem Zyz : enters Tryz.prog 177 = true := by kernel_rfl
theorem Zee : ZP Tryz.prog 163 4 = some 4 := by kernel_rfl
theorem Zyy : enters Tryz.prog 178 = true := by kernel_rfl
theorem Zru : ZP Tryz.prog 163 5 = some 5 := by kernel_rfl
theorem Zy8 : enters Tryz.prog 10 = true := by kernel_rfl
theorem Zyx : enters Tryz.prog 179 = true := by kernel_rfl
theorem Zyw : enters Tryz.prog 180 = true := by kernel_rfl
theorem ZnB : ZP Tryz.prog 163 7 = some 7 := by kernel_rfl
theorem Zyv : enters Tryz.prog 181 = true := by kernel_rfl
theorem Zyu : enters Tryz.prog 182 = true := by kernel_rfl
theorem Zyt : enters Tryz.prog 183 = true := by kernel_rfl
theorem ZuT : lk Tryz.prog 163 = some (some 8) := by kernel_rfl
theorem ZyJ : enters Tryz.prog 156 = true := by kernel_rfl
theorem Zyh : enters Tryz.prog 26 = true := by kernel_rfl
theorem Zuk : Zaw Tryz.prog 163 = some (.agg #[.int .i64 0, .string ⟨#[]⟩, .string ⟨#[]⟩, .string ⟨#[]⟩, .string ⟨#[]⟩, .string ⟨#[]⟩, .int .i64 0, .int .i64 0]) := by kernel_rfl
theorem ZxY : ZaX Tryz.prog 163 = some [(0, 1), (1, 1), (2, 1), (3, 1), (4, 1), (5, 1), (6, 1), (7, 1)] := by kernel_rfl
theorem Zwp : Z8 Tryz.prog 163 = some 8 := by kernel_rfl
theorem Zw0 : enters Tryz.prog 157 = true := by kernel_rfl
theorem Ztr : enters Tryz.prog 151 = true := by kernel_rfl
theorem ZyY : enters Tryz.prog 110 = true := by kernel_rfl
theorem ZyW : enters Tryz.prog 112 = true := by kernel_rfl
theorem ZyX : enters Tryz.prog 111 = true := by kernel_rfl
theorem Zzl : enters Tryz.prog 66 = true := by kernel_rfl
theorem Zy3 : enters Tryz.prog 105 = true := by kernel_rfl
theorem Zy2 : enters Tryz.prog 106 = true := by kernel_rfl
theorem ZzD : Z8 Tryz.prog 23 = some 1 := by kernel_rfl
theorem Zy1 : enters Tryz.prog 107 = true := by kernel_rfl
theorem Zy0 : enters Tryz.prog 108 = true := by kernel_rfl
theorem ZyZ : enters Tryz.prog 109 = true := by kernel_rfl
theorem Zz1 : enters Tryz.prog 65 = true := by kernel_rfl
theorem Zzu : enters Tryz.prog 20 = true := by kernel_rfl
theorem ZzA : (Tryz.prog.info? 267).map (·.comparable) = some true := by kernel_rfl
theorem Zwn : Z8 Tryz.prog 292 = some 1 := by kernel_rfl
theorem Zxu : Zaw Tryz.prog 247 = some (.nilIface) := by kernel_rfl
theorem Zxt : Zaw Tryz.prog 250 = some (.nilIface) := by kernel_rfl
theorem Zxs : Zaw Tryz.prog 252 = some (.nilIface) := by kernel_rfl
theorem ZyG : enters Tryz.prog 161 = true := by kernel_rfl
theorem ZsT : lk Tryz.prog 69 = some none := by kernel_rfl
theorem Ztu : enters Tryz.prog 115 = true := by kernel_rfl
theorem Zzk : enters Tryz.prog 72 = true := by kernel_rfl
theorem ZyV : enters Tryz.prog 113 = true := by kernel_rfl
theorem ZyU : enters Tryz.prog 114 = true := by kernel_rfl
theorem ZzZ : enters Tryz.prog 70 = true := by kernel_rfl
theorem ZzY : enters Tryz.prog 71 = true := by kernel_rfl
theorem Zwy : ZaX Tryz.prog 131 = some [(0, 3), (3, 1)] := by kernel_rfl
theorem ZvW : Zaw Tryz.prog 131 = some (.agg #[.int .i64 0, .int .i64 0, .string ⟨#[]⟩, .pointer none]) := by kernel_rfl
theorem Zjc : ZP Tryz.prog 129 1 = some 1 := by kernel_rfl
theorem Zq2 : lk Tryz.prog 127 = some none := by kernel_rfl
theorem Zrw : ZP Tryz.prog 129 0 = some 0 := by kernel_rfl
theorem Zst : Z8 Tryz.prog 127 = some 1 := by kernel_rfl
theorem Zjb : ZP Tryz.prog 129 2 = some 2 := by kernel_rfl
theorem Zrv : ZP Tryz.prog 131 1 = some 3 := by kernel_rfl
theorem ZxZ : ZaX Tryz.prog 129 = some [(0, 1), (1, 1), (2, 1)] := by kernel_rfl
theorem Zxz : Zaw Tryz.prog 129 = some (.agg #[.pointer none, .pointer none, .int .i64 0]) := by kernel_rfl
theorem Zzo : enters Tryz.prog 48 = true := by kernel_rfl
theorem Zvd : ZP Tryz.prog 131 0 = some 0 := by kernel_rfl
theorem ZAd : enters Tryz.prog 47 = true := by kernel_rfl
theorem ZAc : enters Tryz.prog 49 = true := by kernel_rfl
theorem Zzz : enters Tryz.prog 13 = true := by kernel_rfl
theorem ZAi : enters Tryz.prog 32 = true := by kernel_rfl
theorem ZAh : enters Tryz.prog 33 = true := by kernel_rfl
theorem Zzq : enters Tryz.prog 31 = true := by kernel_rfl
theorem Zzr : enters Tryz.prog 29 = true := by kernel_rfl
theorem Zxq : enters Tryz.prog 12 = true := by kernel_rfl
theorem ZAl : enters Tryz.prog 22 = true := by kernel_rfl
theorem ZAk : enters Tryz.prog 23 = true := by kernel_rfl
theorem ZAj : enters Tryz.prog 24 = true := by kernel_rfl
theorem Zzs : enters Tryz.prog 27 = true := by kernel_rfl
theorem en8 : enters Tryz.prog 8 = true := by kernel_rfl
theorem en9 : enters Tryz.prog 9 = true := by kernel_rfl
theorem Zw4 : enters Tryz.prog 11 = true := by kernel_rfl
theorem Zzt : enters Tryz.prog 21 = true := by kernel_rfl
theorem ZAm : enters Tryz.prog 16 = true := by kernel_rfl
set_option maxRecDepth 4000
set_option maxHeartbeats 6400000
variable {J : JoinT}
abbrev cur (b : Nat) (l : List UInt8) (i : Nat) : Cells := Zas b [str l, .int .i64 i] 134
theorem Zcs (n lo hi:Int) (B:Kn):ZaH (pj J) 81 [.int .i64 n,.int .i64 lo,.int .i64 hi] B (.bool (decide (lo≤n) && decide (n≤hi))):=by
 refine cB 15 Tryz.func81 (h:=?_)
 refine Za (xA (h:=Z6 [(0,_),(1,_),(2,_),(6,_)] t4 (Za (xM (h:=xM (h:=Zd9 (h:=xM (h:=Zn (d:=10) rfl (fun g1=>?_) (fun g1=>?_)))))))))
 try simp only [sQ,ne_eq] at g1
 refine xM (h:=xM (h:=ZcP (h:=xT (h:=xA (h:=Z6 [(0,_),(1,_),(2,_),(6,_)] t4 (Zd ?_))))))
 exact eR t1 ⟨by exact Zg (by rw [Bool.eq_iff_iff];simp [];omega),rfl,rfl⟩
 try simp only [sQ,ne_eq] at g1
 refine xP (h:=xP (h:=xP (h:=xF (h:=xA (h:=Z6 [(0,_),(1,_),(2,_),(6,_)] t4 (Zd ?_))))))
 exact eR t1 ⟨by exact Zg (by rw [Bool.eq_iff_iff];simp [];omega),rfl,rfl⟩

theorem Zpb (c:UInt8) (B:Kn):ZaH (pj J) 149 [.int .u8 c.toNat] B (.bool (ZbK c)):=by
 refine cB 17 Tryz.func149 (h:=?_)
 refine Za (xA (h:=Z6 [(0,_),(2,_)] t2 (Za (xM (h:=Zd9 (h:=xM (h:=Zn (d:=5) rfl (fun g1=>?_) (fun g1=>?_))))))))
 try simp only [sQ,ne_eq] at g1
 refine xM (h:=ZcP (h:=xT (h:=xM (h:=Zn (d:=9) rfl (fun g2=>?_) (fun g2=>?_)))))
 try simp only [sQ,ne_eq] at g2
 refine xP (h:=xP (h:=xP (h:=xP (h:=xP (h:=xP (h:=xT (h:=xA (h:=Z6 [(0,_),(2,_)] t2 (Zd ?_)))))))))
 exact eR t1 ⟨by exact Zg (by rw [Bool.eq_iff_iff];simp [ZbK];omega),rfl,rfl⟩
 try simp only [sQ,ne_eq] at g2
 refine xM (h:=Zd9 (h:=xM (h:=Zn (d:=12) rfl (fun g3=>?_) (fun g3=>?_))))
 try simp only [sQ,ne_eq] at g3
 refine xM (h:=ZcP (h:=xT (h:=xF (h:=xA (h:=Z6 [(0,_),(2,_)] t2 (Zd ?_))))))
 exact eR t1 ⟨by exact Zg (by rw [Bool.eq_iff_iff];simp [ZbK];omega),rfl,rfl⟩
 try simp only [sQ,ne_eq] at g3
 refine xP (h:=xP (h:=xF (h:=xF (h:=xA (h:=Z6 [(0,_),(2,_)] t2 (Zd ?_))))))
 exact eR t1 ⟨by exact Zg (by rw [Bool.eq_iff_iff];simp [ZbK];omega),rfl,rfl⟩
 try simp only [sQ,ne_eq] at g1
 refine xP (h:=xP (h:=xF (h:=xM (h:=xM (h:=Zd9 (h:=xM (h:=Zn (d:=12) rfl (fun g4=>?_) (fun g4=>?_))))))))
 try simp only [sQ,ne_eq] at g4
 refine xM (h:=ZcP (h:=xT (h:=xF (h:=xA (h:=Z6 [(0,_),(2,_)] t2 (Zd ?_))))))
 exact eR t1 ⟨by exact Zg (by rw [Bool.eq_iff_iff];simp [ZbK];omega),rfl,rfl⟩
 try simp only [sQ,ne_eq] at g4
 refine xP (h:=xP (h:=xF (h:=xF (h:=xA (h:=Z6 [(0,_),(2,_)] t2 (Zd ?_))))))
 exact eR t1 ⟨by exact Zg (by rw [Bool.eq_iff_iff];simp [ZbK];omega),rfl,rfl⟩

theorem ZbZ (l:List UInt8) (hl:l.length≤2000000) (B:Kn):ZaH (pj J) 117 [str l] B (.bool (Zah l)):=by
 refine cB 37 Tryz.func117 (h:=?_)
 refine Za (xA (h:=Z6 [(0,_),(2,_)] t2 (Zf (Za (xA (h:=Z6 [(0,_),(2,_),(3,_)] t3 (Zl (Zlq (α:=Nat) (fun k=>[(0,str l),(3,.int .i64 k)]) (fun k=>[]) (fun k Bx=>Bx=B∧k≤l.length∧(l.take k).all ZbK=true) (fun k=>l.length - k) 0 t2 rfl (⟨rfl,Nat.zero_le _,by simp⟩) (fun k B1 hle1 hI=>?_)))))))))
 obtain ⟨rfl,hk,ha⟩:=hI
 refine Zf (Za (xM (h:=xM (h:=xVs Tryz.underlying9 (h:=Zaa (h:=Z6 [(0,_),(3,_),(7,_)] t3 (Zb rfl (fun g1=>?_) (fun g1=>?_))))))))
 try simp only [sQ,ne_eq] at g1
 obtain ⟨c,hc⟩ :∃c,l[k]? = some c:=⟨_,List.getElem?_eq_getElem oz⟩
 refine wSk (Zf (Zl (ZjP 33 (!(ZbK c)) [0,3,7] ?_ ?_)))
 refine xM (h:=xM (h:=Zp (ZeB rfl rfl Tryz.underlying9 rfl rfl oz (by simpa using hc) ?_)))
 refine Zd9 (h:=xM (h:=Zn (d:=14) rfl (fun g1=>?_) (fun g1=>?_)))
 try simp only [sQ,ne_eq] at g1
 refine xM (h:=xM (h:=Zp (ZeB rfl rfl Tryz.underlying9 rfl rfl oz (by simpa using hc) ?_)))
 refine ZcP (h:=xT (h:=xN (h:=xM (h:=Zn (d:=21) rfl (fun g2=>?_) (fun g2=>?_)))))
 try simp only [sQ,ne_eq] at g2
 refine xM (h:=xM (h:=Zp (ZeB rfl rfl Tryz.underlying9 rfl rfl oz (by simpa using hc) ?_)))
 refine Zd9 (h:=xM (h:=Zn (d:=26) rfl (fun g3=>?_) (fun g3=>?_)))
 try simp only [sQ,ne_eq] at g3
 refine xM (h:=xM (h:=Zp (ZeB rfl rfl Tryz.underlying9 rfl rfl oz (by simpa using hc) ?_)))
 refine ZcP (h:=xT (h:=xN (h:=xT (h:=?_))))
 exact ⟨rfl,rfl,rfl,Zdq rfl (by rw [Bool.eq_iff_iff];simp [ZbK,];omega),t3⟩
 try simp only [sQ,ne_eq] at g3
 refine xP (h:=xP (h:=xP (h:=xP (h:=xF (h:=xN (h:=xT (h:=?_)))))))
 exact ⟨rfl,rfl,rfl,Zdq rfl (by rw [Bool.eq_iff_iff];simp [ZbK,];omega),t3⟩
 try simp only [sQ,ne_eq] at g2
 refine xP (h:=xP (h:=xP (h:=xP (h:=xP (h:=xP (h:=xP (h:=xP (h:=xP (h:=xP (h:=xP (h:=xF (h:=?_))))))))))))
 exact ⟨rfl,rfl,rfl,Zdq rfl (by rw [Bool.eq_iff_iff];simp [ZbK,];omega),t3⟩
 try simp only [sQ,ne_eq] at g1
 refine xP (h:=xP (h:=xP (h:=xP (h:=xF (h:=xN (h:=xM (h:=xM (h:=xM (h:=Zp (ZeB rfl rfl Tryz.underlying9 rfl rfl oz (by simpa using hc) ?_))))))))))
 refine Zd9 (h:=xM (h:=Zn (d:=26) rfl (fun g4=>?_) (fun g4=>?_)))
 try simp only [sQ,ne_eq] at g4
 refine xM (h:=xM (h:=Zp (ZeB rfl rfl Tryz.underlying9 rfl rfl oz (by simpa using hc) ?_)))
 refine ZcP (h:=xT (h:=xN (h:=xT (h:=?_))))
 exact ⟨rfl,rfl,rfl,Zdq rfl (by rw [Bool.eq_iff_iff];simp [ZbK,];omega),t3⟩
 try simp only [sQ,ne_eq] at g4
 refine xP (h:=xP (h:=xP (h:=xP (h:=xF (h:=xN (h:=xT (h:=?_)))))))
 exact ⟨rfl,rfl,rfl,Zdq rfl (by rw [Bool.eq_iff_iff];simp [ZbK,];omega),t3⟩
 refine Z6 [(0,_),(3,_),(7,_),(33,_)] t4 (Zb rfl (fun g9=>?_) (fun g9=>?_))
 try simp only [sQ,ne_eq] at g9
 refine Za (xA (h:=Z6 [(0,_),(2,_),(3,_),(7,_),(33,_)] t5 (Zd (ZD (Zo (ZuC (ZD (Zo ?_))))))))
 exact eR t1 ⟨Zg (by simp [Zah,ZtI hc g9]),rfl,rfl⟩
 try simp only [sQ,ne_eq] at g9
 refine ZK (Zx (Zj (Zc (xM (h:=Zp (ZeY rfl rfl rfl rfl (by first | exact ZaR oz oz | rfl) ?_))))))
 refine xA (h:=?_)
 exact Zo1 (k+1) oz ⟨rfl,oz,ZoH hc g9 ha⟩ t2 rfl
 try simp only [sQ,ne_eq] at g1
 refine ZT (Zab (Zo0 (ZG (Zj (Za (xM (h:=xVs Tryz.underlying9 (h:=xR Zko rfl (Zcs _ _ _ _) (h:=xA (h:=Z6 [(0,_),(2,_),(3,_),(7,_)] t4 (Zd ?_)))))))))))
 exact eR t1 ⟨Zg (by (obtain rfl:k=l.length:=oz);rw [List.take_length] at ha;rw [Bool.eq_iff_iff];simp [Zah,ha];omega),rfl,rfl⟩

theorem ZoD (b:Nat) (l:List UInt8) (i:Nat) (hi:i≤l.length) (hl:l.length≤2000000) (B:Kn):Zui (pj J) 93 [ptr ⟨b,0,none⟩] B (cur b l i) (.bool (decide (i=l.length))) (cur b l i):=by
 refine cB 13 Tryz.func93 (h:=?_)
 refine Za (xA (h:=Z6 [(0,_),(2,_)] t2 (Zf (Z2 (same _ _) mo kr ⟨rfl,rfl⟩ (fun _ _=>?_)))))
 refine aM 0 rfl (h:=aNc 1 rfl (h:=aW 2 rfl Zcp (h:=aT 3 rfl (Zaj fun D=>Zh rfl rfl lk3 rfl (atL 0 rfl rfl rfl) r4) (h:=aM 4 rfl (h:=aNc 5 rfl (h:=aW 6 rfl Zg0 (h:=aT 7 rfl (Zaj fun D=>Zh rfl rfl lk9 rfl (atL 0 rfl rfl rfl) r4) (h:=aT 8 rfl (Zaj fun D=>ZnX rfl rfl Tryz.underlying9 rfl r4) (h:=Zsb 9 rfl (h:=aA 10 rfl (h:=Zz kr kr ?_)))))))))))
 refine Zj (Z6 [(0,_),(2,_)] t2 (Zd ?_))
 exact e1 0 rfl t1 ⟨Zg (by rw [Bool.eq_iff_iff];simp;omega),rfl,rfl⟩

theorem Zwj (b:Nat) (l:List UInt8) (i:Nat) (hi:i≤l.length) (hl:l.length≤2000000) (x:UInt8) (B:Kn):Zui (pj J) 125 [ptr ⟨b,0,none⟩,.int .u8 x.toNat] B (cur b l i) (.bool (decide (l[i]? = some x))) (cur b l (if l[i]? = some x then i+1 else i)):=by
 refine cB 27 Tryz.func125 (h:=?_)
 refine Za (xA (h:=Z6 [(0,_),(1,_),(4,_)] t3 (Zf (Zia 19 (decide (l[i]?≠some x)) [0,1,4] (same _ _) mo kr ⟨rfl,rfl⟩ (fun _ _=>?_) ?_))))
 refine aM 0 rfl (h:=aT 1 rfl (Zaj fun D=>Zhf 0 rfl rfl rfl Zxn rfl (ZoD _ _ _ oz oz _) r4) (h:=?_))
 refine aM 2 rfl (h:=ZaC (d:=7) rfl (fun g1=>?_) (fun g1=>?_))
 try simp only [sQ,ne_eq] at g1
 refine aZ 3 rfl (h:=aZ 4 rfl (h:=aZ 5 rfl (h:=aZ 6 rfl (h:=aZ 7 rfl (h:=aZ 8 rfl (h:=aZ 9 rfl (h:=aZ 10 rfl (h:=aZ 11 rfl (h:=aZ 12 rfl (h:=aZ 13 rfl (h:=aPT 14 rfl (h:=Zz kr kr ?_))))))))))))
 exact ⟨rfl,rfl,rfl,Zdq rfl (by first | (simp [g1];done) | (rw [Bool.eq_iff_iff];simp [hc,← UInt8.toNat_inj];omega)),t3⟩
 try simp only [sQ,ne_eq] at g1
 obtain ⟨c,hc⟩ :∃c,l[i]? = some c:=⟨_,List.getElem?_eq_getElem oz⟩
 refine aM 3 rfl (h:=aNc 4 rfl (h:=aW 5 rfl Zg0 (h:=aT 6 rfl (Zaj fun D=>Zh rfl rfl lk9 rfl (atL 0 rfl rfl rfl) r4) (h:=aM 7 rfl (h:=aNc 8 rfl (h:=aW 9 rfl Zcp (h:=aT 10 rfl (Zaj fun D=>Zh rfl rfl lk3 rfl (atL 0 rfl rfl rfl) r4) (h:=aT 11 rfl (Zaj fun D=>ZeB rfl rfl Tryz.underlying9 rfl rfl oz (by simpa using hc) r4) (h:=?_)))))))))
 refine aM 12 rfl (h:=Zxh 13 rfl (h:=aPF 14 rfl (h:=Zz kr kr ?_)))
 exact ⟨rfl,rfl,rfl,Zdq rfl (by first | (simp [g1];done) | (rw [Bool.eq_iff_iff];simp [hc,← UInt8.toNat_inj];omega)),t3⟩
 refine Z6 [(0,_),(1,_),(4,_),(19,_)] t4 (Zb rfl (fun g2=>?_) (fun g2=>?_))
 try simp only [sQ,ne_eq] at g2
 refine Za (xA (h:=Z6 [(0,_),(1,_),(4,_),(19,_)] t4 (Zd (Zo ?_))))
 exact e1 0 rfl t1 ⟨Zg (by simp [g2]),rfl,by rw [if_neg g2]⟩
 try simp only [sQ,ne_eq] at g2
 refine wSk (Za (xM (h:=xNc (h:=xW Zcp (h:=x1 lk3 0 (h:=Zp (ZeY rfl rfl rfl rfl (by first | exact ZaR oz oz | rfl) ?_)))))))
 refine xNc (h:=xW Zcp (h:=xS [_] 0 [_,_] sz3 (h:=ZN [(0,_),(1,_),(4,_),(19,_)] [_] t4 rfl (Za (xA (h:=Z6 [(0,_),(1,_),(4,_),(19,_)] t4 (Zd ?_)))))))
 exact e1 0 rfl t1 ⟨Zg (by simp [g2]),rfl,by rw [if_pos g2];rfl⟩

theorem ZqS (b:Nat) (l:List UInt8) (i:Nat) (hi:i≤l.length) (hl:l.length≤2000000) (B:Kn):Zui (pj J) 104 [ptr ⟨b,0,none⟩] B (cur b l i) (.tuple #[str (word l i),.bool (ZdT (word l i))]) (cur b l (i+(word l i).length)):=by
 refine cB 54 Tryz.func104 (h:=?_)
 refine Za (xA (h:=xA (h:=Z6 [(0,_),(2,_),(3,_)] t3 (Za (xM (h:=xNc (h:=xW Zcp (h:=x1 lk3 0 (h:=xA (h:=Z6 [(0,_),(2,_),(3,_),(4,_)] t4 (Zf (Zl (Zlq (α:=Nat) (fun k=>[(0,ptr ⟨b,0,none⟩),(4,.int .i64 i)]) (fun k=>[cur b l (i+k)]) (fun k Bx=>Bx=B∧i+k≤l.length∧((l.drop i).take k).all ZbK=true) (fun k=>l.length - i - k) 0 t2 rfl (⟨rfl,oz,by simp⟩) (fun k B1 hle1 hI=>?_))))))))))))))
 obtain ⟨rfl,hk,ha⟩:=hI
 refine Zf (Zia 24 (match l[i+k]? with | some c=>ZbK c | none=>false) [0,4] (same _ _) mo kr ⟨rfl,rfl⟩ (fun _ _=>?_) ?_)
 refine aM 0 rfl (h:=aT 1 rfl (Zaj fun D=>Zhf 0 rfl rfl rfl Zxn rfl (ZoD _ _ _ oz oz _) r4) (h:=?_))
 refine aN 2 rfl (h:=aM 3 rfl (h:=ZaC (d:=13) rfl (fun g1=>?_) (fun g1=>?_)))
 try simp only [sQ,ne_eq] at g1
 obtain ⟨c,hc⟩ :∃c,l[i+k]? = some c:=⟨_,List.getElem?_eq_getElem oz⟩
 refine aM 4 rfl (h:=aNc 5 rfl (h:=aW 6 rfl Zg0 (h:=aT 7 rfl (Zaj fun D=>Zh rfl rfl lk9 rfl (atL 0 rfl rfl rfl) r4) (h:=aM 8 rfl (h:=aNc 9 rfl (h:=aW 10 rfl Zcp (h:=aT 11 rfl (Zaj fun D=>Zh rfl rfl lk3 rfl (atL 0 rfl rfl rfl) r4) (h:=aT 12 rfl (Zaj fun D=>ZeB rfl rfl Tryz.underlying9 rfl rfl oz hc r4) (h:=?_)))))))))
 refine aT 13 rfl (Zaj fun D=>Za2 rfl rfl ZyK rfl (Zpb _ _) r4) (h:=aPT 14 rfl (h:=Zz kr kr ?_))
 exact ⟨rfl,rfl,rfl,Zdq rfl (by first | (rw [hc];done) | (rw [List.getElem?_eq_none oz])),t2⟩
 try simp only [sQ,ne_eq] at g1
 refine aZ 4 rfl (h:=aZ 5 rfl (h:=aZ 6 rfl (h:=aZ 7 rfl (h:=aZ 8 rfl (h:=aZ 9 rfl (h:=aZ 10 rfl (h:=aZ 11 rfl (h:=aZ 12 rfl (h:=aZ 13 rfl (h:=aPF 14 rfl (h:=Zz kr kr ?_)))))))))))
 exact ⟨rfl,rfl,rfl,Zdq rfl (by first | (rw [hc];done) | (rw [List.getElem?_eq_none oz])),t2⟩
 refine Z6 [(0,_),(4,_),(24,_)] t3 (Zb rfl (fun g2=>?_) (fun g2=>?_))
 try simp only [sQ,ne_eq] at g2
 refine wSk (Zl (Zc (xM (h:=xNc (h:=xW Zcp (h:=x1 lk3 0 (h:=Zp (ZeY rfl rfl rfl rfl (by first | exact ZaR oz oz | rfl) ?_))))))))
 refine xNc (h:=xW Zcp (h:=xS [_] 0 [_,_] sz3 (h:=Zx ?_)))
 obtain ⟨c,hc,hn⟩:=Zqw g2
 exact Zo1 (k+1) (by have:=Zcc hc;omega) ⟨rfl,by have:=Zcc hc;omega,ZoH (by simpa using hc) hn ha⟩ t2 rfl
 try simp only [sQ,ne_eq] at g2
 have hw:word l i=(l.drop i).take k:=Zsk ha (fun c hc=>by rw [hc] at g2;exact g2)
 have hwl:(word l i).length=k:=by rw [hw,List.length_take,List.length_drop];omega
 refine ZT (Zab (Zo0 (ZG (Zj (Za (xM (h:=xNc (h:=xW Zcp (h:=x1 lk3 0 (h:=xM (h:=Zp (ZjF rfl rfl rfl rfl (by first | exact ZaR oz oz | rfl) ?_))))))))))))
 refine xA (h:=Z6 [(0,_),(4,_),(5,_),(24,_)] t4 (Zf (Z2 (same _ _) mo kr ⟨rfl,rfl⟩ (fun _ _=>?_))))
 refine aM 0 rfl (h:=aNc 1 rfl (h:=aW 2 rfl Zg0 (h:=aT 3 rfl (Zaj fun D=>Zh rfl rfl lk9 rfl (atL 0 rfl rfl rfl) r4) (h:=aM 4 rfl (h:=aM 5 rfl (h:=aNc 6 rfl (h:=aW 7 rfl Zcp (h:=aT 8 rfl (Zaj fun D=>Zh rfl rfl lk3 rfl (atL 0 rfl rfl rfl) r4) (h:=aT 9 rfl (Zaj fun D=>Zgg rfl rfl Tryz.underlying9 rfl (a:=i) (b:=i+k) ⟨_,_,rfl,rfl⟩ ⟨_,_,rfl,oz⟩ oz oz r4) (h:=?_))))))))))
 refine aM 10 rfl (h:=Zxi 11 rfl (h:=aM 12 rfl (h:=ZaC (d:=50) rfl (fun g1=>?_) (fun g1=>?_))))
 try simp only [sQ,ne_eq] at g1
 refine aM 13 rfl (h:=ZtO 14 rfl (h:=aPT 15 rfl (h:=aA 16 rfl (h:=aA 17 rfl (h:=Zz kr kr ?_)))))
 refine Zj (Z6 [(0,_),(2,_),(3,_),(4,_),(5,_),(24,_)] t6 (Zd ?_))
 exact ZoA .ret (.inl rfl) [_,_] 0 rfl t2 ⟨ZjU (by rw [ZfG,hw]) (Zg (by rw [Bool.eq_iff_iff];simp [ZdT,hwl];omega)),rfl,by rw [hwl]⟩
 try simp only [sQ,ne_eq] at g1
 refine aZ 13 rfl (h:=aZ 14 rfl (h:=aPF 15 rfl (h:=aA 16 rfl (h:=aA 17 rfl (h:=Zz kr kr ?_)))))
 refine Zj (Z6 [(0,_),(2,_),(3,_),(4,_),(5,_),(24,_)] t6 (Zd ?_))
 exact ZoA .ret (.inl rfl) [_,_] 0 rfl t2 ⟨ZjU (by rw [ZfG,hw]) (Zg (by rw [Bool.eq_iff_iff];simp [ZdT,hwl];omega)),rfl,by rw [hwl]⟩

theorem Ztv (b:Nat) (l:List UInt8) (i:Nat) (hi:i≤l.length) (hl:l.length≤2000000) (B:Kn):Zui (pj J) 92 [ptr ⟨b,0,none⟩] B (cur b l i) (.tuple #[str (Zjn l i),.bool (ZnH l i)]) (cur b l (dom l i).2):=by
 refine cB 53 Tryz.func92 (h:=?_)
 refine Za (xA (h:=xA (h:=Z6 [(0,_),(2,_),(3,_)] t3 (Za (xM (h:=xNc (h:=xW Zcp (h:=x1 lk3 0 (h:=xA (h:=Z6 [(0,_),(2,_),(3,_),(4,_)] t4 (Zf (Za (xM (h:=Zp (ZjO 0 rfl rfl rfl ZvB rfl (ZqS _ _ _ oz oz _) ?_)))))))))))))))
 refine xM (h:=xE (h:=xE (h:=xA (h:=xA (h:=ZN [(0,_),(2,_),(3,_),(4,_),(6,_)] [_] t5 rfl (Za (xM (h:=xN (h:=Z6 [(0,_),(2,_),(3,_),(4,_),(6,_),(20,_)] t6 (Zb rfl (fun g1=>?_) (fun g1=>?_)))))))))))
 try simp only [sQ,ne_eq] at g1
 refine Za (xA (h:=xA (h:=Z6 [(0,_),(2,_),(3,_),(4,_),(6,_),(20,_)] t6 (Zd (Zo ?_)))))
 exact ZoA .ret (.inl rfl) [_,_] 0 rfl t2 ⟨ZjU (by simp [Zjn,ZnG g1]) (Zg (by simp [ZnH,ZnG g1])),rfl,by rw [ZnG g1]⟩
 try simp only [sQ,ne_eq] at g1
 refine wSk (Zf (Za (xA (h:=Z6 [(0,_),(2,_),(3,_),(4,_),(6,_),(7,_),(20,_)] t7 (Zl (Zlq (α:=Nat × Nat) (fun x=>[(0,ptr ⟨b,0,none⟩),(4,.int .i64 i),(7,.int .i64 x.1)]) (fun x=>[cur b l x.2]) (fun x Bx=>Bx=B∧1≤x.1∧x.1≤3∧i≤x.2∧x.2≤l.length∧dom l i=more (3 - x.1) l x.2) (fun x=>3 - x.1) (1,i+(word l i).length) t3 rfl (⟨rfl,oz,oz,oz,Zh8 hi,Ztw g1⟩) (fun x B1 hle1 hI=>?_)))))))
 obtain ⟨rfl,hk1,hk3,hix,hxl,hd⟩:=hI
 refine Zf (Za (xM (h:=Zaa (h:=xM (h:=Zn (d:=23) rfl (fun g2=>?_) (fun g2=>?_))))))
 try simp only [sQ,ne_eq] at g2
 refine xM (h:=Zp (ZjO 0 rfl rfl rfl ZyQ rfl (Zwj _ _ _ oz oz 46 _) ?_))
 refine xT (h:=ZN [(0,_),(4,_),(7,_),(26,_)] [_] t4 rfl (Zb rfl (fun g3=>?_) (fun g3=>?_)))
 try simp only [sQ,ne_eq] at g3
 rw [if_pos g3]
 have hx2:=Zcc g3
 refine wSk (Zf (Zl (Za (xM (h:=Zp (ZjO 0 rfl rfl rfl ZvB rfl (ZqS _ _ _ oz oz _) ?_))))))
 refine xM (h:=xE (h:=xE (h:=xA (h:=xA (h:=ZN [(0,_),(4,_),(7,_),(9,_),(26,_)] [_] t5 rfl (Za (xM (h:=xN (h:=Z6 [(0,_),(4,_),(7,_),(9,_),(26,_),(35,_)] t6 (Zb rfl (fun g4=>?_) (fun g4=>?_)))))))))))
 try simp only [sQ,ne_eq] at g4
 refine Za (xA (h:=xA (h:=Z6 [(0,_),(2,_),(3,_),(4,_),(7,_),(9,_),(26,_),(35,_)] t8 (Zd (ZD (Zo (ZuC (ZD (Zo ?_)))))))))
 have hdd:=hd.trans (ZsR oz g3 g4)
 exact ZoA .ret (.inl rfl) [_,_] 0 rfl t2 ⟨ZjU (by simp [Zjn,hdd]) (Zg (by simp [ZnH,hdd])),rfl,by rw [hdd]⟩
 try simp only [sQ,ne_eq] at g4
 refine ZK (Zx (Zj (Zc (xM (h:=Zp (ZeY rfl rfl rfl rfl (by first | exact ZaR oz oz | rfl) ?_))))))
 refine xA (h:=?_)
 exact Zo1 (x.1+1,x.2+1+(word l (x.2+1)).length) (so) ⟨rfl,so,so,so,Zh8 oz,by rw [hd,ZqX oz g3 g4];rw [show 3 - (x.1+1)=3 - x.1 - 1 from by omega]⟩ t3 rfl
 try simp only [sQ,ne_eq] at g3
 rw [if_neg g3]
 replace hd:=hd.trans (ZiD g3)
 refine ZT (Zab (Zo0 (ZG (Zj (Zf (Z2 (same _ _) mo kr ⟨rfl,rfl⟩ (fun _ _=>?_)))))))
 refine aM 0 rfl (h:=aNc 1 rfl (h:=aW 2 rfl Zg0 (h:=aT 3 rfl (Zaj fun D=>Zh rfl rfl lk9 rfl (atL 0 rfl rfl rfl) r4) (h:=aM 4 rfl (h:=aM 5 rfl (h:=aNc 6 rfl (h:=aW 7 rfl Zcp (h:=aT 8 rfl (Zaj fun D=>Zh rfl rfl lk3 rfl (atL 0 rfl rfl rfl) r4) (h:=aT 9 rfl (Zaj fun D=>Zgg rfl rfl Tryz.underlying9 rfl (a:=i) (b:=x.2) ⟨_,_,rfl,rfl⟩ ⟨_,_,rfl,rfl⟩ oz oz r4) (h:=?_))))))))))
 refine aM 10 rfl (h:=aNc 11 rfl (h:=aW 12 rfl Zcp (h:=aT 13 rfl (Zaj fun D=>Zh rfl rfl lk3 rfl (atL 0 rfl rfl rfl) r4) (h:=aM 14 rfl (h:=aT 15 rfl (Zaj fun D=>ZjF rfl rfl rfl rfl (by first | exact ZaR oz oz | rfl) r4) (h:=?_))))))
 refine ZtO 16 rfl (h:=aA 17 rfl (h:=aA 18 rfl (h:=Zz kr kr ?_)))
 refine Zj (Z6 [(0,_),(2,_),(3,_),(4,_),(7,_),(26,_)] t6 (Zd ?_))
 exact ZoA .ret (.inl rfl) [_,_] 0 rfl t2 ⟨ZjU (by simp [Zjn,hd]) (Zg (by rw [Bool.eq_iff_iff];simp [ZnH,hd];omega)),rfl,by rw [hd]⟩
 try simp only [sQ,ne_eq] at g2
 replace hd:dom l i=(true,x.2):=hd.trans (by rw [show 3 - x.1=0 from by omega];rfl)
 refine xP (h:=xP (h:=xF (h:=Z6 [(0,_),(4,_),(7,_),(26,_)] t4 (Zb (t:=false) rfl (fun h=>Bool.noConfusion h) (fun _=>ZT (Zab (Zo0 (ZG (Zj (Zf (Z2 (same _ _) mo kr ⟨rfl,rfl⟩ (fun _ _=>?_))))))))))))
 refine aM 0 rfl (h:=aNc 1 rfl (h:=aW 2 rfl Zg0 (h:=aT 3 rfl (Zaj fun D=>Zh rfl rfl lk9 rfl (atL 0 rfl rfl rfl) r4) (h:=aM 4 rfl (h:=aM 5 rfl (h:=aNc 6 rfl (h:=aW 7 rfl Zcp (h:=aT 8 rfl (Zaj fun D=>Zh rfl rfl lk3 rfl (atL 0 rfl rfl rfl) r4) (h:=aT 9 rfl (Zaj fun D=>Zgg rfl rfl Tryz.underlying9 rfl (a:=i) (b:=x.2) ⟨_,_,rfl,rfl⟩ ⟨_,_,rfl,rfl⟩ oz oz r4) (h:=?_))))))))))
 refine aM 10 rfl (h:=aNc 11 rfl (h:=aW 12 rfl Zcp (h:=aT 13 rfl (Zaj fun D=>Zh rfl rfl lk3 rfl (atL 0 rfl rfl rfl) r4) (h:=aM 14 rfl (h:=aT 15 rfl (Zaj fun D=>ZjF rfl rfl rfl rfl (by first | exact ZaR oz oz | rfl) r4) (h:=?_))))))
 refine ZtO 16 rfl (h:=aA 17 rfl (h:=aA 18 rfl (h:=Zz kr kr ?_)))
 refine Zj (Z6 [(0,_),(2,_),(3,_),(4,_),(7,_),(26,_)] t6 (Zd ?_))
 exact ZoA .ret (.inl rfl) [_,_] 0 rfl t2 ⟨ZjU (by simp [Zjn,hd]) (Zg (by rw [Bool.eq_iff_iff];simp [ZnH,hd];omega)),rfl,by rw [hd]⟩

theorem Zct (l:List UInt8) (hl:l.length≤2000000) (B:Kn):ZaH (pj J) 64 [str l] B (.bool (Zah l)):=by
 refine cB 16 Tryz.func64 (h:=?_)
 refine Za (xA (h:=Z6 [(0,_),(2,_)] t2 (Za (xM (h:=xB [(0,_)] [_,_] [_,_] Zwx Zsj (h:=xAl [_,_] Zsj (h:=fun b0=>xS [_,_] 0 [_,_] Zwq (h:=ZN [(0,_),(2,_),(3,_)] [_] t3 rfl (Za (Zp (ZjO 0 rfl rfl rfl ZvB rfl (ZqS _ _ 0 oz hl _) ?_)))))))))))
 refine xM (h:=xE (h:=xE (h:=xA (h:=xA (h:=ZN [(0,_),(2,_),(3,_),(5,_)] [_] t4 rfl (Za (xM (h:=xM (h:=Zn (d:=13) rfl (fun g1=>?_) (fun g1=>?_))))))))))
 refine Zp (Zhf 0 rfl rfl rfl Zxn rfl (ZoD _ _ (0+(word l 0).length) (Zh8 (Nat.zero_le _)) oz _) ?_)
 refine xT (h:=xA (h:=Z6 [(0,_),(2,_),(3,_),(5,_)] t4 (Zd ?_)))
 exact eR t1 ⟨Zg (by rw [ZdE];simp [g1];try omega),rfl,rfl⟩
 refine xP (h:=xF (h:=xA (h:=Z6 [(0,_),(2,_),(3,_),(5,_)] t4 (Zd ?_))))
 exact eR t1 ⟨Zg (by rw [ZdE];simp [g1];try omega),rfl,rfl⟩

abbrev rd (b : Nat) (q : Option Addr) (m cp p : Nat) : Cells := Zas b [.slice q m cp, .int .i64 p] 107
theorem Zs0 (q:Option Addr) (m cp:Nat) (hmc:m≤cp) (B:Kn) (hb:Zak B q m):Zzb (pj J) 22 [.slice q m cp] B (fun v s=>∃b q m cp,v=ptr ⟨b,0,none⟩∧s=rd b q m cp 0∧m≤2000∧Zak B q m):=by
 refine cB 11 Tryz.func22 (h:=?_)
 refine Za (xA (h:=Z6 [(0,_),(2,_)] t2 (Zf (Za (xM (h:=xV Tryz.underlying22 (h:=Zbw (h:=Z6 [(0,_),(2,_),(5,_)] t3 (Zb rfl (fun g1=>?_) (fun g1=>?_))))))))))
 try simp only [sQ,ne_eq] at g1
 refine Zc (xM (h:=Zp (Zfp rfl rfl Tryz.underlying22 sz5 rfl (a:=0) (b:=2000) rfl ⟨_,_,rfl,rfl⟩ oz oz ?_)))
 refine xA (h:=Zj (Za (xM (h:=xB [(0,_)] [_,_] [_,_] Zwz ZvX (h:=xBx [_,_] (h:=fun b0=>xA (h:=ZN [(0,_),(2,_),(5,_)] [_] t3 rfl (Zd ?_))))))))
 exact e1 0 rfl t1 ⟨rfl,_,rfl,_,_,_,_,rfl,rfl,oz,hb.take oz⟩
 try simp only [sQ,ne_eq] at g1
 refine wSk (Za (xM (h:=xB [(0,_)] [_,_] [_,_] Zwz ZvX (h:=xBx [_,_] (h:=fun b0=>xA (h:=ZN [(0,_),(2,_),(5,_)] [_] t3 rfl (Zd ?_)))))))
 exact e1 0 rfl t1 ⟨rfl,_,rfl,_,_,_,_,rfl,rfl,oz,hb⟩

set_option maxHeartbeats 400000 in
theorem ZL (b:Nat) (q:Option Addr) (m cp p:Nat) (n:Int) (hp:p≤1000000000000) (hn:1≤n) (hn2:n≤1000000000000) (hm:m≤2000) (B:Kn) (hb:Zak B q m):Ex1 (pj J) 25 [ptr ⟨b,0,none⟩,.int .i64 n] B (rd b q m cp p) (fun v s=>∃r:Int,v = .int .i64 r∧0≤r∧r<n∧s=rd b q m cp (p+1)):=by
 refine ZeM 99 Tryz.func25 rfl rfl rfl (Nat.le_of_ble_eq_true rfl) ?_
 refine Za ?_
 refine xA (h:=?_)
 refine Z6 [(0,_),(1,_),(4,_)] t3 ?_
 refine Za ?_
 refine xM (h:=?_)
 refine xM (h:=?_)
 refine xNc (h:=?_)
 refine xW ZnD (h:=?_)
 refine x1 lk3 0 (h:=?_)
 refine Zp (ZeY rfl rfl rfl rfl (by first | exact ZaR oz oz | rfl) ?_)
 refine xNc (h:=?_)
 refine xW ZnD (h:=?_)
 refine xS [_] 0 [_,_] sz3 (h:=?_)
 refine ZN [(0,_),(1,_),(4,_)] [_] t3 rfl ?_
 refine Zf ?_
 refine Za ?_
 refine xM (h:=?_)
 refine Zaa (h:=?_)
 refine xM (h:=?_)
 refine Zn (d:=17) rfl (fun g1=>by have:=of_decide_eq_true g1;omega) (fun g1=>?_)
 try simp only [sQ,ne_eq] at g1
 refine xM (h:=?_)
 refine xNc (h:=?_)
 refine xW Zfg (h:=?_)
 refine x1 Zt9 0 (h:=?_)
 refine xV Tryz.underlying22 (h:=?_)
 refine ZF (h:=?_)
 refine xF (h:=?_)
 refine Z6 [(0,_),(1,_),(4,_),(24,_)] t4 ?_
 refine Zb rfl (fun g2=>?_) (fun g2=>?_)
 try simp only [sQ,ne_eq] at g2
 refine Za ?_
 refine xA (h:=?_)
 refine Z6 [(0,_),(1,_),(4,_),(24,_)] t4 ?_
 refine Zd (Zo ?_)
 exact ZoA .ret (.inl rfl) [_] 0 rfl t1 ⟨rfl,_,rfl,0,rfl,oz,oz,rfl⟩
 try simp only [sQ,ne_eq] at g2
 have hm0:0<m:=by omega
 obtain ⟨a,rfl,hc⟩:=hb.at hm0
 refine ZK ?_
 refine Zj ?_
 refine Za ?_
 refine xM (h:=?_)
 refine xNc (h:=?_)
 refine xW ZnD (h:=?_)
 refine x1 lk3 0 (h:=?_)
 refine Zp (ZjF rfl rfl rfl rfl (by first | exact ZaR oz oz | rfl) ?_)
 refine xA (h:=?_)
 refine Z6 [(0,_),(1,_),(4,_),(5,_),(24,_)] t5 ?_
 refine Zf ?_
 refine Za ?_
 refine xM (h:=?_)
 refine xM (h:=?_)
 refine xNc (h:=?_)
 refine xW Zfg (h:=?_)
 refine x1 Zt9 0 (h:=?_)
 refine xV Tryz.underlying22 (h:=?_)
 refine Zaa (h:=?_)
 refine Z6 [(0,_),(1,_),(4,_),(5,_),(24,_),(36,_)] t6 ?_
 refine Zb rfl (fun g3=>?_) (fun g3=>?_)
 try simp only [sQ,ne_eq] at g3
 obtain ⟨z,hz,h1⟩:=hc (↑p+1 - 1) oz oz
 refine Za ?_
 refine xM (h:=?_)
 refine xNc (h:=?_)
 refine xW Zfg (h:=?_)
 refine x1 Zt9 0 (h:=?_)
 refine xM (h:=?_)
 refine Zp (Zbb rfl rfl Tryz.underlying22 sz5 rfl rfl oz oz ?_)
 refine Zp (Zh rfl rfl lk5 rfl (h1 _) ?_)
 refine Zp (ZmR rfl rfl Tryz.underlying5 Tryz.underlying3 rfl (by first | exact ZaR oz oz | rfl) ?_)
 refine xM (h:=?_)
 refine Zp (Zgh rfl rfl rfl rfl oz (by first | exact ZaR oz oz | rfl) ?_)
 refine xA (h:=?_)
 refine Z6 [(0,_),(1,_),(4,_),(5,_),(24,_),(36,_)] t6 ?_
 refine Zd (Zo ?_)
 exact ZoA .ret (.inl rfl) [_] 0 rfl t1 ⟨rfl,_,rfl,_,rfl,Int.tmod_nonneg _ oz,Int.tmod_lt_of_pos _ oz,rfl⟩
 try simp only [sQ,ne_eq] at g3
 obtain ⟨z,hz,h1⟩:=hc (Int.tmod (↑p+1 - 1) ↑m) (Int.tmod_nonneg _ oz) (Int.tmod_lt_of_pos _ oz)
 obtain ⟨z2,hz2,h2⟩:=hc (Int.tmod ((↑p+1 - 1)*7+3) ↑m) (Int.tmod_nonneg _ oz) (Int.tmod_lt_of_pos _ oz)
 have ht0:0≤Int.tdiv (↑p+1 - 1) ↑m:=Int.tdiv_nonneg oz oz
 have ht1:Int.tdiv (↑p+1 - 1) ↑m≤↑p+1 - 1:=Int.tdiv_le_self _ oz
 refine ZK ?_
 refine Zj ?_
 refine Zf ?_
 refine Z2 (same _ _) mo kr ⟨rfl,rfl⟩ (fun _ _=>?_)
 refine aM 0 rfl (h:=?_)
 refine aNc 1 rfl (h:=?_)
 refine aW 2 rfl Zfg (h:=?_)
 refine aT 3 rfl (Zaj fun D=>Zh rfl rfl Zt9 rfl (atL 0 rfl rfl rfl) r4) (h:=?_)
 refine aM 4 rfl (h:=?_)
 refine aM 5 rfl (h:=?_)
 refine aNc 6 rfl (h:=?_)
 refine aW 7 rfl Zfg (h:=?_)
 refine aT 8 rfl (Zaj fun D=>Zh rfl rfl Zt9 rfl (atL 0 rfl rfl rfl) r4) (h:=?_)
 refine aV 9 rfl Tryz.underlying22 (h:=?_)
 refine aT 10 rfl (Zaj fun D=>Zgh rfl rfl rfl rfl oz (by first | exact ZaR oz oz | rfl) r4) (h:=?_)
 refine aT 11 rfl (Zaj fun D=>Zbb rfl rfl Tryz.underlying22 sz5 rfl rfl (Int.tmod_nonneg _ oz) (Int.tmod_lt_of_pos _ oz) r4) (h:=?_)
 refine aT 12 rfl (Zaj fun D=>Zh rfl rfl lk5 rfl (h1 _) r4) (h:=?_)
 refine aT 13 rfl (Zaj fun D=>ZmR rfl rfl Tryz.underlying5 Tryz.underlying3 rfl (by first | exact ZaR oz oz | rfl) r4) (h:=?_)
 refine aT 14 rfl (Zaj fun D=>Zlo rfl rfl rfl rfl (by first | exact ZaR oz oz | rfl) r4) (h:=?_)
 refine aM 15 rfl (h:=?_)
 refine aNc 16 rfl (h:=?_)
 refine aW 17 rfl Zfg (h:=?_)
 refine aT 18 rfl (Zaj fun D=>Zh rfl rfl Zt9 rfl (atL 0 rfl rfl rfl) r4) (h:=?_)
 refine aM 19 rfl (h:=?_)
 refine aT 20 rfl (Zaj fun D=>Zlo rfl rfl rfl rfl (by first | exact ZaR oz oz | rfl) r4) (h:=?_)
 refine aT 21 rfl (Zaj fun D=>ZeY rfl rfl rfl rfl (by first | exact ZaR oz oz | rfl) r4) (h:=?_)
 refine aM 22 rfl (h:=?_)
 refine aNc 23 rfl (h:=?_)
 refine aW 24 rfl Zfg (h:=?_)
 refine aT 25 rfl (Zaj fun D=>Zh rfl rfl Zt9 rfl (atL 0 rfl rfl rfl) r4) (h:=?_)
 refine aV 26 rfl Tryz.underlying22 (h:=?_)
 refine aT 27 rfl (Zaj fun D=>Zgh rfl rfl rfl rfl oz (by first | exact ZaR oz oz | rfl) r4) (h:=?_)
 refine aT 28 rfl (Zaj fun D=>Zbb rfl rfl Tryz.underlying22 sz5 rfl rfl (Int.tmod_nonneg _ oz) (Int.tmod_lt_of_pos _ oz) r4) (h:=?_)
 refine aT 29 rfl (Zaj fun D=>Zh rfl rfl lk5 rfl (h2 _) r4) (h:=?_)
 refine aT 30 rfl (Zaj fun D=>ZmR rfl rfl Tryz.underlying5 Tryz.underlying3 rfl (by first | exact ZaR oz oz | rfl) r4) (h:=?_)
 refine aT 31 rfl (Zaj fun D=>Zlo rfl rfl rfl rfl (by first | exact ZaR oz oz | rfl) r4) (h:=?_)
 refine aT 32 rfl (Zaj fun D=>ZeY rfl rfl rfl rfl (by first | exact ZaR oz oz | rfl) r4) (h:=?_)
 refine aM 33 rfl (h:=?_)
 refine aT 34 rfl (Zaj fun D=>Zlo rfl rfl rfl rfl (by first | exact ZaR oz oz | rfl) r4) (h:=?_)
 refine aT 35 rfl (Zaj fun D=>ZeY rfl rfl rfl rfl (by first | exact ZaR oz oz | rfl) r4) (h:=?_)
 refine aM 36 rfl (h:=?_)
 refine aM 37 rfl (h:=?_)
 refine aNc 38 rfl (h:=?_)
 refine aW 39 rfl Zfg (h:=?_)
 refine aT 40 rfl (Zaj fun D=>Zh rfl rfl Zt9 rfl (atL 0 rfl rfl rfl) r4) (h:=?_)
 refine aV 41 rfl Tryz.underlying22 (h:=?_)
 refine aT 42 rfl (Zaj fun D=>ZfL rfl rfl rfl rfl oz (by first | exact ZaR oz oz | rfl) r4) (h:=?_)
 refine aT 43 rfl (Zaj fun D=>Zlo rfl rfl rfl rfl (by first | exact ZaR oz oz | rfl) r4) (h:=?_)
 refine aT 44 rfl (Zaj fun D=>ZeY rfl rfl rfl rfl (by first | exact ZaR oz oz | rfl) r4) (h:=?_)
 refine aA 45 rfl (h:=?_)
 refine Zz kr kr ?_
 refine Zj ?_
 refine Z6 [(0,_),(1,_),(4,_),(5,_),(6,_),(24,_),(36,_)] t7 ?_
 generalize hx:(↑z*131+↑z2*1117+(↑p+1 - 1)*29+(↑p+1 - 1:Int).tdiv ↑m*53:Int)=x
 have hx0:0≤x:=by omega
 have hx1:x<1000000000000000:=by omega
 have hy0:0≤Int.tdiv x 64:=Int.tdiv_nonneg oz oz
 have hy1:Int.tdiv x 64≤x:=Int.tdiv_le_self _ oz
 refine Za ?_
 refine xM (h:=?_)
 refine xM (h:=?_)
 refine Zp (ZfL rfl rfl rfl rfl oz (by first | exact ZaR oz oz | rfl) ?_)
 refine Zp (ZxD rfl rfl rfl rfl oz oz oz oz (fun y hy2 hy3=>?_))
 refine xA (h:=?_)
 refine Z6 [(0,_),(1,_),(4,_),(5,_),(6,_),(24,_),(36,_)] t7 ?_
 refine Za ?_
 refine xM (h:=?_)
 refine xM (h:=?_)
 refine Zp (Zgh rfl rfl rfl rfl oz (by first | exact ZaR oz oz | rfl) ?_)
 refine xA (h:=?_)
 refine Z6 [(0,_),(1,_),(4,_),(5,_),(6,_),(24,_),(36,_)] t7 ?_
 refine Zd ?_
 exact ZoA .ret (.inl rfl) [_] 0 rfl t1 ⟨rfl,_,rfl,_,rfl,Int.tmod_nonneg _ oz,Int.tmod_lt_of_pos _ oz,rfl⟩

theorem ZqK (b:Nat) (q:Option Addr) (m cp p:Nat) (b1:Nat) (ls:List (List UInt8)) (hp:p≤1000000000000) (hn:1≤ls.length) (hn2:ls.length≤1000000000000) (hm:m≤2000) (B:Kn) (hbm:Zak B q m):Zu (pj J) 68 [ptr ⟨b,0,none⟩,.slice (some ⟨b1,0,none⟩) ls.length ls.length] B [rd b q m cp p,Zas b1 (ls.map str) 9] (fun v B' Ls=>B'=B∧∃x,x∈ls∧v=str x∧Ls=[rd b q m cp (p+1)]):=by
 refine cB 12 Tryz.func68 (h:=?_)
 skip
 refine Za (xA (h:=Z6 [(0,_),(1,_),(4,_)] t3 (Za (xM (h:=xM (h:=xM (h:=xV Tryz.underlying109 (h:=xX 0 rfl Za4 rfl (ZL _ _ _ _ _ _ oz oz oz hm _ hbm) (h:=?_)))))))))
 rintro _ _ ⟨r1,rfl,r1a,r1b,rfl⟩
 refine Zp (Zbb rfl rfl Tryz.underlying109 sz9 rfl rfl oz oz ?_)
 obtain ⟨x,hx⟩ :∃x,ls[r1.toNat]? = some x:=⟨_,List.getElem?_eq_getElem oz⟩
 refine Zp (Zh rfl rfl lk9 rfl (Zr0 1 rfl (v:=str x) (by rw [Nat.mul_one,List.getElem?_map,hx];rfl)) ?_)
 refine xA (h:=ZN [(0,_),(1,_),(4,_)] [_,_] t3 rfl (Zd ?_))
 exact eN [0] rfl t1 ⟨rfl,x,List.mem_of_getElem? hx,rfl,rfl⟩

theorem ZcD (b:Nat) (q:Option Addr) (m cp p:Nat) (hp:p≤900000000000) (hm:m≤2000) (B:Kn) (hbm:Zak B q m):Ex1 (pj J) 67 [ptr ⟨b,0,none⟩] B (rd b q m cp p) (fun v s=>∃x:List UInt8,v=str x∧x.length≤9∧s=rd b q m cp (p+2)):=by
 refine cB 12 Tryz.func67 (h:=?_)
 refine Za (xA (h:=Z6 [(0,_),(2,_)] t2 (Zf (Za (xM (h:=xX 0 rfl Za4 rfl (ZL _ _ _ _ _ _ oz oz oz hm _ hbm) (h:=?_)))))))
 rintro _ _ ⟨r1,rfl,r1a,r1b,rfl⟩
 refine ZF (h:=ZN [(0,_),(2,_),(5,_)] [_] t3 rfl (Zb rfl (fun g1=>?_) (fun g1=>?_)))
 refine Za (xM (h:=xBs [(0,_),(1,_),(2,_),(3,_),(4,_),(5,_),(6,_)] [_,_,_,_,_,_,_] Tryz.underlying109 sz9 zo9 (h:=fun b1=>xK [0,1] rfl ZoB rfl (ZqK _ _ _ _ _ _ [[],[65],[116,111,111,108,111,110,103,49,50],[97,45,98],[101,105,103,104,116,56,56,56],[48],[97,110,121,111,110,101]] oz (by decide) (by decide) hm _ hbm) (h:=?_))))
 rintro _ _ _ hle2 ⟨rfl,x2,hx2,rfl,rfl⟩
 refine xA (h:=ZN [(0,_),(2,_),(5,_)] [_,_] t3 rfl (Zd (Zo ?_)))
 exact e1 0 rfl t1 ⟨rfl,_,rfl,x2,rfl,(show∀x∈_,x.length≤9 from by decide) _ hx2,rfl⟩
 refine wSk (Za (xM (h:=xBs [(0,_),(1,_),(2,_),(3,_),(4,_),(5,_)] [_,_,_,_,_,_] Tryz.underlying109 sz9 zo9 (h:=fun b1=>xK [0,1] rfl ZoB rfl (ZqK _ _ _ _ _ _ [[97,109,121],[98,111,98],[99,121,100],[100,97,110],[98,111,120,49],[120]] oz (by decide) (by decide) hm _ hbm) (h:=?_)))))
 rintro _ _ _ hle3 ⟨rfl,x3,hx3,rfl,rfl⟩
 refine xA (h:=ZN [(0,_),(2,_),(5,_)] [_,_] t3 rfl (Zd ?_))
 exact e1 0 rfl t1 ⟨rfl,_,rfl,x3,rfl,(show∀x∈_,x.length≤9 from by decide) _ hx3,rfl⟩

abbrev Zxr (s : Cells) (q : Option Addr) (m cp : Nat) (ls : List (List UInt8)) : Prop := Zh6 s q m cp 9 1 (ls.map str)
theorem Zls {s:Cells} {q:Option Addr} {m cp:Nat} {ls:List (List UInt8)} {a:List UInt8} (h:Zh6 s q m cp 9 1 (ls.map str ++ [str a])):Zxr s q m cp (ls ++ [a]):=by
 unfold Zxr
 rw [List.map_append]
 exact h
theorem ZuW (l:List UInt8) (hl:l.length≤2000000) (x0:UInt8) (B:Kn):Zzb (pj J) 116 [str l,.int .u8 x0.toNat] B (fun v s=>∃q cp,v = .slice q (cut x0 l).length cp∧Zxr s q (cut x0 l).length cp (cut x0 l)):=by
 refine cB 35 Tryz.func116 (h:=?_)
 refine Za (xA (h:=Z6 [(0,_),(1,_),(4,_)] t3 (Za (xBs [] [] Tryz.underlying109 sz9 zo9 (h:=fun b0=>xA (h:=ZN [(0,_),(1,_),(4,_),(5,_)] [_] t4 rfl (Za (xA (h:=Z6 [(0,_),(1,_),(4,_),(5,_),(6,_)] t5 (Zf (Za (xA (h:=Z6 [(0,_),(1,_),(4,_),(5,_),(6,_),(7,_)] t6 (Zl (Zlq (α:=CutSt) (fun x=>[(0,str l),(1,.int .u8 x0.toNat),(5,.slice x.q x.m x.cp),(6,.int .i64 x.f),(7,.int .i64 x.i)]) (fun x=>[x.s]) (fun x Bx=>Bx=B∧x.f≤x.i∧x.i≤l.length∧x.m≤x.i∧x.m=x.ps.length∧Zxr x.s x.q x.m x.cp x.ps∧cut x0 l=x.ps ++ glue ((l.take x.i).drop x.f) (cut x0 (l.drop x.i))) (fun x=>l.length - x.i) ⟨0,0,0,[],some ⟨b0,0,none⟩,0,Zas b0 [] 9⟩ t5 rfl (⟨rfl,Nat.le_refl _,Nat.zero_le _,Nat.le_refl _,rfl,Zh6.lit rfl,by simp [Zou (ZoF x0 l)]⟩) (fun x B1 hle1 hI=>?_))))))))))))))))
 obtain ⟨rfl,hf,hi,hn,hm,hv,hc⟩:=hI
 refine Zf (Za (xM (h:=xM (h:=xVs Tryz.underlying9 (h:=Zaa (h:=Z6 [(0,_),(1,_),(5,_),(6,_),(7,_),(12,_)] t6 (Zb rfl (fun g1=>?_) (fun g1=>?_))))))))
 try simp only [sQ,ne_eq] at g1
 obtain ⟨c,hx⟩ :∃c,l[x.i]? = some c:=⟨_,List.getElem?_eq_getElem oz⟩
 refine wSk (Zf (Zl (Za (xM (h:=xM (h:=Zp (ZeB rfl rfl Tryz.underlying9 rfl rfl oz hx ?_)))))))
 refine xM (h:=ZF (h:=Z6 [(0,_),(1,_),(5,_),(6,_),(7,_),(12,_),(19,_)] t7 (Zb rfl (fun g2=>?_) (fun g2=>?_))))
 try simp only [sQ,ne_eq] at g2
 refine Za (xM (h:=xM (h:=xM (h:=xM (h:=Zp (Zgg rfl rfl Tryz.underlying9 rfl (a:=x.f) (b:=x.i) ⟨_,_,rfl,rfl⟩ ⟨_,_,rfl,rfl⟩ oz oz ?_))))))
 refine xBs [(0,_)] [_] Tryz.underlying109 sz9 zo9 (h:=fun b1=>Zp (ZeE 0 rfl (hv) rfl rfl Zg4 ZgL rfl rfl (ZaN.box 1 rfl) rfl rfl oz (fun l1 p1 c1 hv1=>?_)))
 refine xA (h:=ZN [(0,_),(1,_),(5,_),(6,_),(7,_),(12,_),(19,_)] [_,_] t7 rfl (Zuo [0] rfl (Zc (xM (h:=Zp (ZeY rfl rfl rfl rfl (by first | exact ZaR oz oz | rfl) ?_))))))
 refine xA (h:=Zx (Zj (Zc (xM (h:=Zp (ZeY rfl rfl rfl rfl (by first | exact ZaR oz oz | rfl) ?_))))))
 refine xA (h:=?_)
 exact Zo1 ⟨x.i+1,x.i+1,x.m+1,x.ps ++ [(l.take x.i).drop x.f],p1,c1,l1⟩ (so) ⟨rfl,Nat.le_refl _,so,so,by simp [hm],Zls hv1,by rw [hc,ZvE hx (ZxI g2),List.append_assoc];simp [Ztm,Zou (ZoF x0 _)]⟩ t5 rfl
 try simp only [sQ,ne_eq] at g2
 refine ZK (Zx (Zj (Zc (xM (h:=Zp (ZeY rfl rfl rfl rfl (by first | exact ZaR oz oz | rfl) ?_))))))
 refine xA (h:=?_)
 exact Zo1 ⟨x.i+1,x.f,x.m,x.ps,x.q,x.cp,x.s⟩ (so) ⟨rfl,so,so,so,hm,hv,by rw [hc,Zty hx (ZxH g2),Zrp,Zqn hx hf]⟩ t5 rfl
 try simp only [sQ,ne_eq] at g1
 obtain hie:x.i=l.length:=by omega
 rw [hie,List.take_length,List.drop_length] at hc
 refine ZT (Zab (Zo0 (ZG (Zj (Za (xM (h:=xM (h:=xM (h:=Zp (Zgg rfl rfl Tryz.underlying9 rfl (a:=x.f) (b:=l.length) ⟨_,_,rfl,rfl⟩ rfl oz oz ?_))))))))))
 refine xBs [(0,_)] [_] Tryz.underlying109 sz9 zo9 (h:=fun b1=>Zp (ZeE 0 rfl (hv) rfl rfl Zg4 ZgL rfl rfl (ZaN.box 1 rfl) rfl rfl oz (fun l2 p2 c2 hv2=>?_)))
 refine xA (h:=ZN [(0,_),(1,_),(4,_),(5,_),(6,_),(7,_),(12,_)] [_,_] t7 rfl (Zd ?_))
 have he:cut x0 l=x.ps ++ [l.drop x.f]:=by rw [hc];simp [cut,glue]
 have hlen:(cut x0 l).length=x.m+1:=by rw [he];simp [hm]
 exact Zav .ret (.inl rfl) [_] [0] rfl ⟨rfl,trivial⟩ ⟨rfl,_,rfl,p2,c2,by rw [hlen];rfl,by rw [hlen,he];rw [List.take_length] at hv2;exact Zls hv2⟩

theorem ZlH (l:List UInt8) (hl:l.length≤2000000) (B:Kn):ZaH (pj J) 74 [str l] B (.bool (Zcn l)):=by
 refine cB 27 Tryz.func74 (h:=?_)
 refine Za (xA (h:=Z6 [(0,_),(2,_)] t2 (Za (xM (h:=Zp (ZtW rfl rfl ZyT rfl (ZuW _ hl 46 _) ?_))))))
 rintro _ s ⟨q,cp,rfl,hv⟩
 refine xA (h:=ZN [(0,_),(2,_),(3,_)] [_] t3 rfl (Zf (Za (xA (h:=Z6 [(0,_),(2,_),(3,_),(4,_)] t4 (Zl (Zlq (α:=Nat) (fun k=>[(0,str l),(3,.slice q (cut 46 l).length cp),(4,.int .i64 k)]) (fun k=>[s]) (fun k Bx=>Bx=B∧k≤(cut 46 l).length∧((cut 46 l).take k).all Zah=true) (fun k=>(cut 46 l).length - k) 0 t3 rfl (⟨rfl,Nat.zero_le _,by simp⟩) (fun k B1 hle1 hI=>?_))))))))
 obtain ⟨rfl,hk,ha⟩:=hI
 have hcc:=Zmv 46 l
 refine Zf (Za (xM (h:=xM (h:=xV Tryz.underlying109 (h:=Zaa (h:=Z6 [(0,_),(3,_),(4,_),(10,_)] t4 (Zb rfl (fun g1=>?_) (fun g1=>?_))))))))
 try simp only [sQ,ne_eq] at g1
 obtain ⟨y,hy⟩ :∃y,(cut 46 l)[k]? = some y:=⟨_,List.getElem?_eq_getElem oz⟩
 have hyl:=ZnI 46 l y (List.mem_of_getElem? hy)
 obtain ⟨a,rfl,hsp,hat⟩:=hv.at (B:=B1) (L:=[s]) (i:=k) (v:=str y) 0 rfl (by rw [List.getElem?_map,hy];rfl)
 refine wSk (Zf (Zl (Za (xM (h:=xM (h:=Zp (Zbb rfl rfl Tryz.underlying109 sz9 rfl rfl oz oz ?_)))))))
 refine Zp (Zh rfl rfl lk9 rfl (Zxa hat) (xR Zk7 rfl (ZbZ _ oz _) (h:=?_)))
 refine xN (h:=Z6 [(0,_),(3,_),(4,_),(10,_),(18,_)] t5 (Zb rfl (fun g2=>?_) (fun g2=>?_)))
 try simp only [sQ,ne_eq] at g2
 refine Za (xA (h:=Z6 [(0,_),(2,_),(3,_),(4,_),(10,_),(18,_)] t6 (Zd (ZD (Zo (ZuC (ZD (Zo ?_))))))))
 exact eR t1 ⟨Zg (by simp [Zcn,ZmH hy g2]),rfl,rfl⟩
 try simp only [sQ,ne_eq] at g2
 refine ZK (Zx (Zj (Zc (xM (h:=Zp (ZeY rfl rfl rfl rfl (by first | exact ZaR oz oz | rfl) ?_))))))
 refine xA (h:=?_)
 exact Zo1 (k+1) oz ⟨rfl,oz,Zjw hy g2 ha⟩ t3 rfl
 try simp only [sQ,ne_eq] at g1
 obtain hke:k=(cut 46 l).length:=by omega
 rw [hke,List.take_length] at ha
 refine ZT (Zab (Zo0 (ZG (Zj (Za (xM (h:=xV Tryz.underlying109 (h:=ZcP (h:=xM (h:=Zn (d:=22) rfl (fun g3=>?_) (fun g3=>?_)))))))))))
 try simp only [sQ,ne_eq] at g3
 refine xM (h:=xVs Tryz.underlying9 (h:=ZcP (h:=xT (h:=xA (h:=Z6 [(0,_),(2,_),(3,_),(4,_),(10,_)] t5 (Zd ?_))))))
 exact eR t1 ⟨Zg (by rw [Bool.eq_iff_iff];simp [Zcn,ha];omega),rfl,rfl⟩
 try simp only [sQ,ne_eq] at g3
 refine xP (h:=xP (h:=xP (h:=xF (h:=xA (h:=Z6 [(0,_),(2,_),(3,_),(4,_),(10,_)] t5 (Zd ?_))))))
 exact eR t1 ⟨Zg (by rw [Bool.eq_iff_iff];simp [Zcn,ha];omega),rfl,rfl⟩

theorem Zdd (q:Option Addr) (cp:Nat) (us:List DUser) (u:Str) (B:Kn) (hu:SlK B q cp 3 Zv us):ZaH (pj J) 79 [.slice q us.length cp,str u] B (.int .i64 (Zde us u)):=by
 refine cB 20 Tryz.func79 (h:=?_)
 have hun:=hu.len
 refine Za (xA (h:=Zf (Za (xA (h:=Zl (ZO (α:=Nat) [0,1] (fun k=>[(5,.int .i64 k)]) [] (fun k=>[]) (fun k Bx=>Bx=B∧k≤us.length∧∀x,x∈us.take k→x.name≠u) (fun k=>us.length - k) 0 t1 rfl (⟨rfl,Nat.zero_le _,by simp⟩) (fun k B1 hle1 hI=>?_)))))))
 obtain ⟨rfl,hk,ha⟩:=hI
 refine ZN [(0,_),(1,_),(5,_)] [] t3 rfl (Zf (Za (xM (h:=xM (h:=xV Tryz.underlying23 (h:=Zaa (h:=Zb rfl (fun g1=>?_) (fun g1=>?_))))))))
 try simp only [sQ,ne_eq] at g1
 refine wSk (Zf (Zl (Za (xM (h:=xM (h:=?_))))))
 obtain ⟨x,hx⟩:=Zaf (xs:=us) (i:=k) om
 obtain ⟨bb3,oo3,rfl⟩:=hu.base hx
 obtain ⟨_,⟨rfl,hb4,hb4b⟩,hc4⟩:=hu.elem hx
 refine xIx Tryz.underlying23 ZeW (h:=xW Zdm (h:=y1 lk9 hc4 0 (h:=xM (h:=Zdk (h:=Zb rfl (fun g2=>?_) (fun g2=>?_))))))
 try simp only [sQ,ne_eq] at g2
 refine Za (xM (h:=xA (h:=Zd (ZD (Zo (Z3 (ZD (Zo ?_))))))))
 exact eR t1 ⟨ZaJ (Zs7 hx g2 ha).symm,rfl,rfl⟩
 try simp only [sQ,ne_eq] at g2
 refine ZK (Zx (Zj (Zc (xM (h:=xD (h:=xA (h:=?_)))))))
 exact ZA (k+1) [] so2 ⟨rfl,oz,Zbq hx ha g2⟩ t3 rfl
 try simp only [sQ,ne_eq] at g1
 refine ZT (Zab (ZW (ZG (Zj (Za (xA (h:=Zd ?_)))))))
 exact eR t1 ⟨ZaJ (Zq8 (ZbL oz ha)).symm,rfl,rfl⟩

theorem Zm4 (q q':Option Addr) (cp cp':Nat) (xs ys:List Str) (B:Kn) (ha:SlK B q cp 1 ZbJ xs) (hb:SlK B q' cp' 1 ZbJ ys):ZaH (pj J) 86 [.slice q xs.length cp,.slice q' ys.length cp'] B (.bool (decide (xs=ys))):=by
 refine cB 26 Tryz.func86 (h:=?_)
 have han:=ha.len
 have hbn:=hb.len
 refine Za (xA (h:=Zf (Za (xM (h:=xV Tryz.underlying109 (h:=xM (h:=xV Tryz.underlying109 (h:=ZbC (h:=Zb rfl (fun g1=>?_) (fun g1=>?_))))))))))
 try simp only [sQ,ne_eq] at g1
 refine Za (xA (h:=Zd (Zo ?_)))
 exact eR t1 ⟨Zg (Zji g1),rfl,rfl⟩
 try simp only [sQ,ne_eq] at g1
 refine wSk (Zf (Za (xA (h:=Zl (ZO (α:=Nat) [0,1,10] (fun k=>[(5,.int .i64 k)]) [] (fun k=>[]) (fun k Bx=>Bx=B∧k≤xs.length∧xs.take k=ys.take k) (fun k=>xs.length - k) 0 t1 rfl (⟨rfl,Nat.zero_le _,by simp⟩) (fun k B1 hle1 hI=>?_))))))
 obtain ⟨rfl,hk,he⟩:=hI
 refine ZN [(0,_),(1,_),(5,_),(10,_)] [] t4 rfl (Zf (Za (xM (h:=xM (h:=xV Tryz.underlying109 (h:=Zaa (h:=Zb rfl (fun g2=>?_) (fun g2=>?_))))))))
 try simp only [sQ,ne_eq] at g2
 refine wSk (Zf (Zl (Zf (Z2 (same _ _) mo kr ⟨rfl,rfl⟩ (fun _ _=>?_)))))
 refine aM 0 rfl (h:=aM 1 rfl (h:=?_))
 obtain ⟨x,hx⟩:=Zaf (xs:=xs) (i:=k) om
 obtain ⟨bb3,oo3,rfl⟩:=ha.base hx
 obtain ⟨_,⟨rfl,hb4⟩,hc4⟩:=ha.elem hx
 refine aIx 2 rfl Tryz.underlying109 sz9 (h:=aT 3 rfl (Zaj fun D=>Zh rfl rfl lk9 rfl (hc4 _ 0 _ rfl) r4) (h:=aM 4 rfl (h:=aM 5 rfl (h:=?_))))
 obtain ⟨y,hy⟩:=Zaf (xs:=ys) (i:=k) om
 obtain ⟨bb6,oo6,rfl⟩:=hb.base hy
 obtain ⟨_,⟨rfl,hb7⟩,hc7⟩:=hb.elem hy
 refine aIx 6 rfl Tryz.underlying109 sz9 (h:=aT 7 rfl (Zaj fun D=>Zh rfl rfl lk9 rfl (hc7 _ 0 _ rfl) r4) (h:=Zxg 8 rfl (h:=Zz kr kr ?_)))
 refine Zj (Zb rfl (fun g3=>?_) (fun g3=>?_))
 try simp only [sQ,ne_eq] at g3
 refine Za (xA (h:=Zd (ZD (Zo (Z3 (ZD (Zo ?_)))))))
 exact eR t1 ⟨Zg (ZgB hx hy g3),rfl,rfl⟩
 try simp only [sQ,ne_eq] at g3
 refine ZK (Zx (Zj (Zc (xM (h:=xD (h:=xA (h:=?_)))))))
 exact ZA (k+1) [] so2 ⟨rfl,oz,Zcq hx hy g3 he⟩ t4 rfl
 try simp only [sQ,ne_eq] at g2
 refine ZT (Zab (ZW (ZG (Zj (Za (xA (h:=Zd ?_)))))))
 exact eR t1 ⟨Zg (eqT oz oz he),rfl,rfl⟩

theorem Zoq (q:Option Addr) (cp:Nat) (xs:List Str) (u:Str) (B:Kn) (ha:SlK B q cp 1 ZbJ xs):ZaH (pj J) 186 [.slice q xs.length cp,str u] B (.bool (decide (u∈xs))):=by
 refine cB 18 Tryz.func186 (h:=?_)
 have han:=ha.len
 refine Za (xA (h:=Zf (Za (xA (h:=Zl (ZO (α:=Nat) [0,1] (fun k=>[(5,.int .i64 k)]) [] (fun k=>[]) (fun k Bx=>Bx=B∧k≤xs.length∧∀x,x∈xs.take k→x≠u) (fun k=>xs.length - k) 0 t1 rfl (⟨rfl,Nat.zero_le _,by simp⟩) (fun k B1 hle1 hI=>?_)))))))
 obtain ⟨rfl,hk,hn⟩:=hI
 refine ZN [(0,_),(1,_),(5,_)] [] t3 rfl (Zf (Za (xM (h:=xM (h:=xV Tryz.underlying109 (h:=Zaa (h:=Zb rfl (fun g1=>?_) (fun g1=>?_))))))))
 try simp only [sQ,ne_eq] at g1
 refine wSk (Zf (Zl (Za (xM (h:=xM (h:=?_))))))
 obtain ⟨x,hx⟩:=Zaf (xs:=xs) (i:=k) om
 obtain ⟨bb3,oo3,rfl⟩:=ha.base hx
 obtain ⟨_,⟨rfl,hb4⟩,hc4⟩:=ha.elem hx
 refine xIx Tryz.underlying109 sz9 (h:=y1 lk9 hc4 0 (h:=xM (h:=Zdk (h:=Zb rfl (fun g2=>?_) (fun g2=>?_)))))
 try simp only [sQ,ne_eq] at g2
 refine Za (xA (h:=Zd (ZD (Zo (Z3 (ZD (Zo ?_)))))))
 exact eR t1 ⟨Zg (ZzH hx g2),rfl,rfl⟩
 try simp only [sQ,ne_eq] at g2
 refine ZK (Zx (Zj (Zc (xM (h:=xD (h:=xA (h:=?_)))))))
 exact ZA (k+1) [] so2 ⟨rfl,oz,Zbq hx hn g2⟩ t3 rfl
 try simp only [sQ,ne_eq] at g1
 refine ZT (Zab (ZW (ZG (Zj (Za (xA (h:=Zd ?_)))))))
 exact eR t1 ⟨Zg (ZzI (ZbL oz hn)),rfl,rfl⟩

theorem Zpp (q:Option Addr) (cp:Nat) (xs:List Str) (B:Kn) (ha:SlK B q cp 1 ZbJ xs):ZaH (pj J) 162 [.slice q xs.length cp] B (.bool (ZcV xs)):=by
 refine cB 29 Tryz.func162 (h:=?_)
 have han:=ha.len
 refine Za (xA (h:=Zf (Za (xA (h:=Zl (ZO (α:=Nat) [0] (fun k=>[(3,.int .i64 k)]) [] (fun k=>[]) (fun k Bx=>Bx=B∧k≤xs.length∧(xs.take k).all Zah=true∧(xs.take k).Nodup) (fun k=>xs.length - k) 0 t1 rfl (⟨rfl,Nat.zero_le _,by simp,by simp⟩) (fun k B1 hle1 hI=>?_)))))))
 obtain ⟨rfl,hk,hv,hn⟩:=hI
 refine ZN [(0,_),(3,_)] [] t2 rfl (Zf (Za (xM (h:=xM (h:=xV Tryz.underlying109 (h:=Zaa (h:=Zb rfl (fun g1=>?_) (fun g1=>?_))))))))
 try simp only [sQ,ne_eq] at g1
 refine wSk (Zf (Zl (Zf (Z2 (same _ _) mo kr ⟨rfl,rfl⟩ (fun _ _=>?_)))))
 refine aM 0 rfl (h:=aM 1 rfl (h:=?_))
 obtain ⟨x,hx⟩:=Zaf (xs:=xs) (i:=k) om
 obtain ⟨bb3,oo3,rfl⟩:=ha.base hx
 obtain ⟨_,⟨rfl,hb4⟩,hc4⟩:=ha.elem hx
 refine aIx 2 rfl Tryz.underlying109 sz9 (h:=aT 3 rfl (Zaj fun D=>Zh rfl rfl lk9 rfl (hc4 _ 0 _ rfl) r4) (h:=aT 4 rfl (Zaj fun D=>Za2 rfl rfl Zk7 rfl (ZbZ _ om2 _) r4) (h:=?_)))
 refine aN 5 rfl (h:=aM 6 rfl (h:=ZaC (d:=16) rfl (fun g2=>?_) (fun g2=>?_)))
 try simp only [sQ,ne_eq] at g2
 refine aZ 7 rfl (h:=aZ 8 rfl (h:=aZ 9 rfl (h:=aZ 10 rfl (h:=aZ 11 rfl (h:=aZ 12 rfl (h:=aZ 13 rfl (h:=aZ 14 rfl (h:=aPT 15 rfl (h:=Zz kr kr ?_)))))))))
 refine Zj (Zb (t:=true) rfl (fun _=>Za (xA (h:=Zd (ZD (Zo (Z3 (ZD (Zo ?_)))))))) (fun h=>Bool.noConfusion h))
 exact eR t1 ⟨Zg (Zhr hx g2),rfl,rfl⟩
 try simp only [sQ,ne_eq] at g2
 refine aM 7 rfl (h:=aM 8 rfl (h:=?_))
 obtain ⟨hq6,q6,cp6,hv6,hr6⟩:=ha.cutE 0 k om om
 have hr6n:=hr6.len
 refine aT 9 rfl (Zaj fun D=>Zhh (a:=0) (b:=k) hv6 om hq6 rfl rfl Tryz.underlying109 sz9 rfl rfl ⟨_,_,rfl,by first | omega | (simp;done) | (simp;omega)⟩ r4) (h:=?_)
 refine aM 10 rfl (h:=aM 11 rfl (h:=aIx 12 rfl Tryz.underlying109 sz9 (h:=aT 13 rfl (Zaj fun D=>Zh rfl rfl lk9 rfl (hc4 _ 0 _ rfl) r4) (h:=aT 14 rfl (Zaj fun D=>Za2 rfl rfl ZwX rfl (Zoq _ _ _ _ _ hr6) r4) (h:=aPF 15 rfl (h:=Zz kr kr ?_))))))
 refine Zj (Zb rfl (fun g3=>?_) (fun g3=>?_))
 try simp only [sQ,ne_eq] at g3
 refine Za (xA (h:=Zd (ZD (Zo (Z3 (ZD (Zo ?_)))))))
 exact eR t1 ⟨Zg (Zhq hx (by simpa using g3)),rfl,rfl⟩
 try simp only [sQ,ne_eq] at g3
 refine ZK (Zx (Zj (Zc (xM (h:=xD (h:=xA (h:=?_)))))))
 exact ZA (k+1) [] so2 ⟨rfl,oz,Zjw hx g2 hv,ZqQ hx hn (by simpa using g3)⟩ t2 rfl
 try simp only [sQ,ne_eq] at g1
 refine ZT (Zab (ZW (ZG (Zj (Za (xM (h:=xV Tryz.underlying109 (h:=ZcP (h:=xA (h:=Zd ?_))))))))))
 exact eR t1 ⟨Zg (ZiC oz hv hn),rfl,rfl⟩

theorem Ze1 (q:Option Addr) (cp:Nat) (x:DLetter) (B:Kn) (ha:SlK B q cp 1 ZbJ x.to_) (h1:x.fr.length≤2000000) (h2:x.text.length≤2000000):ZaH (pj J) 118 [.agg #[str x.fr,.slice q x.to_.length cp,str x.text]] B (.bool (ZaS x)):=by
 refine cB 23 Tryz.func118 (h:=?_)
 refine Za (xBx [_,_,_] (h:=fun b1=>xA (h:=tL1 (Za (xW Zja (h:=x1 lk9 0 (h:=xR Zk7 rfl (ZbZ _ om2 _) (h:=?_))))))))
 refine xM (h:=Zn (d:=6) rfl (fun g1=>?_) (fun g1=>?_))
 try simp only [sQ,ne_eq] at g1
 refine xW Zi9 (h:=x1 ZcX 0 (h:=xR ZyF rfl (Zpp _ _ _ _ ha) (h:=xT (h:=xM (h:=Zn (d:=11) rfl (fun g2=>?_) (fun g2=>?_))))))
 try simp only [sQ,ne_eq] at g2
 refine xW Zi9 (h:=x1 ZcX 0 (h:=xV Tryz.underlying109 (h:=Zbw (h:=xT (h:=xM (h:=Zn (d:=17) rfl (fun g3=>?_) (fun g3=>?_)))))))
 try simp only [sQ,ne_eq] at g3
 refine xW ZnC (h:=x1 lk9 0 (h:=xVs Tryz.underlying9 (h:=ZcP (h:=xT (h:=xA (h:=Zd ?_))))))
 exact eR t1 ⟨Zg (by rw [Bool.eq_iff_iff];simp [ZaS,g1,g2,g3];try omega),rfl,rfl⟩
 try simp only [sQ,ne_eq] at g3
 refine xP (h:=xP (h:=xP (h:=xP (h:=xF (h:=xA (h:=Zd ?_))))))
 exact eR t1 ⟨Zg (by rw [Bool.eq_iff_iff];simp [ZaS,g1,g2,g3];try omega),rfl,rfl⟩
 try simp only [sQ,ne_eq] at g2
 refine xP (h:=xP (h:=xP (h:=xP (h:=xF (h:=xM (h:=xP (h:=xP (h:=xP (h:=xP (h:=xF (h:=xA (h:=Zd ?_))))))))))))
 exact eR t1 ⟨Zg (by rw [Bool.eq_iff_iff];simp [ZaS,g1,g2];try omega),rfl,rfl⟩
 try simp only [sQ,ne_eq] at g1
 refine xP (h:=xP (h:=xP (h:=xF (h:=xM (h:=xP (h:=xP (h:=xP (h:=xP (h:=xF (h:=xM (h:=xP (h:=xP (h:=xP (h:=xP (h:=xF (h:=xA (h:=Zd ?_)))))))))))))))))
 exact eR t1 ⟨Zg (by rw [Bool.eq_iff_iff];simp [ZaS,g1];try omega),rfl,rfl⟩

theorem Zu2 (q:Option Addr) (cp:Nat) (xs:List Str) (v:Str) (B:Kn) (ha:SlK B q cp 1 ZbJ xs):ZaH (pj J) 187 [.slice q xs.length cp,str v] B (.int .i64 (Zx6 xs v)):=by
 refine cB 19 Tryz.func187 (h:=?_)
 have han:=ha.len
 refine Za (xA (h:=Zf (Za (xM (h:=xV Tryz.underlying109 (h:=xM (h:=Zl (ZO (α:=Nat) [0,1,7] (fun k=>[(8,.int .i64 k)]) [] (fun k=>[]) (fun k Bx=>Bx=B∧k≤xs.length∧∀x,x∈xs.take k→decide (x=v)=false) (fun k=>xs.length - k) 0 t1 rfl (⟨rfl,Nat.zero_le _,by simp⟩) (fun k B1 hle1 hI=>?_)))))))))
 obtain ⟨rfl,hk,hn⟩:=hI
 refine ZN [(0,_),(1,_),(7,_),(8,_)] [] t4 rfl (Za (Zaa (h:=Zf (Zb rfl (fun g1=>?_) (fun g1=>?_)))))
 try simp only [sQ,ne_eq] at g1
 refine wSk (Zf (Zl (Za (xM (h:=xA (h:=Za (xM (h:=xM (h:=xM (h:=?_))))))))))
 obtain ⟨x,hx⟩:=Zaf (xs:=xs) (i:=k) om
 obtain ⟨bb3,oo3,rfl⟩:=ha.base hx
 obtain ⟨_,⟨rfl,hb4⟩,hc4⟩:=ha.elem hx
 refine xIx Tryz.underlying109 sz9 (h:=y1 lk9 hc4 0 (h:=Zdk (h:=Zb rfl (fun g2=>?_) (fun g2=>?_))))
 try simp only [sQ,ne_eq] at g2
 refine Za (xM (h:=xA (h:=Zd (ZD (Zo (Z3 (ZD (Zo ?_))))))))
 exact eR t1 ⟨ZaJ (ZhW hx (by simp [g2]) hn).symm,rfl,rfl⟩
 try simp only [sQ,ne_eq] at g2
 refine ZK (Zx (Zj (Zc (xD (h:=xM (h:=?_))))))
 exact ZA (k+1) [] so2 ⟨rfl,oz,Zbq hx hn (by simp [Ne.symm g2])⟩ t4 rfl
 try simp only [sQ,ne_eq] at g1
 refine ZT (Zab (ZW (ZG (Zj (Za (xA (h:=Zd ?_)))))))
 exact eR t1 ⟨ZaJ (Zfd (ZbL oz hn)).symm,rfl,rfl⟩

theorem ZpL (q:Option Addr) (cp:Nat) (xs:List Str) (v:Str) (B:Kn) (ha:SlK B q cp 1 ZbJ xs):ZaH (pj J) 165 [.slice q xs.length cp,str v] B (.bool (decide (v∈xs))):=by
 refine cB 9 Tryz.func165 (h:=?_)
 refine Za (xA (h:=Za (xM (h:=xM (h:=xR Zyq rfl (Zu2 _ _ _ _ _ ha) (h:=Zd9 (h:=xA (h:=Zd ?_))))))))
 exact eR t1 ⟨Zg (by rw [Bool.eq_iff_iff];simp [Zs8]),rfl,rfl⟩

theorem Zm6 (q:Option Addr) (cp:Nat) (xs:List Str) (B:Kn) (ha:SlK B q cp 1 ZbJ xs):ZaH (pj J) 126 [.slice q xs.length cp] B (.bool (decide (1≤xs.length) && ZcV xs)):=by
 refine cB 31 Tryz.func126 (h:=?_)
 have han:=ha.len
 refine Za (xA (h:=Zf (Za (xM (h:=xV Tryz.underlying109 (h:=Zaa (h:=xM (h:=Zn (d:=8) rfl (fun g1=>?_) (fun g1=>?_)))))))))
 try simp only [sQ,ne_eq] at g1
 refine xP (h:=xP (h:=xP (h:=xT (h:=Zb (t:=true) rfl (fun _=>Za (xA (h:=Zd (Zo ?_)))) (fun h=>Bool.noConfusion h)))))
 exact eR t1 ⟨Zg (by simp;omega),rfl,rfl⟩
 try simp only [sQ,ne_eq] at g1
 refine xM (h:=xV Tryz.underlying109 (h:=Zbw (h:=xF (h:=Zb rfl (fun g2=>?_) (fun g2=>?_)))))
 try simp only [sQ,ne_eq] at g2
 refine Za (xA (h:=Zd (Zo ?_)))
 exact eR t1 ⟨Zg (by simp [ZcV];omega),rfl,rfl⟩
 try simp only [sQ,ne_eq] at g2
 refine wSk (Zf (Za (xM (h:=xV Tryz.underlying109 (h:=xM (h:=Zl (ZO (α:=Nat) [0,12,13,14] (fun k=>[(15,.int .i64 k)]) [] (fun k=>[]) (fun k Bx=>Bx=B∧k≤xs.length∧(xs.take k).all Zah=true∧(xs.take k).Nodup) (fun k=>xs.length - k) 0 t1 rfl (⟨rfl,Nat.zero_le _,by simp,by simp⟩) (fun k B1 hle1 hI=>?_))))))))
 obtain ⟨rfl,hk,hv,hn⟩:=hI
 refine ZN [(0,_),(12,_),(13,_),(14,_),(15,_)] [] t5 rfl (Za (Zaa (h:=Zf (Zb rfl (fun g3=>?_) (fun g3=>?_)))))
 try simp only [sQ,ne_eq] at g3
 refine wSk (Zf (Zl (Za (xM (h:=?_)))))
 obtain ⟨x,hx⟩:=Zaf (xs:=xs) (i:=k) om
 obtain ⟨bb3,oo3,rfl⟩:=ha.base hx
 obtain ⟨_,⟨rfl,hb4⟩,hc4⟩:=ha.elem hx
 refine xIx Tryz.underlying109 sz9 (h:=y1 lk9 hc4 0 (h:=xA (h:=xA (h:=Za (xM (h:=xR Zuc rfl (Zct _ om2 _) (h:=?_)))))))
 refine xN (h:=xM (h:=Zn (d:=23) rfl (fun g4=>?_) (fun g4=>?_)))
 try simp only [sQ,ne_eq] at g4
 refine xP (h:=xP (h:=xP (h:=xP (h:=xP (h:=xT (h:=Zb (t:=true) rfl (fun _=>Za (xA (h:=Zd (ZD (Zo (Z3 (ZD (Zo ?_)))))))) (fun h=>Bool.noConfusion h)))))))
 exact eR t1 ⟨Zg (by rw [← Zhr hx g4,Bool.and_false]),rfl,rfl⟩
 try simp only [sQ,ne_eq] at g4
 refine xM (h:=xM (h:=?_))
 obtain ⟨hq6,q6,cp6,hv6,hr6⟩:=ha.cutE 0 k om om
 have hr6n:=hr6.len
 refine Zp (Zhh (a:=0) (b:=k) hv6 om hq6 rfl rfl Tryz.underlying109 sz9 rfl rfl ⟨_,_,rfl,by first | omega | (simp;done) | (simp;omega)⟩ ?_)
 refine xM (h:=xR ZyD rfl (ZpL _ _ _ _ _ hr6) (h:=xF (h:=Zb rfl (fun g5=>?_) (fun g5=>?_))))
 try simp only [sQ,ne_eq] at g5
 refine Za (xA (h:=Zd (ZD (Zo (Z3 (ZD (Zo ?_)))))))
 exact eR t1 ⟨Zg (by rw [← Zhq hx (by simpa using g5),Bool.and_false]),rfl,rfl⟩
 try simp only [sQ,ne_eq] at g5
 refine ZK (Zx (Zj (Zc (xD (h:=xM (h:=?_))))))
 exact ZA (k+1) [] so2 ⟨rfl,oz,Zjw hx g4 hv,ZqQ hx hn (by simpa using g5)⟩ t5 rfl
 try simp only [sQ,ne_eq] at g3
 refine ZT (Zab (ZW (ZG (Zj (Za (xA (h:=Zd ?_)))))))
 exact eR t1 ⟨Zg (by rw [← ZiC oz hv hn];simp;omega),rfl,rfl⟩

theorem Zmb (q:Option Addr) (cp:Nat) (x:DLetter) (B:Kn) (ha:SlK B q cp 1 ZbJ x.to_) (h1:x.fr.length≤2000000) (h2:x.text.length≤2000000):ZaH (pj J) 94 [.agg #[str x.fr,.slice q x.to_.length cp,str x.text]] B (.bool (ZaS x)):=by
 refine cB 17 Tryz.func94 (h:=?_)
 refine Za (xBx [_,_,_] (h:=fun b1=>xA (h:=tL1 (Za (xW Zja (h:=x1 lk9 0 (h:=xR Zuc rfl (Zct _ om2 _) (h:=?_))))))))
 refine xM (h:=Zn (d:=6) rfl (fun g1=>?_) (fun g1=>?_))
 refine xW Zi9 (h:=x1 ZcX 0 (h:=xR ZyP rfl (Zm6 _ _ _ _ ha) (h:=xT (h:=xM (h:=Zn (d:=11) rfl (fun g2=>?_) (fun g2=>?_))))))
 refine xW ZnC (h:=x1 lk9 0 (h:=xVs Tryz.underlying9 (h:=ZcP (h:=xT (h:=xA (h:=Zd ?_))))))
 exact eR t1 ⟨Zg (by rw [Zfa];simp [g1,g2]),rfl,rfl⟩
 refine xP (h:=xP (h:=xP (h:=xP (h:=xF (h:=xA (h:=Zd ?_))))))
 exact eR t1 ⟨Zg (by rw [Zfa];simp [g1,g2]),rfl,rfl⟩
 refine xP (h:=xP (h:=xP (h:=xF (h:=xM (h:=xP (h:=xP (h:=xP (h:=xP (h:=xF (h:=xA (h:=Zd ?_)))))))))))
 exact eR t1 ⟨Zg (by rw [Zfa];simp [g1]),rfl,rfl⟩

theorem Znk (b:Nat) (q:Option Addr) (m cp p:Nat) (hp:p≤900000000000) (hm:m≤2000) (B:Kn) (hbm:Zak B q m):Ex1 (pj J) 105 [ptr ⟨b,0,none⟩] B (rd b q m cp p) (fun v s=>∃x:Str,v=str x∧x.length≤40∧s=rd b q m cp (p+2)):=by
 refine cB 12 Tryz.func105 (h:=?_)
 refine Za (xA (h:=Zf (Za (xM (h:=xX 0 rfl Za4 rfl (ZL _ _ _ _ _ _ oz oz oz hm _ hbm) (h:=?_))))))
 rintro _ _ ⟨r1,rfl,r1a,r1b,rfl⟩
 refine ZF (h:=tL1 (Zb rfl (fun g1=>?_) (fun g1=>?_)))
 refine Za (xM (h:=xBs [(0,_),(1,_),(2,_),(3,_),(4,_),(5,_),(6,_),(7,_),(8,_)] [_,_,_,_,_,_,_,_,_] Tryz.underlying109 sz9 zo9 (h:=fun b2=>xK [0,1] rfl ZoB rfl (ZqK _ _ _ _ _ _ ([[],[46],[97,46,46,98],[97,46,98,46,99,46,100],[97,46,98,46,99],[97,98,99,100,101,102,103,104,46,97,98,99,100,101,102,103,104,46,97,98,99],[97,98,99,100,101,102,103,104,46,97,98,99,100,101,102,103,104,46,97,98],[104,111,115,116,46],[72,111,115,116,46,111,114,103]]:List Str) oz (by decide) (by decide) hm _ hbm) (h:=?_))))
 rintro _ B3 _ hle3 ⟨rfl,x3,hx3,rfl,rfl⟩
 replace hx3:=(show∀y∈( ([[],[46],[97,46,46,98],[97,46,98,46,99,46,100],[97,46,98,46,99],[97,98,99,100,101,102,103,104,46,97,98,99,100,101,102,103,104,46,97,98,99],[97,98,99,100,101,102,103,104,46,97,98,99,100,101,102,103,104,46,97,98],[104,111,115,116,46],[72,111,115,116,46,111,114,103]]:List Str):List Str),y.length≤40 from by decide) _ hx3
 refine xA (h:=tL2 (Zd (Zo ?_)))
 exact e1 0 rfl t1 ⟨rfl,_,rfl,_,rfl,hx3,rfl⟩
 refine wSk (Za (xM (h:=xBs [(0,_),(1,_),(2,_),(3,_)] [_,_,_,_] Tryz.underlying109 sz9 zo9 (h:=fun b4=>xK [0,1] rfl ZoB rfl (ZqK _ _ _ _ _ _ ([[104,111,115,116,46,111,114,103],[104,111,115,116],[97,46,98,46,99],[111,116,104,101,114,46,110,101,116]]:List Str) oz (by decide) (by decide) hm _ hbm) (h:=?_)))))
 rintro _ B5 _ hle5 ⟨rfl,x5,hx5,rfl,rfl⟩
 replace hx5:=(show∀y∈( ([[104,111,115,116,46,111,114,103],[104,111,115,116],[97,46,98,46,99],[111,116,104,101,114,46,110,101,116]]:List Str):List Str),y.length≤40 from by decide) _ hx5
 refine xA (h:=tL2 (Zd ?_))
 exact e1 0 rfl t1 ⟨rfl,_,rfl,_,rfl,hx5,rfl⟩

theorem Zm3 (aa:Option Addr) (ca:Nat) (a:DQueue) (ab:Option Addr) (cb:Nat) (b:DQueue) (B:Kn) (ha:SlK B aa ca 4 Zy a.items) (hb:SlK B ab cb 4 Zy b.items):ZaH (pj J) 42 [.agg #[.int .i64 a.next,.slice aa a.items.length ca],.agg #[.int .i64 b.next,.slice ab b.items.length cb]] B (.bool (decide (a=b))):=by
 refine cB 66 Tryz.func42 (h:=?_)
 have han:=ha.len
 have hbn:=hb.len
 refine Za (xBx [_,_] (h:=fun b1=>xBx [_,_] (h:=fun b2=>xA (h:=tL2 (Zf (Za (xW Zd6 (h:=x1 lk3 0 (h:=xW Zd6 (h:=x1 lk3 1 (h:=ZbC (h:=xM (h:=Zn (d:=13) rfl (fun g1=>?_) (fun g1=>?_))))))))))))))
 try simp only [sQ,ne_eq] at g1
 refine xP (h:=xP (h:=xP (h:=xP (h:=xP (h:=xP (h:=xP (h:=xT (h:=Zb (t:=true) rfl (fun _=>Za (xA (h:=Zd (Zo ?_)))) (fun h=>Bool.noConfusion h)))))))))
 exact eR t1 ⟨Zg (by symm;rw [decide_eq_false_iff_not];rintro rfl;exact g1 rfl),rfl,rfl⟩
 try simp only [sQ,ne_eq] at g1
 refine xW Zar (h:=x1 Zey 0 (h:=xV Tryz.underlying25 (h:=xW Zar (h:=x1 Zey 1 (h:=xV Tryz.underlying25 (h:=ZbC (h:=xF (h:=Zb rfl (fun g2=>?_) (fun g2=>?_)))))))))
 try simp only [sQ,ne_eq] at g2
 refine Za (xA (h:=Zd (Zo ?_)))
 exact eR t1 ⟨Zg (by symm;rw [decide_eq_false_iff_not];rintro rfl;exact g2 rfl),rfl,rfl⟩
 try simp only [sQ,ne_eq] at g2
 refine wSk (Zf (Za (xA (h:=Zl (ZO (α:=Nat) [0,1,2,3,21] (fun k=>[(5,.int .i64 k)]) [] (fun k=>[]) (fun k Bx=>Bx=B∧k≤a.items.length∧a.items.take k=b.items.take k) (fun k=>a.items.length - k) 0 t1 rfl (⟨rfl,Nat.zero_le _,by simp⟩) (fun k B3 hle3 hI=>?_))))))
 obtain ⟨rfl,hk,he⟩:=hI
 refine ZN [(0,_),(1,_),(2,_),(3,_),(5,_),(21,_)] [_,_] t6 rfl (Zf (Za (xM (h:=xW Zar (h:=x1 Zey 0 (h:=xV Tryz.underlying25 (h:=Zaa (h:=Zb rfl (fun g3=>?_) (fun g3=>?_)))))))))
 try simp only [sQ,ne_eq] at g3
 refine wSk (Zf (Zl (Za (xW Zar (h:=x1 Zey 0 (h:=xM (h:=?_)))))))
 obtain ⟨x,hx⟩:=Zaf (xs:=a.items) (i:=k) om
 obtain ⟨bb5,oo5,rfl⟩:=ha.base hx
 obtain ⟨_,⟨qi6,ci6,rfl,hi6,hb6,hb6b⟩,hc6⟩:=ha.elem hx
 have hi6n:=hi6.len
 refine xIx Tryz.underlying25 Zbg (h:=yL [_,_,_,_] ZdF hc6 0 (h:=xAl [_,_,_,_] ZcM (h:=fun b7=>xS [_,_,_,_] 2 [_,_,_,_] Zbg (h:=tL3 (Za (xW Zar (h:=x1 Zey 1 (h:=xM (h:=?_)))))))))
 obtain ⟨y,hy⟩:=Zaf (xs:=b.items) (i:=k) om
 obtain ⟨bb9,oo9,rfl⟩:=hb.base hy
 obtain ⟨_,⟨qi10,ci10,rfl,hi10,hb10,hb10b⟩,hc10⟩:=hb.elem hy
 have hi10n:=hi10.len
 refine xIx Tryz.underlying25 Zbg (h:=yL [_,_,_,_] ZdF hc10 0 (h:=xAl [_,_,_,_] ZcM (h:=fun b11=>xS [_,_,_,_] 3 [_,_,_,_] Zbg (h:=tL4 (Za (xW ZcZ (h:=x1 lk3 2 (h:=xW ZcZ (h:=x1 lk3 3 (h:=ZbC (h:=xM (h:=Zn (d:=44) rfl (fun g4=>?_) (fun g4=>?_)))))))))))))
 try simp only [sQ,ne_eq] at g4
 refine xP (h:=xP (h:=xP (h:=xP (h:=xP (h:=xT (h:=xM (h:=xP (h:=xP (h:=xP (h:=xP (h:=xP (h:=xT (h:=xM (h:=xP (h:=xP (h:=xP (h:=xP (h:=xP (h:=xP (h:=xT (h:=Zb (t:=true) rfl (fun _=>Za (xA (h:=Zd (ZD (Zo (Z3 (ZD (Zo ?_)))))))) (fun h=>Bool.noConfusion h))))))))))))))))))))))
 exact eR t1 ⟨Zg (ZhN hx hy (fun e=>g4 (by rw [e]))),rfl,rfl⟩
 try simp only [sQ,ne_eq] at g4
 refine xW Zg1 (h:=x1 lk9 2 (h:=xW Zg1 (h:=x1 lk9 3 (h:=ZfD (h:=xF (h:=xM (h:=Zn (d:=51) rfl (fun g5=>?_) (fun g5=>?_))))))))
 try simp only [sQ,ne_eq] at g5
 refine xP (h:=xP (h:=xP (h:=xP (h:=xP (h:=xT (h:=xM (h:=xP (h:=xP (h:=xP (h:=xP (h:=xP (h:=xP (h:=xT (h:=Zb (t:=true) rfl (fun _=>Za (xA (h:=Zd (ZD (Zo (Z3 (ZD (Zo ?_)))))))) (fun h=>Bool.noConfusion h)))))))))))))))
 exact eR t1 ⟨Zg (ZhN hx hy (fun e=>g5 (by rw [e]))),rfl,rfl⟩
 try simp only [sQ,ne_eq] at g5
 refine xW Zjd (h:=x1 lk9 2 (h:=xW Zjd (h:=x1 lk9 3 (h:=ZfD (h:=xF (h:=xM (h:=Zn (d:=58) rfl (fun g6=>?_) (fun g6=>?_))))))))
 try simp only [sQ,ne_eq] at g6
 refine xP (h:=xP (h:=xP (h:=xP (h:=xP (h:=xP (h:=xT (h:=Zb (t:=true) rfl (fun _=>Za (xA (h:=Zd (ZD (Zo (Z3 (ZD (Zo ?_)))))))) (fun h=>Bool.noConfusion h))))))))
 exact eR t1 ⟨Zg (ZhN hx hy (fun e=>g6 (by rw [e]))),rfl,rfl⟩
 try simp only [sQ,ne_eq] at g6
 refine xW ZaG (h:=x1 ZcX 2 (h:=xW ZaG (h:=x1 ZcX 3 (h:=xR ZzT rfl (Zm4 _ _ _ _ _ _ _ hi6 hi10) (h:=xN (h:=xF (h:=Zb rfl (fun g7=>?_) (fun g7=>?_))))))))
 try simp only [sQ,ne_eq] at g7
 refine Za (xA (h:=Zd (ZD (Zo (Z3 (ZD (Zo ?_)))))))
 exact eR t1 ⟨Zg (ZhN hx hy (fun e=>g7 (by rw [e]))),rfl,rfl⟩
 try simp only [sQ,ne_eq] at g7
 refine ZK (Zx (Zj (Zc (xM (h:=xD (h:=xA (h:=?_)))))))
 exact ZA (k+1) [0,1] so2 ⟨rfl,oz,Zcq hx hy (by cases x;cases y;simp_all) he⟩ t6 rfl
 try simp only [sQ,ne_eq] at g3
 refine ZT (Zab (ZW (ZG (Zj (Za (xA (h:=Zd ?_)))))))
 exact eR t1 ⟨Zg (by symm;rw [decide_eq_true_eq];cases a;cases b;rw [DQueue.mk.injEq];exact ⟨g1,by have:=eqT (inst:=Classical.propDecidable _) oz oz he;simpa using this.symm⟩),rfl,rfl⟩

theorem ZfS (aq:Option Addr) (cq:Nat) (q:DQueue) (B:Kn) (hq:SlK B aq cq 4 Zy q.items):ZaH (pj J) 76 [.agg #[.int .i64 q.next,.slice aq q.items.length cq]] B (.bool (Zad q)):=by
 refine cB 48 Tryz.func76 (h:=?_)
 have hqn:=hq.len
 refine Za (xBx [_,_] (h:=fun b1=>xA (h:=tL1 (Za (xA (h:=Zf (Za (xA (h:=Zl (ZO (α:=Nat × Int) [0,1] (fun p=>[(3,.int .i64 p.2),(4,.int .i64 p.1)]) [] (fun p=>[]) (fun p Bx=>Bx=B∧p.1≤q.items.length∧Zc7 0 q.items=Zc7 p.2 (q.items.drop p.1)∧0≤p.2∧p.2≤99) (fun p=>q.items.length - p.1) (0,0) t2 rfl (⟨rfl,Nat.zero_le _,rfl,by decide,by decide⟩) (fun p B2 hle2 hI=>?_)))))))))))
 obtain ⟨rfl,hk,hs,hl0,hl1⟩:=hI
 refine ZN [(0,_),(1,_),(3,_),(4,_)] [_] t4 rfl (Zf (Za (xM (h:=xW Zar (h:=x1 Zey 0 (h:=xV Tryz.underlying25 (h:=Zaa (h:=Zb rfl (fun g1=>?_) (fun g1=>?_)))))))))
 try simp only [sQ,ne_eq] at g1
 refine wSk (Zf (Zl (Za (xW Zar (h:=x1 Zey 0 (h:=xM (h:=?_)))))))
 obtain ⟨x,hx⟩:=Zaf (xs:=q.items) (i:=p.1) om
 obtain ⟨bb4,oo4,rfl⟩:=hq.base hx
 obtain ⟨_,⟨qi5,ci5,rfl,hi5,hb5,hb5b⟩,hc5⟩:=hq.elem hx
 have hi5n:=hi5.len
 refine xIx Tryz.underlying25 Zbg (h:=?_)
 replace hs:=Zqz hs hx
 refine yL [_,_,_,_] ZdF hc5 0 (h:=xAl [_,_,_,_] ZcM (h:=fun b6=>xS [_,_,_,_] 1 [_,_,_,_] Zbg (h:=tL2 (Zf (Za (xW ZcZ (h:=x1 lk3 1 (h:=xM (h:=xD (h:=xR Zko rfl (Zcs _ _ _ _) (h:=xN (h:=xM (h:=Zn (d:=24) rfl (fun g2=>?_) (fun g2=>?_))))))))))))))
 try simp only [sQ,ne_eq] at g2
 refine xP (h:=xP (h:=xP (h:=xP (h:=xP (h:=xP (h:=xP (h:=xP (h:=xP (h:=xT (h:=Zb (t:=true) rfl (fun _=>Za (xA (h:=Zd (Zo (ZD (Zo (Z3 (ZD (Zo ?_))))))))) (fun h=>Bool.noConfusion h)))))))))))
 exact eR t1 ⟨Zg (Zof (by rw [hs,if_neg];intro h;simp [h.1] at g2)),rfl,rfl⟩
 try simp only [sQ,ne_eq] at g2
 simp only [Bool.and_eq_true,decide_eq_true_eq] at g2
 refine xW Zg1 (h:=x1 lk9 1 (h:=xW ZaG (h:=x1 ZcX 1 (h:=xW Zjd (h:=x1 lk9 1 (h:=xB [(0,_),(1,_),(2,_)] [_,_,_] [_,_,_] ZsI ZoL (h:=xR ZvA rfl (Ze1 _ _ ⟨x.fr,x.left,x.text⟩ _ hi5 oa oa) (h:=?_))))))))
 refine xN (h:=xF (h:=Zb rfl (fun g3=>?_) (fun g3=>?_)))
 try simp only [sQ,ne_eq] at g3
 refine Za (xA (h:=Zd (Zo (ZD (Zo (Z3 (ZD (Zo ?_))))))))
 exact eR t1 ⟨Zg (Zof (by rw [hs,if_neg];intro h;rw [ZcF,g3] at h;cases h.2)),rfl,rfl⟩
 try simp only [sQ,ne_eq] at g3
 refine wSk (Zc (xW ZcZ (h:=x1 lk3 1 (h:=xA (h:=Zx (Zj (Zc (xM (h:=xD (h:=xA (h:=?_)))))))))))
 exact ZA (p.1+1,x.id) [0] so2 ⟨rfl,so,by rw [hs,if_pos ⟨g2,g3⟩],so,so⟩ t4 rfl
 try simp only [sQ,ne_eq] at g1
 rw [ZrM oz,Zc7] at hs
 refine ZT (Zab (ZW (ZG (Zj (Za (xW Zd6 (h:=x1 lk3 0 (h:=xM (h:=xD (h:=xR Zko rfl (Zcs _ _ _ _) (h:=xM (h:=Zn (d:=42) rfl (fun g1=>?_) (fun g1=>?_)))))))))))))
 try simp only [sQ,ne_eq] at g1
 refine xW Zar (h:=x1 Zey 0 (h:=xV Tryz.underlying25 (h:=ZcP (h:=xT (h:=xA (h:=Zd ?_))))))
 exact eR t1 ⟨Zg (by rw [← Zoe hs,Bool.eq_iff_iff];simp [g1,g1];try omega),rfl,rfl⟩
 try simp only [sQ,ne_eq] at g1
 refine xP (h:=xP (h:=xP (h:=xP (h:=xF (h:=xA (h:=Zd ?_))))))
 exact eR t1 ⟨Zg (by rw [← Zoe hs,Bool.eq_iff_iff];simp [g1,g1];try omega),rfl,rfl⟩

theorem Zs1 (l:Str) (n:Nat) (hl:l.length*n≤100000) (hn:n≤100000) (hl2:l.length≤100000) (B:Kn):ZaH (pj J) 69 [str l,.int .i64 n] B (str (rep l n)):=by
 refine cB 20 Tryz.func69 (h:=?_)
 refine Za (xA (h:=Za (xA (h:=Zf (Zl (ZO (α:=Str × Str × Nat) [4] (fun p=>[(0,str p.1),(1,.int .i64 p.2.2),(5,str p.2.1)]) [] (fun p=>[]) (fun p Bx=>Bx=B∧rep l n=p.2.1 ++ rep p.1 p.2.2∧p.2.2≤n∧p.1.length≤200000∧p.2.1.length≤100000∧(0<p.2.2→p.1.length≤100000)) (fun p=>p.2.2) (l,[],n) t3 rfl (⟨rfl,rfl,Nat.le_refl _,so,by simp,fun _=>hl2⟩) (fun p B1 hle1 hI=>?_)))))))
 obtain ⟨rfl,hr,h1,h2,h3,h4⟩:=hI
 have hrl:=congrArg List.length hr
 rw [List.length_append,ZkK,ZkK,Nat.mul_comm] at hrl
 refine ZN [(0,_),(1,_),(4,_),(5,_)] [] t4 rfl (Zf (Za (xM (h:=Zbw (h:=Zb rfl (fun g1=>?_) (fun g1=>?_))))))
 try simp only [sQ,ne_eq] at g1
 have hp0:0<p.2.2:=by omega
 replace h4:=h4 hp0
 have hm1:=Nat.le_mul_of_pos_left p.1.length hp0
 have e1:Int.tdiv (p.2.2:Int) 2=((p.2.2 / 2:Nat):Int):=by rw [Int.tdiv_eq_ediv_of_nonneg oz];omega
 have e2:Int.tmod (p.2.2:Int) 2=((p.2.2 % 2:Nat):Int):=by rw [Int.tmod_eq_emod_of_nonneg oz];omega
 refine wSk (Zl (Zf (Za (xM (h:=Zp (Zgh rfl rfl rfl rfl oz rfl ?_))))))
 refine ZF (h:=Zb rfl (fun g2=>?_) (fun g2=>?_))
 try simp only [sQ,ne_eq] at g2
 rw [e2] at g2
 have hro:=ZuD p.1 p.2.2 oz
 have hol:=ZkK (p.1 ++ p.1) (p.2.2 / 2)
 refine Zc (xM (h:=xM (h:=Zp (Zup rfl rfl rfl rfl (by first | omega | (simp;omega)) ?_))))
 refine xA (h:=Zj (Za (xM (h:=xM (h:=Zp (Zup rfl rfl rfl rfl (by first | omega | (simp;omega)) ?_))))))
 refine xA (h:=Zc (xM (h:=Zp (ZfL rfl rfl rfl rfl oz (by first | exact ZaR om om | rfl) ?_))))
 refine xA (h:=Zx ?_)
 exact ZA (p.1 ++ p.1,p.2.1 ++ p.1,p.2.2 / 2) [] so2 ⟨rfl,by rw [hr,hro,List.append_assoc],so,by simp only [List.length_append];omega,by simp only [List.length_append];omega,fun h=>by simp only [List.length_append] at h ⊢;have:=Nat.mul_le_mul_right p.1.length (show 2≤p.2.2 by omega);omega⟩ t4 rfl
 try simp only [sQ,ne_eq] at g2
 rw [e2] at g2
 have hro:=Zsz p.1 p.2.2 oz
 refine wSk (Za (xM (h:=xM (h:=Zp (Zup rfl rfl rfl rfl (by first | omega | (simp;omega)) ?_)))))
 refine xA (h:=Zc (xM (h:=Zp (ZfL rfl rfl rfl rfl oz (by first | exact ZaR om om | rfl) ?_))))
 refine xA (h:=Zx ?_)
 exact ZA (p.1 ++ p.1,p.2.1,p.2.2 / 2) [] so2 ⟨rfl,by rw [hr,hro],so,by simp only [List.length_append];omega,h3,fun h=>by simp only [List.length_append] at h ⊢;have:=Nat.mul_le_mul_right p.1.length (show 2≤p.2.2 by omega);omega⟩ t4 rfl
 try simp only [sQ,ne_eq] at g1
 refine ZT (Zab (ZW (ZG (Zj (Za (xM (h:=xA (h:=Zd ?_))))))))
 exact eR t1 ⟨Zwt (by rw [hr,show p.2.2=0 from by omega];simp [rep]),rfl,rfl⟩

theorem ZdG (b:Nat) (q:Option Addr) (m cp p:Nat) (hp:p≤900000000000) (hm:m≤2000) (B:Kn) (hbm:Zak B q m):Ex1 (pj J) 28 [ptr ⟨b,0,none⟩] B (rd b q m cp p) (fun v s=>∃x:Str,v=str x∧x.length≤40∧s=rd b q m cp (p+2)):=by
 refine cB 13 Tryz.func28 (h:=?_)
 refine Za (xA (h:=Zf (Za (xM (h:=xX 0 rfl Za4 rfl (ZL _ _ _ _ _ _ oz oz oz hm _ hbm) (h:=?_))))))
 rintro _ _ ⟨r1,rfl,r1a,r1b,rfl⟩
 refine ZF (h:=tL1 (Zb rfl (fun g1=>?_) (fun g1=>?_)))
 refine Za (xM (h:=xX 0 rfl Za4 rfl (ZL _ _ _ _ _ _ oz oz oz hm _ hbm) (h:=?_)))
 rintro _ _ ⟨ra,rfl,raa,rab,rfl⟩
 refine xD (h:=?_)
 obtain ⟨n3,hn3⟩:=Int.eq_ofNat_of_zero_le (show 0≤19+ra by omega)
 rw [hn3]
 refine xR Zz0 rfl (Zs1 [120] n3 (by simp;omega) oz (by decide) _) (h:=?_)
 refine xA (h:=tL1 (Zd (Zo ?_)))
 exact e1 0 rfl t1 ⟨rfl,_,rfl,_,rfl,by rw [ZkK];simp;omega,rfl⟩
 refine wSk (Za (xM (h:=xBs [(0,_),(1,_),(2,_),(3,_),(4,_),(5,_)] [_,_,_,_,_,_] Tryz.underlying109 sz9 zo9 (h:=fun b4=>xK [0,1] rfl ZoB rfl (ZqK _ _ _ _ _ _ ([[],[104,101,108,108,111],[97,109,121,32,97,110,100,32,98,111,98],[120],[98,111,120,49,32,111,114,32,120],[116,111,32,98,111,98]]:List Str) oz (by decide) (by decide) hm _ hbm) (h:=?_)))))
 rintro _ B5 _ hle5 ⟨rfl,x5,hx5,rfl,rfl⟩
 replace hx5:=(show∀y∈( ([[],[104,101,108,108,111],[97,109,121,32,97,110,100,32,98,111,98],[120],[98,111,120,49,32,111,114,32,120],[116,111,32,98,111,98]]:List Str):List Str),y.length≤40 from by decide) _ hx5
 refine xA (h:=tL2 (Zd ?_))
 exact e1 0 rfl t1 ⟨rfl,_,rfl,_,rfl,hx5,rfl⟩

theorem ZuU (b:Nat) (q:Option Addr) (m cp p:Nat) (hp:p≤900000000000) (hm:m≤2000) (B:Kn) (hbm:Zak B q m):Zu (pj J) 175 [ptr ⟨b,0,none⟩] B [rd b q m cp p] (fun v B' Ls=>∃q' cp' xs p',v = .slice q' xs.length cp'∧SlK B' q' cp' 1 ZbJ xs∧xs.length≤6∧p'≤p+6∧Ls=[rd b q m cp p']):=by
 refine cB 53 Tryz.func175 (h:=?_)
 refine Za (xA (h:=Za (xBs [] [] Tryz.underlying109 sz9 zo9 (h:=fun b1=>xA (h:=tL2 (Za (xBs [(0,_),(1,_),(2,_),(3,_)] [_,_,_,_] Tryz.underlying109 sz9 zo9 (h:=fun b2=>xA (h:=tL3 (ZdU 2 rfl (ZZ.strs (ls:=([[97,109,121],[98,111,98],[99,121,100],[100,97,110]]:List Str)) (by first | decide | (simp;done) | (simp;omega))) ZbJ.mono om3 (fun B3 hle3 hr3=>?_)))))))))))
 replace hbm:=hbm.mono hle3
 have hr3n:=hr3.len
 refine Zf (Za (xA (h:=tL3 (Zl (ZO (α:=Gh Str) [0,2,4] (fun x=>[(3,.slice x.a x.xs.length x.c),(5,.int .i64 x.k)]) [0,1] (fun x=>[rd b q m cp x.p,x.l]) (fun x Bx=>Bx=B3∧x.k≤3∧x.xs.length≤x.k∧x.p≤p+x.k∧ZZ Bx x.l x.a x.c 9 1 ZbJ x.xs) (fun x=>3 - x.k) ⟨0,p,_,_,_,[]⟩ t2 rfl (⟨rfl,Nat.zero_le _,Nat.le_refl _,Nat.le_refl _,.lit0⟩) (fun x B4 hle4 hI=>?_))))))
 obtain ⟨rfl,hk,hxk,hxp,hv⟩:=hI
 refine ZN [(0,_),(2,_),(3,_),(4,_),(5,_)] [_,_,_] t5 rfl (Zf (Za (xM (h:=Zaa (h:=Zb rfl (fun g1=>?_) (fun g1=>?_))))))
 try simp only [sQ,ne_eq] at g1
 refine wSk (Zf (Zl (Za (xM (h:=xX 0 rfl Za4 rfl (ZL _ _ _ _ _ _ oz oz oz hm _ hbm) (h:=?_))))))
 rintro _ _ ⟨r5,rfl,r5a,r5b,rfl⟩
 refine ZF (h:=tL3 (Zb rfl (fun g2=>?_) (fun g2=>?_)))
 try simp only [sQ,ne_eq] at g2
 refine Zc (xM (h:=xM (h:=xM (h:=?_))))
 obtain ⟨y,hy⟩:=Zaf (xs:=([[97,109,121],[98,111,98],[99,121,100],[100,97,110]]:List Str)) (i:=x.k) om
 obtain ⟨_,⟨rfl,hb7⟩,hc7⟩:=hr3.elem hy
 refine xIx Tryz.underlying109 sz9 (h:=y1 lk9 hc7 0 (h:=xBs [(0,_)] [_] Tryz.underlying109 sz9 zo9 (h:=fun b8=>Zp (Zbc (z:=y) (R:=ZbJ) 1 rfl hv rfl rfl rfl Zg4 ZgL rfl rfl (ZaN.box 3 rfl) rfl rfl (⟨rfl,by first | assumption | omega | (simp;done) | (simp;omega)⟩) om (fun l9 p9 c9 hv9=>?_)))))
 refine xA (h:=Zx (Zj (Zc (xM (h:=xD (h:=xA (h:=?_)))))))
 exact ZA ⟨x.k+1,(x.p+1),l9,p9,c9,(x.xs ++ [y])⟩ [0,1,2] so2 ⟨rfl,so,by simp;omega,so,hv9⟩ t5 rfl
 try simp only [sQ,ne_eq] at g2
 refine ZK (Zx (Zj (Zc (xM (h:=xD (h:=xA (h:=?_)))))))
 exact ZA ⟨x.k+1,(x.p+1),x.l,x.a,x.c,x.xs⟩ [0,1,2] so2 ⟨rfl,so,so,so,hv⟩ t5 rfl
 try simp only [sQ,ne_eq] at g1
 refine ZT (Zab (ZW (ZG (Zj (Zf (Za (xM (h:=xV Tryz.underlying109 (h:=ZF (h:=Zb rfl (fun g3=>?_) (fun g3=>?_)))))))))))
 try simp only [sQ,ne_eq] at g3
 refine Zc (xM (h:=xM (h:=xM (h:=xX 0 rfl Za4 rfl (ZL _ _ _ _ _ _ oz oz oz hm _ hbm) (h:=?_)))))
 rintro _ _ ⟨r10,rfl,r10a,r10b,rfl⟩
 obtain ⟨z,hz⟩:=Zeh (xs:=([[97,109,121],[98,111,98],[99,121,100],[100,97,110]]:List Str)) (i:=r10) om om
 obtain ⟨_,⟨rfl,hb12⟩,hc12⟩:=hr3.elem hz
 refine xIx Tryz.underlying109 sz9 (h:=y1 lk9 hc12 0 (h:=xBs [(0,_)] [_] Tryz.underlying109 sz9 zo9 (h:=fun b13=>Zp (Zbc (z:=z) (R:=ZbJ) 1 rfl hv rfl rfl rfl Zg4 ZgL rfl rfl (ZaN.box 3 rfl) rfl rfl (⟨rfl,by first | assumption | omega | (simp;done) | (simp;omega)⟩) om (fun l14 p14 c14 hv14=>?_)))))
 refine xA (h:=Zj (Zf (Za (xM (h:=xX 0 rfl Za4 rfl (ZL _ _ _ _ _ _ oz oz oz hm _ hbm) (h:=?_))))))
 rintro _ _ ⟨r15,rfl,r15a,r15b,rfl⟩
 refine tL4 (Zl (Za (ZF (h:=xA (h:=Zb rfl (fun g4=>?_) (fun g4=>?_))))))
 try simp only [sQ,ne_eq] at g4
 refine Zc (xM (h:=xM (h:=?_)))
 obtain ⟨w,hw⟩:=Zaf (xs:=(x.xs ++ [z])) (i:=0) om
 obtain ⟨bb17,_,hp17,⟨rfl,hb17⟩,hw17,hc17⟩:=hv14.row hw
 refine xIp hp17 Tryz.underlying109 sz9 (h:=Zp (Zh rfl rfl lk9 rfl (hc17 _ 1 rfl 0 _ rfl) (xBs [(0,_)] [_] Tryz.underlying109 sz9 zo9 (h:=fun b18=>Zp (Zbc (z:=w) (R:=ZbJ) 1 rfl hv14 rfl rfl rfl Zg4 ZgL rfl rfl (ZaN.box 4 rfl) rfl rfl (⟨rfl,by first | assumption | omega | (simp;done) | (simp;omega)⟩) om (fun l19 p19 c19 hv19=>?_))))))
 refine xA (h:=Zx (Zj (ZdU 1 rfl hv19 ZbJ.mono om3 (fun B20 hle20 hr20=>?_))))
 replace hbm:=hbm.mono hle20
 have hr20n:=hr20.len
 refine Za (xM (h:=xA (h:=tL5 (Zd ?_))))
 exact eN [0] rfl t1 ⟨_,_,_,_,rfl,hr20,by first | omega | (simp;done) | (simp;omega),oz,rfl⟩
 try simp only [sQ,ne_eq] at g4
 refine Za (ZF (h:=xA (h:=Zb rfl (fun g5=>?_) (fun g5=>?_))))
 try simp only [sQ,ne_eq] at g5
 refine Zc (xM (h:=Zp (Zfp rfl rfl Tryz.underlying109 sz9 rfl (a:=0) (b:=0) rfl ⟨_,_,rfl,rfl⟩ oz oz ?_)))
 refine xA (h:=Zx (Zj (Za (xM (h:=xA (h:=Zd ?_))))))
 exact eN [0] rfl t1 ⟨_,_,[],_,rfl,SlK.nil,Nat.zero_le _,oz,rfl⟩
 try simp only [sQ,ne_eq] at g5
 refine Za (ZF (h:=xA (h:=Zb rfl (fun g6=>?_) (fun g6=>?_))))
 try simp only [sQ,ne_eq] at g6
 refine Zc (xM (h:=xBs [(0,_),(1,_)] [_,_] Tryz.underlying109 sz9 zo9 (h:=fun b21=>Zp (Zn1 (rows:=(([[100,97,110],[101,118,101]]:List Str)).map fun x=>[str x]) (ys:=([[100,97,110],[101,118,101]]:List Str)) (R:=ZbJ) 1 rfl hv14 rfl rfl rfl Zg4 ZgL rfl rfl rfl (ZaN.box 4 rfl) rfl Zv0 (ZvI (by decide)) om (fun l22 p22 c22 hv22=>?_)))))
 refine xA (h:=Zx (Zj (ZdU 1 rfl hv22 ZbJ.mono om3 (fun B23 hle23 hr23=>?_))))
 replace hbm:=hbm.mono hle23
 have hr23n:=hr23.len
 refine Za (xM (h:=xA (h:=tL5 (Zd ?_))))
 exact eN [0] rfl t1 ⟨_,_,_,_,rfl,hr23,by first | omega | (simp;done) | (simp;omega),oz,rfl⟩
 try simp only [sQ,ne_eq] at g6
 refine ZK (Zx (Zj (ZdU 1 rfl hv14 ZbJ.mono om3 (fun B24 hle24 hr24=>?_))))
 replace hbm:=hbm.mono hle24
 have hr24n:=hr24.len
 refine Za (xM (h:=xA (h:=tL4 (Zd ?_))))
 exact eN [0] rfl t1 ⟨_,_,_,_,rfl,hr24,by first | omega | (simp;done) | (simp;omega),oz,rfl⟩
 try simp only [sQ,ne_eq] at g3
 refine wSk (Zf (Za (xM (h:=xX 0 rfl Za4 rfl (ZL _ _ _ _ _ _ oz oz oz hm _ hbm) (h:=?_)))))
 rintro _ _ ⟨r25,rfl,r25a,r25b,rfl⟩
 refine tL3 (Zl (Za (ZF (h:=xA (h:=Zb rfl (fun g4=>?_) (fun g4=>?_))))))
 try simp only [sQ,ne_eq] at g4
 refine Zc (xM (h:=xM (h:=?_)))
 obtain ⟨w,hw⟩:=Zaf (xs:=x.xs) (i:=0) om
 obtain ⟨bb27,_,hp27,⟨rfl,hb27⟩,hw27,hc27⟩:=hv.row hw
 refine xIp hp27 Tryz.underlying109 sz9 (h:=Zp (Zh rfl rfl lk9 rfl (hc27 _ 1 rfl 0 _ rfl) (xBs [(0,_)] [_] Tryz.underlying109 sz9 zo9 (h:=fun b28=>Zp (Zbc (z:=w) (R:=ZbJ) 1 rfl hv rfl rfl rfl Zg4 ZgL rfl rfl (ZaN.box 3 rfl) rfl rfl (⟨rfl,by first | assumption | omega | (simp;done) | (simp;omega)⟩) om (fun l29 p29 c29 hv29=>?_))))))
 refine xA (h:=Zx (Zj (ZdU 1 rfl hv29 ZbJ.mono om3 (fun B30 hle30 hr30=>?_))))
 have hr30n:=hr30.len
 refine Za (xM (h:=xA (h:=tL4 (Zd ?_))))
 exact eN [0] rfl t1 ⟨_,_,_,_,rfl,hr30,by first | omega | (simp;done) | (simp;omega),oz,rfl⟩
 try simp only [sQ,ne_eq] at g4
 refine Za (ZF (h:=xA (h:=Zb rfl (fun g5=>?_) (fun g5=>?_))))
 try simp only [sQ,ne_eq] at g5
 refine Zc (xM (h:=Zp (Zfp rfl rfl Tryz.underlying109 sz9 rfl (a:=0) (b:=0) rfl ⟨_,_,rfl,rfl⟩ oz oz ?_)))
 refine xA (h:=Zx (Zj (Za (xM (h:=xA (h:=Zd ?_))))))
 exact eN [0] rfl t1 ⟨_,_,[],_,rfl,SlK.nil,Nat.zero_le _,oz,rfl⟩
 try simp only [sQ,ne_eq] at g5
 refine Za (ZF (h:=xA (h:=Zb rfl (fun g6=>?_) (fun g6=>?_))))
 try simp only [sQ,ne_eq] at g6
 refine Zc (xM (h:=xBs [(0,_),(1,_)] [_,_] Tryz.underlying109 sz9 zo9 (h:=fun b31=>Zp (Zn1 (rows:=(([[100,97,110],[101,118,101]]:List Str)).map fun x=>[str x]) (ys:=([[100,97,110],[101,118,101]]:List Str)) (R:=ZbJ) 1 rfl hv rfl rfl rfl Zg4 ZgL rfl rfl rfl (ZaN.box 3 rfl) rfl Zv0 (ZvI (by decide)) om (fun l32 p32 c32 hv32=>?_)))))
 refine xA (h:=Zx (Zj (ZdU 1 rfl hv32 ZbJ.mono om3 (fun B33 hle33 hr33=>?_))))
 have hr33n:=hr33.len
 refine Za (xM (h:=xA (h:=tL4 (Zd ?_))))
 exact eN [0] rfl t1 ⟨_,_,_,_,rfl,hr33,by first | omega | (simp;done) | (simp;omega),oz,rfl⟩
 try simp only [sQ,ne_eq] at g6
 refine ZK (Zx (Zj (ZdU 1 rfl hv ZbJ.mono om3 (fun B34 hle34 hr34=>?_))))
 have hr34n:=hr34.len
 refine Za (xM (h:=xA (h:=tL3 (Zd ?_))))
 exact eN [0] rfl t1 ⟨_,_,_,_,rfl,hr34,by first | omega | (simp;done) | (simp;omega),oz,rfl⟩

theorem Zay (aq:Option Addr) (cq:Nat) (q:DQueue) (B:Kn) (hq:SlK B aq cq 4 Zy q.items):Zu (pj J) 83 [.agg #[.int .i64 q.next,.slice aq q.items.length cq]] B [] (fun v B' Ls=>∃l a cp,Ls=[l]∧v = .agg #[.int .i64 q.next,.slice a q.items.length cp]∧ZZ (B'.less B) l a cp 117 4 Zy q.items):=by
 refine cB 34 Tryz.func83 (h:=?_)
 have hqn:=hq.len
 refine Za (xBx [_,_] (h:=fun b1=>xAl [_,_] ZhC (h:=fun b2=>tL2 (Za (xW Zd6 (h:=x1 lk3 0 (h:=xBs [] [] Tryz.underlying25 Zbg ZcM (h:=fun b3=>xB [(0,_),(1,_)] [_,_] [_,_] Zt6 ZhC (h:=xAl [_,_] ZhC (h:=fun b4=>xS [_,_] 3 [_,_] ZfA (h:=tL4 (Zf (Za (xA (h:=Zl (ZO (α:=Gh DItem) [0,1,2,3] (fun g=>[(4,.int .i64 g.k)]) [2,3] (fun g=>[g.l,Zas b4 [.int .i64 q.next,.slice g.a g.xs.length g.c] 27]) (fun g Bx=>g.k≤q.items.length∧g.xs=q.items.take g.k∧ZZ (Bx.less B) g.l g.a g.c 117 4 Zy g.xs) (fun g=>q.items.length - g.k) ⟨0,0,_,_,_,[]⟩ t1 rfl (⟨Nat.zero_le _,rfl,.lit0⟩) (fun g B5 hle5 hI=>?_)))))))))))))))))
 obtain ⟨hk,hxs,hv⟩:=hI
 have hxn:=congrArg List.length hxs
 rw [List.length_take] at hxn
 replace hq:=up1 hle5 hq
 refine ZN [(0,_),(1,_),(2,_),(3,_),(4,_)] [_,_,_,_] t5 rfl (Zf (Za (xM (h:=xW Zar (h:=x1 Zey 0 (h:=xV Tryz.underlying25 (h:=Zaa (h:=Zb rfl (fun g1=>?_) (fun g1=>?_)))))))))
 try simp only [sQ,ne_eq] at g1
 refine wSk (Zf (Zl (Za (xW Zar (h:=x1 Zey 0 (h:=xM (h:=?_)))))))
 obtain ⟨x,hx⟩:=Zaf (xs:=q.items) (i:=g.k) om
 obtain ⟨bb7,oo7,rfl⟩:=hq.base hx
 obtain ⟨_,⟨qi8,ci8,rfl,hi8,hb8,hb8b⟩,hc8⟩:=hq.elem hx
 have hi8n:=hi8.len
 refine xIx Tryz.underlying25 Zbg (h:=yL [_,_,_,_] ZdF hc8 0 (h:=xAl [_,_,_,_] ZcM (h:=fun b9=>xS [_,_,_,_] 4 [_,_,_,_] Zbg (h:=tL5 (Za (xBs [] [] Tryz.underlying109 sz9 zo9 (h:=fun b10=>xW ZaG (h:=x1 ZcX 4 (h:=Zp (ZaU (R:=ZbJ) 5 rfl (ZZ.lit0 (R:=ZbJ)) rfl rfl rfl Zg4 ZgL rfl rfl rfl hi8.rows ZbJ.one rfl om (fun l11 p11 c11 hv11=>?_)))))))))))
 refine xW ZaG (h:=xS [_] 4 [_,_,_,_] ZoS (h:=tL6 (Zp3 5 rfl hv11 ZbJ.any om3 hle5 (fun B12 hle12 hr12f=>?_))))
 have hr12:=hr12f.mono ZbJ.mono Kn.less_le
 replace hv:=hv.mono Zy.mono (Kn.less_mono hle12)
 have hr12n:=hr12.len
 refine Zc (xW Zar (h:=x1 Zey 3 (h:=xL [_,_,_,_] ZdF 4 (h:=xBs [(0,_)] [_,_,_,_] Tryz.underlying25 Zbg ZcM (h:=fun b13=>Zp (Zbc (z:=⟨x.id,x.fr,x.text,x.left⟩) (R:=Zy) 2 rfl hv rfl rfl rfl ZvS ZvP rfl rfl (ZaN.box 6 rfl) rfl rfl (⟨_,_,rfl,hr12f,by first | assumption | omega | (simp;done) | (simp;omega),by first | assumption | omega | (simp;done) | (simp;omega)⟩) om (fun l14 p14 c14 hv14=>?_)))))))
 refine xW Zar (h:=xS [_] 3 [_,_] ZvO (h:=Zx (Zj (Zc (xM (h:=xD (h:=xA (h:=?_))))))))
 exact ZA ⟨g.k+1,0,l14,p14,c14,(g.xs ++ [⟨x.id,x.fr,x.text,x.left⟩])⟩ [0,1,2,3] so2 ⟨so,by simp only [];rw [Zat hx,hxs],hv14⟩ t5 rfl
 try simp only [sQ,ne_eq] at g1
 have hxe:g.xs=q.items:=by rw [hxs];exact List.take_of_length_le oz
 refine ZT (Zab (ZW (ZG (Zj (Za (xL [_,_] ZdP 3 (h:=xS [_,_] 1 [_,_] ZfA (h:=tL4 (Zd ?_)))))))))
 exact Zav .ret (.inl rfl) [_] [2] rfl ⟨⟨_,rfl,.inr ⟨[_,_],ZdP,Z9 1 rfl rfl rfl,rfl⟩⟩,trivial⟩ ⟨_,_,_,rfl,by rw [← hxe];rfl,hxe ▸ hv⟩

theorem Zgo (aq:Option Addr) (cq:Nat) (q:DQueue) (qx:Option Addr) (cx:Nat) (x:DLetter) (B:Kn) (hq:SlK B aq cq 4 Zy q.items) (hx:SlK B qx cx 1 ZbJ x.to_) (h1:x.fr.length≤2000000) (h2:x.text.length≤2000000):Zu (pj J) 153 [.agg #[.int .i64 q.next,.slice aq q.items.length cq],.agg #[str x.fr,.slice qx x.to_.length cx,str x.text]] B [] (fun v B' Ls=>(∃l a cp,Ls=[l]∧v = .tuple #[.agg #[.int .i64 (Zh5 q x).1.next,.slice a (Zh5 q x).1.items.length cp],.bool (Zh5 q x).2]∧ZZ (B'.less B) l a cp 117 4 Zy (Zh5 q x).1.items)):=by
 refine cB 49 Tryz.func153 (h:=?_)
 have hqn:=hq.len
 have hxn:=hx.len
 refine Za (xBx [_,_] (h:=fun b1=>xBx [_,_,_] (h:=fun b2=>xAl [_,_] ZhC (h:=fun b3=>xA (h:=tL3 (Zf (Za (xL [_,_] ZdP 0 (h:=xR Zyb rfl (ZfS _ _ q _ hq) (h:=xN (h:=xM (h:=Zn (d:=10) rfl (fun g1=>?_) (fun g1=>?_)))))))))))))
 try simp only [sQ,ne_eq] at g1
 refine xP (h:=xP (h:=xP (h:=xT (h:=Zb (t:=true) rfl (fun _=>Za (xB [] [_,_] [_,_] Zt6 ZhC (h:=xS [_,_] 2 [_,_] ZfA (h:=xA (h:=tL3 (Zd (Zo ?_))))))) (fun h=>Bool.noConfusion h)))))
 have he:=Zr6 (x:=x) g1
 exact Zvp .ret (.inl rfl) [_,_] ⟨⟨_,rfl,.inr ⟨[_,_],ZdP,Z9 2 rfl rfl rfl,rfl⟩⟩,rfl,trivial⟩ ⟨_,none,0,rfl,by rw [he];rfl,by rw [he];exact ZZ.nil⟩
 try simp only [sQ,ne_eq] at g1
 refine xL [_,_,_] Zni 1 (h:=xR ZvA rfl (Ze1 _ _ x _ hx oa oa) (h:=?_))
 refine xN (h:=xF (h:=Zb rfl (fun g2=>?_) (fun g2=>?_)))
 try simp only [sQ,ne_eq] at g2
 refine Za (xB [] [_,_] [_,_] Zt6 ZhC (h:=xS [_,_] 2 [_,_] ZfA (h:=xA (h:=tL3 (Zd (Zo ?_))))))
 have he:=Zr5 (q:=q) g2
 exact Zvp .ret (.inl rfl) [_,_] ⟨⟨_,rfl,.inr ⟨[_,_],ZdP,Z9 2 rfl rfl rfl,rfl⟩⟩,rfl,trivial⟩ ⟨_,none,0,rfl,by rw [he];rfl,by rw [he];exact ZZ.nil⟩
 try simp only [sQ,ne_eq] at g2
 have hqb:=Zc9 g1
 refine wSk (Za (xL [_,_] ZdP 0 (h:=xC Zkn rfl (Zay _ _ q _ hq) (h:=?_))))
 rintro _ Bk _ hlek ⟨lk,ak,ck,rfl,rfl,hvk⟩
 replace hx:=up1 hlek hx
 replace hvk:=hvk.mono Zy.mono (Kn.less_up (Kn.le.refl _) (Kn.le.refl _))
 refine xAl [_,_] ZhC (h:=fun b7=>xS [_,_] 4 [_,_] ZfA (h:=tL5 (Zf (Za (xW Zar (h:=x1 Zey 0 (h:=xV Tryz.underlying25 (h:=Zd9 (h:=xM (h:=Zn (d:=22) rfl (fun g3=>?_) (fun g3=>?_)))))))))))
 try simp only [sQ,ne_eq] at g3
 refine xP (h:=xP (h:=xP (h:=xT (h:=Zb (t:=true) rfl (fun _=>Za (xL [_,_] ZdP 4 (h:=xS [_,_] 2 [_,_] ZfA (h:=xA (h:=tL5 (Zd (Zo ?_))))))) (fun h=>Bool.noConfusion h)))))
 have he:=ZmK g1 g2 (.inl oz)
 exact Zav .ret (.inl rfl) [_,_] [3] rfl ⟨⟨_,rfl,.inr ⟨[_,_],ZdP,Z9 2 rfl rfl rfl,rfl⟩⟩,rfl,trivial⟩ ⟨_,_,_,rfl,by rw [he];rfl,by rw [he];exact hvk⟩
 try simp only [sQ,ne_eq] at g3
 refine xW Zd6 (h:=x1 lk3 0 (h:=Zbw (h:=xF (h:=Zb rfl (fun g4=>?_) (fun g4=>?_)))))
 try simp only [sQ,ne_eq] at g4
 refine Za (xL [_,_] ZdP 4 (h:=xS [_,_] 2 [_,_] ZfA (h:=xA (h:=tL5 (Zd (Zo ?_))))))
 have he:=ZmK g1 g2 (.inr oz)
 exact Zav .ret (.inl rfl) [_,_] [3] rfl ⟨⟨_,rfl,.inr ⟨[_,_],ZdP,Z9 2 rfl rfl rfl,rfl⟩⟩,rfl,trivial⟩ ⟨_,_,_,rfl,by rw [he];rfl,by rw [he];exact hvk⟩
 try simp only [sQ,ne_eq] at g4
 refine wSk (Zf (Z2 (keeps _ [0,1,4] _) mo kr ⟨Kn.le.refl _,Zai.refl _ _⟩ (fun _ _=>?_)))
 refine aW 0 rfl Zar (h:=aT 1 rfl (ZC fun D B L hI=>Zh rfl rfl Zey rfl (atL 4 (hI.2.2.2.1.trans rfl) rfl rfl) r4) (h:=aW 2 rfl Zd6 (h:=aT 3 rfl (ZC fun D B L hI=>Zh rfl rfl lk3 rfl (atL 0 (hI.2.1.trans rfl) rfl rfl) r4) (h:=aW 4 rfl Zja (h:=aT 5 rfl (ZC fun D B L hI=>Zh rfl rfl lk9 rfl (atL 1 (hI.2.2.1.trans rfl) rfl rfl) r4) (h:=aW 6 rfl ZnC (h:=aT 7 rfl (ZC fun D B L hI=>Zh rfl rfl lk9 rfl (atL 1 (hI.2.2.1.trans rfl) rfl rfl) r4) (h:=aW 9 rfl Zi9 (h:=aT 10 rfl (ZC fun D B L hI=>Zh rfl rfl ZcX rfl (atL 1 (hI.2.2.1.trans rfl) rfl rfl) r4) (h:=Zq 8 kr rfl kr (Zt (parts:=[]) [] rfl rfl Tryz.underlying109 sz9 zo9 rfl rfl rfl rfl rfl (fun b8=>?_))))))))))))
 refine ⟨⟨Kn.le.refl _,t3⟩,(Zq 11 kr rfl kr (ZaU (R:=ZbJ) 5 rfl (ZZ.lit0 (R:=ZbJ)) rfl rfl rfl Zg4 ZgL rfl rfl rfl hx.rows ZbJ.one rfl om (fun l9 p9 c9 hv9=>?_)))⟩
 refine ⟨⟨Kn.le.refl _,t3⟩,(Zxf 5 rfl hv9 ZbJ.any om3 hlek (fun B' hle'=>⟨hle',t3⟩) (fun B10 hle10 hr10f=>?_))⟩
 have hr10:=hr10f.mono ZbJ.mono Kn.less_le
 replace hvk:=hvk.mono Zy.mono (Kn.less_mono hle10)
 have hr10n:=hr10.len
 refine aT 12 rfl (ZC fun D B L hI=>Zaz (parts:=[(0,_),(1,_),(2,_),(3,_)]) [_,_,_,_] [_,_,_,_] rfl rfl Zx0 ZcM rfl rfl rfl r4) (h:=Zq 13 kr rfl kr (Zt (parts:=[(0,_)]) [_,_,_,_] rfl rfl Tryz.underlying25 Zbg ZcM rfl rfl rfl rfl rfl (fun b11=>?_)))
 refine ⟨⟨hle10,t3⟩,(Zq 14 kr rfl kr (Zbc (z:=⟨q.next,x.fr,x.text,x.to_⟩) (R:=Zy) 3 rfl hvk rfl rfl rfl ZvS ZvP rfl rfl (ZaN.box 6 rfl) rfl rfl (⟨_,_,rfl,hr10f,by first | assumption | omega | (simp;done) | (simp;omega),by first | assumption | omega | (simp;done) | (simp;omega)⟩) om (fun l12 p12 c12 hv12=>?_)))⟩
 refine ⟨⟨hle10,t3⟩,(aW 15 rfl Zar (h:=ZV 16 kr rfl kr kr kr (ZI [_] 4 [_,_] rfl rfl ZvO rfl rfl rfl rfl rfl rfl rfl rfl ?_)))⟩
 refine Zj (tL7 (Za (xW Zd6 (h:=x1 lk3 0 (h:=xD (h:=xW Zd6 (h:=xS [_] 4 [_,_] sz3 (h:=tL7 (Za (xL [_,_] ZdP 4 (h:=xS [_,_] 2 [_,_] ZfA (h:=xA (h:=tL7 (Zd ?_))))))))))))))
 have he:=ZvJ g1 g2 oz oz
 exact Zav .ret (.inl rfl) [_,_] [3] rfl ⟨⟨_,rfl,.inr ⟨[_,_],ZdP,Z9 2 rfl rfl rfl,rfl⟩⟩,rfl,trivial⟩ ⟨_,_,_,rfl,by rw [he];rfl,by rw [he];exact hv12⟩

theorem Zl8 (q:Option Addr) (cp:Nat) (xs:List Str) (u:Str) (B:Kn) (ha:SlK B q cp 1 ZbJ xs):Zu (pj J) 188 [.slice q xs.length cp,str u] B [] (fun v B' Ls=>Ls=[]∧∃a cp,v = .slice a (without xs u).length cp∧SlK (B'.less B) a cp 1 ZbJ (without xs u)):=by
 refine cB 28 Tryz.func188 (h:=?_)
 have han:=ha.len
 refine Za (xA (h:=Za (xBs [] [] Tryz.underlying109 sz9 zo9 (h:=fun b1=>xA (h:=tL1 (Zf (Za (xA (h:=Zl (ZO (α:=Gh Str) [0,1,4] (fun g=>[(5,.slice g.a g.xs.length g.c),(6,.int .i64 g.k)]) [0] (fun g=>[g.l]) (fun g Bx=>Bx=B∧g.k≤xs.length∧g.xs=without (xs.take g.k) u∧g.xs.length≤g.k∧ZZ Bx g.l g.a g.c 9 1 ZbJ g.xs) (fun g=>xs.length - g.k) ⟨0,0,_,_,_,[]⟩ t2 rfl (⟨rfl,Nat.zero_le _,rfl,Nat.le_refl _,.lit0⟩) (fun g B2 hle2 hI=>?_)))))))))))
 obtain ⟨rfl,hk,hxs,hgl,hv⟩:=hI
 refine ZN [(0,_),(1,_),(4,_),(5,_),(6,_)] [_] t5 rfl (Zf (Za (xM (h:=xM (h:=xV Tryz.underlying109 (h:=Zaa (h:=Zb rfl (fun g1=>?_) (fun g1=>?_))))))))
 try simp only [sQ,ne_eq] at g1
 refine wSk (Zf (Zl (Za (xM (h:=xM (h:=?_))))))
 obtain ⟨x,hx⟩:=Zaf (xs:=xs) (i:=g.k) om
 obtain ⟨bb4,oo4,rfl⟩:=ha.base hx
 obtain ⟨_,⟨rfl,hb5⟩,hc5⟩:=ha.elem hx
 refine xIx Tryz.underlying109 sz9 (h:=y1 lk9 hc5 0 (h:=xM (h:=ZfD (h:=Zb rfl (fun g2=>?_) (fun g2=>?_)))))
 try simp only [sQ,ne_eq] at g2
 refine Zc (xM (h:=xM (h:=xM (h:=xIx Tryz.underlying109 sz9 (h:=y1 lk9 hc5 0 (h:=xBs [(0,_)] [_] Tryz.underlying109 sz9 zo9 (h:=fun b6=>Zp (Zbc (z:=x) (R:=ZbJ) 0 rfl hv rfl rfl rfl Zg4 ZgL rfl rfl (ZaN.box 1 rfl) rfl rfl (⟨rfl,by first | assumption | omega | (simp;done) | (simp;omega)⟩) om (fun l7 p7 c7 hv7=>?_)))))))))
 refine xA (h:=Zx (Zj (Zc (xM (h:=xD (h:=xA (h:=?_)))))))
 exact ZA ⟨g.k+1,0,l7,p7,c7,(g.xs ++ [x])⟩ [0] so2 ⟨rfl,so,by simp only [];rw [Zln hx g2,hxs],by simp;omega,hv7⟩ t5 rfl
 try simp only [sQ,ne_eq] at g2
 refine ZK (Zx (Zj (Zc (xM (h:=xD (h:=xA (h:=?_)))))))
 exact ZA ⟨g.k+1,0,g.l,g.a,g.c,g.xs⟩ [0] so2 ⟨rfl,so,by simp only [];rw [Zlm hx g2,hxs],so,hv⟩ t5 rfl
 try simp only [sQ,ne_eq] at g1
 have hxe:g.xs=without xs u:=by rw [hxs,List.take_of_length_le oz]
 refine ZT (Zab (ZW (ZG (Zj (Zp3 0 rfl hv ZbJ.any om3 (Kn.le.refl _) (fun B8 hle8 hr8f=>?_))))))
 have hr8:=hr8f.mono ZbJ.mono Kn.less_le
 have hr8n:=hr8.len
 refine Za (xM (h:=xA (h:=tL1 (Zd ?_))))
 exact Zav .ret (.inl rfl) [_] [] rfl ⟨rfl,trivial⟩ ⟨rfl,_,_,by rw [← hxe];rfl,hxe ▸ hr8f⟩

theorem Zl9 (aq:Option Addr) (cq:Nat) (q:DQueue) (id:Int) (u:Str) (B:Kn) (hq:SlK B aq cq 4 Zy q.items):Zu (pj J) 176 [.agg #[.int .i64 q.next,.slice aq q.items.length cq],.int .i64 id,str u] B [] (fun v B' Ls=>(∃l a cp,Ls=[l]∧v = .tuple #[.agg #[.int .i64 (Zca q id u).1.next,.slice a (Zca q id u).1.items.length cp],str (Zca q id u).2.1,.bool (Zca q id u).2.2]∧ZZ (B'.less B) l a cp 117 4 Zy (Zca q id u).1.items∧(Zca q id u).2.1.length≤2000000)):=by
 refine cB 65 Tryz.func176 (h:=?_)
 have hqn:=hq.len
 refine Za (xBx [_,_] (h:=fun b1=>xAl [_,_] ZhC (h:=fun b2=>xA (h:=xA (h:=tL2 (Za (xW Zd6 (h:=x1 lk3 0 (h:=xBs [] [] Tryz.underlying25 Zbg ZcM (h:=fun b3=>xB [(0,_),(1,_)] [_,_] [_,_] Zt6 ZhC (h:=xAl [_,_] ZhC (h:=fun b4=>xS [_,_] 3 [_,_] ZfA (h:=tL4 (Za (xA (h:=Za (xA (h:=Zf (Za (xA (h:=Zl (ZO (α:=Gh2 DItem (Str × Bool)) [0,1,2,3,6,7,8,9] (fun g=>[(10,str g.e.1),(11,.bool g.e.2),(12,.int .i64 g.k)]) [2,3] (fun g=>[g.l,Zas b4 [.int .i64 q.next,.slice g.a g.xs.length g.c] 27]) (fun g Bx=>g.k≤q.items.length∧g.e=ZfQ id u (q.items.take g.k)∧g.e.1.length≤2000000∧g.xs=ZeU id u (q.items.take g.k)∧ZZ (Bx.less B) g.l g.a g.c 117 4 Zy g.xs) (fun g=>q.items.length - g.k) ⟨0,0,_,_,_,[],([],false)⟩ t3 rfl (⟨Nat.zero_le _,rfl,Nat.zero_le _,rfl,.lit0⟩) (fun g B5 hle5 hI=>?_)))))))))))))))))))))))
 obtain ⟨hk,he,htl,hxs,hv⟩:=hI
 have hxn:g.xs.length≤g.k:=by rw [hxs];exact Nat.le_trans (Zil _ _ _) (by rw [List.length_take];omega)
 replace hq:=up1 hle5 hq
 refine ZN [(0,_),(1,_),(2,_),(3,_),(6,_),(7,_),(8,_),(9,_),(10,_),(11,_),(12,_)] [_,_,_,_] t11 rfl (Zf (Za (xM (h:=xW Zar (h:=x1 Zey 0 (h:=xV Tryz.underlying25 (h:=Zaa (h:=Zb rfl (fun g1=>?_) (fun g1=>?_)))))))))
 try simp only [sQ,ne_eq] at g1
 refine wSk (Zf (Zl (Za (xW Zar (h:=x1 Zey 0 (h:=xM (h:=?_)))))))
 obtain ⟨x,hx⟩:=Zaf (xs:=q.items) (i:=g.k) om
 obtain ⟨bb7,oo7,rfl⟩:=hq.base hx
 obtain ⟨_,⟨qi8,ci8,rfl,hi8,hb8,hb8b⟩,hc8⟩:=hq.elem hx
 have hi8n:=hi8.len
 refine xIx Tryz.underlying25 Zbg (h:=yL [_,_,_,_] ZdF hc8 0 (h:=xAl [_,_,_,_] ZcM (h:=fun b9=>xS [_,_,_,_] 4 [_,_,_,_] Zbg (h:=tL5 (Za (xBs [] [] Tryz.underlying109 sz9 zo9 (h:=fun b10=>xW ZaG (h:=x1 ZcX 4 (h:=Zp (ZaU (R:=ZbJ) 5 rfl (ZZ.lit0 (R:=ZbJ)) rfl rfl rfl Zg4 ZgL rfl rfl rfl hi8.rows ZbJ.one rfl om (fun l11 p11 c11 hv11=>?_)))))))))))
 refine xW ZaG (h:=xS [_] 4 [_,_,_,_] ZoS (h:=tL6 (Zf (Zp3 5 rfl hv11 ZbJ.any om3 hle5 (fun B12 hle12 hr12f=>?_)))))
 have hr12:=hr12f.mono ZbJ.mono Kn.less_le
 replace hv:=hv.mono Zy.mono (Kn.less_mono hle12)
 have hr12n:=hr12.len
 refine Za (xW ZcZ (h:=x1 lk3 4 (h:=xM (h:=ZF (h:=xM (h:=Zn (d:=39) rfl (fun g2=>?_) (fun g2=>?_)))))))
 try simp only [sQ,ne_eq] at g2
 refine xW ZaG (h:=x1 ZcX 4 (h:=xM (h:=xR ZwX rfl (Zoq _ _ _ _ _ hr12) (h:=xT (h:=tL6 (Zb rfl (fun g3=>?_) (fun g3=>?_)))))))
 try simp only [sQ,ne_eq] at g3
 have hwl:=Zh9 x.left u
 refine Za (xA (h:=Za (xW Zjd (h:=x1 lk9 4 (h:=xA (h:=Zc (xW ZaG (h:=x1 ZcX 4 (h:=xM (h:=xQ Zyp rfl (Zl8 _ _ _ _ _ hr12) (h:=?_)))))))))))
 intro v14 B14 hle14
 rintro ⟨a14,c14,rfl,hw14f⟩
 replace hr12f:=hr12f.mono ZbJ.mono (Kn.less_mono hle14)
 replace hv:=hv.mono Zy.mono (Kn.less_mono hle14)
 replace hw14f:=hw14f.mono ZbJ.mono (Kn.less_up (hle5.trans hle12) (Kn.le.refl _))
 have hw14:=hw14f.mono ZbJ.mono Kn.less_le
 refine xW ZaG (h:=xS [_] 4 [_,_,_,_] ZoS (h:=Zj (Za (xW ZaG (h:=x1 ZcX 4 (h:=xV Tryz.underlying109 (h:=Zbw (h:=tL6 (Zb rfl (fun g4=>?_) (fun g4=>?_))))))))))
 try simp only [sQ,ne_eq] at g4
 refine Zc (xW Zar (h:=x1 Zey 3 (h:=xL [_,_,_,_] ZdF 4 (h:=xBs [(0,_)] [_,_,_,_] Tryz.underlying25 Zbg ZcM (h:=fun b15=>Zp (Zbc (z:=⟨x.id,x.fr,x.text,(without x.left u)⟩) (R:=Zy) 2 rfl hv rfl rfl rfl ZvS ZvP rfl rfl (ZaN.box 6 rfl) rfl rfl (⟨_,_,rfl,hw14f,by first | assumption | omega | (simp;done) | (simp;omega),by first | assumption | omega | (simp;done) | (simp;omega)⟩) om (fun l16 p16 c16 hv16=>?_)))))))
 refine xW Zar (h:=xS [_] 3 [_,_] ZvO (h:=Zx (Zj (Zc (xM (h:=xD (h:=xA (h:=?_))))))))
 exact ZA ⟨g.k+1,0,l16,p16,c16,(g.xs ++ [⟨x.id,x.fr,x.text,(without x.left u)⟩]),(x.text,true)⟩ [0,1,2,3] so2 ⟨so,by simp only [];rw [ZlE hx g2 g3],by simp only [];first | assumption | omega,by simp only [];rw [hxs,Zim hx (ZeZ g2 g3) (by simpa using g4)],hv16⟩ t11 rfl
 try simp only [sQ,ne_eq] at g4
 refine ZK (Zx (Zj (Zc (xM (h:=xD (h:=xA (h:=?_)))))))
 exact ZA ⟨g.k+1,0,g.l,g.a,g.c,g.xs,(x.text,true)⟩ [0,1,2,3] so2 ⟨so,by simp only [];rw [ZlE hx g2 g3],by simp only [];first | assumption | omega,by simp only [];rw [hxs,ZgK hx (ZeZ g2 g3) (by simpa using g4)],hv⟩ t11 rfl
 try simp only [sQ,ne_eq] at g3
 refine wSk (Za (xW ZaG (h:=x1 ZcX 4 (h:=xV Tryz.underlying109 (h:=Zbw (h:=Zb rfl (fun g4=>?_) (fun g4=>?_)))))))
 try simp only [sQ,ne_eq] at g4
 refine Zc (xW Zar (h:=x1 Zey 3 (h:=xL [_,_,_,_] ZdF 4 (h:=xBs [(0,_)] [_,_,_,_] Tryz.underlying25 Zbg ZcM (h:=fun b17=>Zp (Zbc (z:=⟨x.id,x.fr,x.text,x.left⟩) (R:=Zy) 2 rfl hv rfl rfl rfl ZvS ZvP rfl rfl (ZaN.box 6 rfl) rfl rfl (⟨_,_,rfl,hr12f,by first | assumption | omega | (simp;done) | (simp;omega),by first | assumption | omega | (simp;done) | (simp;omega)⟩) om (fun l18 p18 c18 hv18=>?_)))))))
 refine xW Zar (h:=xS [_] 3 [_,_] ZvO (h:=Zx (Zj (Zc (xM (h:=xD (h:=xA (h:=?_))))))))
 exact ZA ⟨g.k+1,0,l18,p18,c18,(g.xs ++ [⟨x.id,x.fr,x.text,x.left⟩]),g.e⟩ [0,1,2,3] so2 ⟨so,by simp only [];rw [ZlC hx g3];exact he,by simp only [];first | assumption | omega,by simp only [];rw [hxs,Zim hx (Zhk g3) (by simpa using g4)],hv18⟩ t11 rfl
 try simp only [sQ,ne_eq] at g4
 refine ZK (Zx (Zj (Zc (xM (h:=xD (h:=xA (h:=?_)))))))
 exact ZA ⟨g.k+1,0,g.l,g.a,g.c,g.xs,g.e⟩ [0,1,2,3] so2 ⟨so,by simp only [];rw [ZlC hx g3];exact he,by simp only [];first | assumption | omega,by simp only [];rw [hxs,ZgK hx (Zhk g3) (by simpa using g4)],hv⟩ t11 rfl
 try simp only [sQ,ne_eq] at g2
 refine xP (h:=xP (h:=xP (h:=xP (h:=xF (h:=tL6 (Zb (t:=false) rfl (fun h=>Bool.noConfusion h) (fun _=>wSk (Za (xW ZaG (h:=x1 ZcX 4 (h:=xV Tryz.underlying109 (h:=Zbw (h:=Zb rfl (fun g3=>?_) (fun g3=>?_))))))))))))))
 try simp only [sQ,ne_eq] at g3
 refine Zc (xW Zar (h:=x1 Zey 3 (h:=xL [_,_,_,_] ZdF 4 (h:=xBs [(0,_)] [_,_,_,_] Tryz.underlying25 Zbg ZcM (h:=fun b19=>Zp (Zbc (z:=⟨x.id,x.fr,x.text,x.left⟩) (R:=Zy) 2 rfl hv rfl rfl rfl ZvS ZvP rfl rfl (ZaN.box 6 rfl) rfl rfl (⟨_,_,rfl,hr12f,by first | assumption | omega | (simp;done) | (simp;omega),by first | assumption | omega | (simp;done) | (simp;omega)⟩) om (fun l20 p20 c20 hv20=>?_)))))))
 refine xW Zar (h:=xS [_] 3 [_,_] ZvO (h:=Zx (Zj (Zc (xM (h:=xD (h:=xA (h:=?_))))))))
 exact ZA ⟨g.k+1,0,l20,p20,c20,(g.xs ++ [⟨x.id,x.fr,x.text,x.left⟩]),g.e⟩ [0,1,2,3] so2 ⟨so,by simp only [];rw [ZlD hx g2];exact he,by simp only [];first | assumption | omega,by simp only [];rw [hxs,Zim hx (Zhl g2) (by simpa using g3)],hv20⟩ t11 rfl
 try simp only [sQ,ne_eq] at g3
 refine ZK (Zx (Zj (Zc (xM (h:=xD (h:=xA (h:=?_)))))))
 exact ZA ⟨g.k+1,0,g.l,g.a,g.c,g.xs,g.e⟩ [0,1,2,3] so2 ⟨so,by simp only [];rw [ZlD hx g2];exact he,by simp only [];first | assumption | omega,by simp only [];rw [hxs,ZgK hx (Zhl g2) (by simpa using g3)],hv⟩ t11 rfl
 try simp only [sQ,ne_eq] at g1
 have hkl:q.items.take g.k=q.items:=List.take_of_length_le oz
 rw [hkl] at he hxs
 refine ZT (Zab (ZW (ZG (Zj (Za (xL [_,_] ZdP 3 (h:=xM (h:=xM (h:=xS [_,_] 1 [_,_] ZfA (h:=xA (h:=xA (h:=tL4 (Zd ?_)))))))))))))
 exact Zav .ret (.inl rfl) [_,_,_] [2] rfl ⟨⟨_,rfl,.inr ⟨[_,_],ZdP,Z9 1 rfl rfl rfl,rfl⟩⟩,rfl,rfl,trivial⟩ ⟨_,_,_,rfl,by simp only [Zca,← he,← hxs];rfl,by simp only [Zca,← hxs];exact hv,by simp only [Zca,← he];exact htl⟩

theorem ZjW (aq:Option Addr) (cq:Nat) (q:DQueue) (id:Int) (u:Str) (B:Kn) (hq:SlK B aq cq 4 Zy q.items):Zu (pj J) 155 [.agg #[.int .i64 q.next,.slice aq q.items.length cq],.int .i64 id,str u] B [] (fun v B' Ls=>(∃l a cp,Ls=[l]∧v = .tuple #[.agg #[.int .i64 (Zdi q id u).1.next,.slice a (Zdi q id u).1.items.length cp],str (Zdi q id u).2.1,.bool (Zdi q id u).2.2]∧ZZ (B'.less B) l a cp 117 4 Zy (Zdi q id u).1.items∧(Zdi q id u).2.1.length≤2000000)):=by
 refine cB 20 Tryz.func155 (h:=?_)
 refine Za (xBx [_,_] (h:=fun b1=>xAl [_,_] ZhC (h:=fun b2=>xA (h:=xA (h:=tL2 (Zf (Za (xL [_,_] ZdP 0 (h:=xR Zyb rfl (ZfS _ _ q _ hq) (h:=xN (h:=Zb rfl (fun g1=>?_) (fun g1=>?_))))))))))))
 try simp only [sQ,ne_eq] at g1
 refine Za (xB [] [_,_] [_,_] Zt6 ZhC (h:=xS [_,_] 1 [_,_] ZfA (h:=xA (h:=xA (h:=tL2 (Zd (Zo ?_)))))))
 have he:Zdi q id u=(⟨0,[]⟩,[],false):=by simp [Zdi,g1]
 exact Zvp .ret (.inl rfl) [_,_,_] ⟨⟨_,rfl,.inr ⟨[_,_],ZdP,Z9 1 rfl rfl rfl,rfl⟩⟩,rfl,rfl,trivial⟩ ⟨_,none,0,rfl,by rw [he];rfl,by rw [he];exact ZZ.nil,by rw [he];exact Nat.zero_le _⟩
 try simp only [sQ,ne_eq] at g1
 refine wSk (Za (xL [_,_] ZdP 0 (h:=xM (h:=xM (h:=xC ZwY rfl (Zl9 _ _ q id u _ hq) (h:=?_))))))
 rintro _ Bk _ hlek ⟨lk,ak,ck,rfl,rfl,hvk,htk⟩
 replace hvk:=hvk.mono Zy.mono (Kn.less_up (Kn.le.refl _) (Kn.le.refl _))
 refine xE (h:=xE (h:=xE (h:=xS [_,_] 1 [_,_] ZfA (h:=xA (h:=xA (h:=tL3 (Zd ?_)))))))
 have he:Zdi q id u=Zca q id u:=by simp [Zdi,g1]
 exact Zav .ret (.inl rfl) [_,_,_] [2] rfl ⟨⟨_,rfl,.inr ⟨[_,_],ZdP,Z9 1 rfl rfl rfl,rfl⟩⟩,rfl,rfl,trivial⟩ ⟨_,_,_,rfl,by rw [he];rfl,by rw [he];exact hvk,by rw [he];exact htk⟩

theorem ZiH (b:Nat) (q:Option Addr) (m cp p:Nat) (hp:p≤850000000000) (hm:m≤2000) (B:Kn) (hbm:Zak B q m):Zu (pj J) 154 [ptr ⟨b,0,none⟩] B [rd b q m cp p] (fun v B' Ls=>∃(qx:Option Addr) (cx:Nat) (x:DLetter) (p':Nat),v = .agg #[str x.fr,.slice qx x.to_.length cx,str x.text]∧SlK B' qx cx 1 ZbJ x.to_∧x.fr.length≤40∧x.text.length≤40∧x.to_.length≤6∧p'≤p+20∧Ls=[rd b q m cp p']):=by
 refine cB 19 Tryz.func154 (h:=?_)
 refine Za (xAl [_,_,_] ZoL (h:=fun b1=>tL2 (Za (xM (h:=xBs [(0,_),(1,_),(2,_)] [_,_,_] Tryz.underlying109 sz9 zo9 (h:=fun b2=>xK [0,2] rfl ZoB rfl (ZqK _ _ _ _ _ _ ([[97,109,121],[98,111,98],[99,121,100]]:List Str) oz (by decide) (by decide) hm _ hbm) (h:=?_)))))))
 rintro _ B3 _ hle3 ⟨rfl,x3,hx3,rfl,rfl⟩
 replace hx3:=(show∀y∈( ([[97,109,121],[98,111,98],[99,121,100]]:List Str):List Str),y.length≤40 from by decide) _ hx3
 refine xM (h:=xK [0] rfl ZyA rfl (ZuU _ _ _ _ _ oz hm _ hbm) (h:=?_))
 rintro _ B4 _ hle4 ⟨q4,cp4,xs4,p4,rfl,ht4,htn4,hp4,rfl⟩
 replace hbm:=hbm.mono hle4
 refine xM (h:=xX 0 rfl Zvr rfl (ZdG _ _ _ _ _ oz hm _ hbm) (h:=?_))
 rintro _ _ ⟨x5,rfl,hx5,rfl⟩
 refine xB [(0,_),(1,_),(2,_)] [_,_,_] [_,_,_] ZsI ZoL (h:=xAl [_,_,_] ZoL (h:=fun b6=>xS [_,_,_] 3 [_,_,_] Zuy (h:=tL4 (Zf (Za (xM (h:=xX 0 rfl Za4 rfl (ZL _ _ _ _ _ _ oz oz oz hm _ hbm) (h:=?_))))))))
 rintro _ _ ⟨r7,rfl,r7a,r7b,rfl⟩
 refine ZF (h:=tL4 (Zb rfl (fun g1=>?_) (fun g1=>?_)))
 refine Zc (xM (h:=xX 0 rfl Ztp rfl (ZcD _ _ _ _ _ oz hm _ hbm) (h:=?_)))
 rintro _ _ ⟨x8,rfl,hx8,rfl⟩
 refine xW Zja (h:=xS [_] 3 [_,_,_] sz9 (h:=Zj (Za (xL [_,_,_] Zni 3 (h:=xS [_,_,_] 1 [_,_,_] Zuy (h:=tL4 (Zd ?_)))))))
 exact eN [0] rfl ⟨⟨_,rfl,.inr ⟨[_,_,_],Zni,Z9 1 rfl rfl rfl,rfl⟩⟩,trivial⟩ ⟨_,_,⟨x8,xs4,x5⟩,_,rfl,ht4,so2,so2,so2,oz,rfl⟩
 refine wSk (Za (xL [_,_,_] Zni 3 (h:=xS [_,_,_] 1 [_,_,_] Zuy (h:=tL4 (Zd ?_)))))
 exact eN [0] rfl ⟨⟨_,rfl,.inr ⟨[_,_,_],Zni,Z9 1 rfl rfl rfl,rfl⟩⟩,trivial⟩ ⟨_,_,⟨x3,xs4,x5⟩,_,rfl,ht4,so2,so2,so2,oz,rfl⟩

theorem Zpm (b:Nat) (q:Option Addr) (m cp p:Nat) (hp:p≤800000000000) (hm:m≤2000) (B:Kn) (hbm:Zak B q m):Zu (pj J) 109 [ptr ⟨b,0,none⟩] B [rd b q m cp p] (fun v B' Ls=>∃(aq:Option Addr) (cq:Nat) (qq:DQueue) (p':Nat),v = .agg #[.int .i64 qq.next,.slice aq qq.items.length cq]∧SlK B' aq cq 4 Zy qq.items∧p'≤p+1000∧Ls=[rd b q m cp p']):=by
 refine cB 84 Tryz.func109 (h:=?_)
 refine Za (xAl [_,_] ZhC (h:=fun b1=>tL2 (Za (xM (h:=xX 0 rfl Za4 rfl (ZL _ _ _ _ _ _ oz oz oz hm _ hbm) (h:=?_))))))
 rintro _ _ ⟨ra,rfl,raa,rab,rfl⟩
 refine xD (h:=xBs [] [] Tryz.underlying25 Zbg ZcM (h:=fun b3=>xB [(0,_),(1,_)] [_,_] [_,_] Zt6 ZhC (h:=xAl [_,_] ZhC (h:=fun b4=>xS [_,_] 3 [_,_] ZfA (h:=tL4 (Za (xM (h:=xX 0 rfl Za4 rfl (ZL _ _ _ _ _ _ oz oz oz hm _ hbm) (h:=?_)))))))))
 rintro _ _ ⟨rb,rfl,rba,rbb,rfl⟩
 refine xA (h:=tL4 (Zf (Za (xA (h:=Zl (ZO (α:=GQ) [0,2,3,4] (fun g=>[(5,.int .i64 g.k)]) [0,2,3] (fun g=>[rd b q m cp g.p,g.l,Zas b4 [.int .i64 g.q.next,.slice g.a g.q.items.length g.c] 27]) (fun g Bx=>g.k≤8∧g.p≤p+2+40*g.k∧g.q.items.length≤2000000 - 8+g.k∧ZZ Bx g.l g.a g.c 117 4 Zy g.q.items) (fun g=>8 - g.k) ⟨0,p+2,_,_,_,⟨_,[]⟩⟩ t1 rfl (⟨Nat.zero_le _,Nat.le_refl _,Nat.zero_le _,.lit0⟩) (fun g B6 hle6 hI=>?_)))))))
 obtain ⟨hk,hgp,hgn,hv⟩:=hI
 replace hbm:=hbm.mono hle6
 refine ZN [(0,_),(2,_),(3,_),(4,_),(5,_)] [_,_,_,_] t5 rfl (Zf (Za (xM (h:=xM (h:=Zaa (h:=Zb rfl (fun g1=>?_) (fun g1=>?_)))))))
 try simp only [sQ,ne_eq] at g1
 refine wSk (Zf (Zl (Zlp (α:=GM) [0,2,3,4,5,17] (fun h=>[(6,ptr ⟨h.b,0,none⟩),(7,.bool h.f)]) [0] (fun h=>[rd b q m cp h.p]) (fun h=>[Zas h.b [.int .i64 h.q.next,.slice h.a h.q.items.length h.c] 27,h.l]) (fun h Bx=>h.p≤g.p+20∧h.q.items.length≤g.q.items.length+1∧ZZ Bx h.l h.a h.c 117 4 Zy h.q.items) ?_ (fun h B7 hle7 hF=>?_))))
 refine Z2 (keeps _ [3] _) mo kr ⟨Kn.le.refl _,Zai.refl _ _⟩ (fun _ _=>?_)
 refine aT 0 rfl (ZC fun D B L hI=>Z1 [_,_] rfl rfl ZdP rfl (Z9 3 (hI.2.1.trans rfl) rfl rfl) r4) (h:=aM 1 rfl (h:=Zan [2,7] kr kr kr ⟨?_,?_⟩))
 refine (ZaA [0] rfl rfl rfl rfl Zw2 rfl (ZiH _ _ _ _ _ oz hm _ hbm) ?_)
 rintro _ Bu _ hleu ⟨qxu,cxu,xu,pu,rfl,htu,hfu,hwu,htnu,hpu,rfl⟩
 replace hv:=hv.mono Zy.mono hleu
 replace hbm:=hbm.mono hleu
 refine ⟨⟨hleu,t1⟩,(Zan [3,7] kr kr kr ⟨?_,?_⟩)⟩
 refine (ZaA [2] rfl rfl rfl rfl Ztq rfl (Zu.borrow fun hmv=>Zgo _ _ g.q _ _ xu _ (hv.lend Zy.mono hmv om) (htu.mono ZbJ.mono (Kn.le_add _ _)) (by first | assumption | omega | (simp;omega)) (by first | assumption | omega | (simp;omega))) ?_)
 rintro _ Bv _ hlev ⟨BBv,_,rfl,hBv,_,hmv,_,lv,av,cv,rfl,rfl,hvv⟩
 replace htu:=up1 hlev htu
 replace hv:=hv.mono Zy.mono hlev
 replace hbm:=hbm.mono hlev
 replace hvv:=hvv.mono Zy.mono (Kn.less_minus' hmv hBv)
 refine ⟨⟨(hleu.trans hlev),t1⟩,(aM 4 rfl (h:=aE 5 rfl (h:=aE 6 rfl (h:=Zq 7 kr rfl kr (Zal (l:=[_,_]) rfl rfl ZhC rfl (fun b10=>?_))))))⟩
 refine ⟨⟨(hleu.trans hlev),t1⟩,(Zbj 8 kr rfl kr kr (ZI [_,_] 5 [_,_] rfl rfl ZfA rfl rfl rfl rfl rfl rfl rfl rfl ?_))⟩
 refine aA 9 rfl (h:=Zz kr kr ?_)
 exact ZJ ⟨_,pu,lv,av,cv,(Zh5 g.q xu).1,_⟩ [0,1,2,3,5,4] ⟨hpu,Zh4 _ _,hvv⟩ t8 rfl
 refine (Zal (l:=[_,_]) rfl rfl ZhC rfl (fun b11=>⟨⟨hleu,t1⟩,(Zq 3 kr rfl kr (ZaA [2] rfl rfl rfl rfl Ztq rfl (Zu.borrow fun hmv=>Zgo _ _ g.q _ _ xu _ (hv.lend Zy.mono hmv om) (htu.mono ZbJ.mono (Kn.le_add _ _)) (by first | assumption | omega | (simp;omega)) (by first | assumption | omega | (simp;omega))) ?_))⟩))
 rintro _ Bv _ hlev ⟨BBv,_,rfl,hBv,_,hmv,_,lv,av,cv,rfl,rfl,hvv⟩
 replace htu:=up1 hlev htu
 replace hv:=hv.mono Zy.mono hlev
 replace hbm:=hbm.mono hlev
 replace hvv:=hvv.mono Zy.mono (Kn.less_minus' hmv hBv)
 refine ⟨⟨(hleu.trans hlev),t1⟩,(aM 4 rfl (h:=aE 5 rfl (h:=aE 6 rfl (h:=Zbj 8 kr rfl kr kr (ZI [_,_] 4 [_,_] rfl rfl ZfA rfl rfl rfl rfl rfl rfl rfl rfl ?_)))))⟩
 refine aA 9 rfl (h:=Zz kr kr ?_)
 exact ZJ ⟨_,pu,lv,av,cv,(Zh5 g.q xu).1,_⟩ [0,1,2,3,4,5] ⟨hpu,Zh4 _ _,hvv⟩ t8 rfl
 refine (Zal (l:=[_,_]) rfl rfl ZhC rfl (fun b13=>⟨⟨Kn.le.refl _,t1⟩,(Zq 2 kr rfl kr (ZaA [0] rfl rfl rfl rfl Zw2 rfl (ZiH _ _ _ _ _ oz hm _ hbm) ?_))⟩))
 rintro _ Bu _ hleu ⟨qxu,cxu,xu,pu,rfl,htu,hfu,hwu,htnu,hpu,rfl⟩
 replace hv:=hv.mono Zy.mono hleu
 replace hbm:=hbm.mono hleu
 refine ⟨⟨hleu,t1⟩,(Zq 3 kr rfl kr (ZaA [2] rfl rfl rfl rfl Ztq rfl (Zu.borrow fun hmv=>Zgo _ _ g.q _ _ xu _ (hv.lend Zy.mono hmv om) (htu.mono ZbJ.mono (Kn.le_add _ _)) (by first | assumption | omega | (simp;omega)) (by first | assumption | omega | (simp;omega))) ?_))⟩
 rintro _ Bv _ hlev ⟨BBv,_,rfl,hBv,_,hmv,_,lv,av,cv,rfl,rfl,hvv⟩
 replace hv:=hv.mono Zy.mono hlev
 replace hbm:=hbm.mono hlev
 replace hvv:=hvv.mono Zy.mono (Kn.less_minus' hmv hBv)
 refine ⟨⟨(hleu.trans hlev),t1⟩,(aM 4 rfl (h:=aE 5 rfl (h:=aE 6 rfl (h:=Zbj 8 kr rfl kr kr (ZI [_,_] 4 [_,_] rfl rfl ZfA rfl rfl rfl rfl rfl rfl rfl rfl ?_)))))⟩
 refine aA 9 rfl (h:=Zz kr kr ?_)
 exact ZJ ⟨_,pu,lv,av,cv,(Zh5 g.q xu).1,_⟩ [0,1,2,3,4,5] ⟨hpu,Zh4 _ _,hvv⟩ t8 rfl
 obtain ⟨hhp,hhn,hw⟩:=hF
 replace hv:=hv.mono Zy.mono hle7
 replace hbm:=hbm.mono hle7
 refine ZN [(0,_),(2,_),(3,_),(4,_),(5,_),(6,_),(7,_),(17,_)] [_,_,_,_,_,_] t8 rfl (Zp8 (α:=GQ) [0,2,3,4,5,6,7,17] (fun o=>[]) (fun o=>[rd b q m cp o.p,Zas b1 [.int .i64 0,.slice none 0 0] 27,o.l,Zas b4 [.int .i64 o.q.next,.slice o.a o.q.items.length o.c] 27]) (fun o Bx=>o.p≤g.p+20∧o.q.items.length≤g.q.items.length+1∧ZZ Bx o.l o.a o.c 117 4 Zy o.q.items) ?_ (fun o B16 hle16 hF=>?_))
 refine Za (xM (h:=Zb rfl (fun g2=>?_) (fun g2=>?_)))
 try simp only [sQ,ne_eq] at g2
 refine Zc (xL [_,_] ZdP 4 (h:=xS [_,_] 3 [_,_] ZfA (h:=?_)))
 exact ZJ ⟨0,h.p,h.l,h.a,h.c,h.q⟩ [0,1,5,3] ⟨hhp,hhn,hw⟩ t8 rfl
 try simp only [sQ,ne_eq] at g2
 refine ZK ?_
 exact ZJ ⟨0,h.p,g.l,g.a,g.c,g.q⟩ [0,1,2,3] ⟨hhp,so,hv⟩ t8 rfl
 clear hv
 obtain ⟨hop,hon,hv⟩:=hF
 replace hbm:=hbm.mono hle16
 refine ZN [(0,_),(2,_),(3,_),(4,_),(5,_),(6,_),(7,_),(17,_)] [_,_,_,_] t8 rfl (Za (xW Zar (h:=x1 Zey 3 (h:=xV Tryz.underlying25 (h:=Zbw (h:=xM (h:=Zn (d:=33) rfl (fun g3=>?_) (fun g3=>?_))))))))
 try simp only [sQ,ne_eq] at g3
 refine xM (h:=xX 0 rfl Za4 rfl (ZL _ _ _ _ _ _ oz oz oz hm _ hbm) (h:=?_))
 rintro _ _ ⟨r17,rfl,r17a,r17b,rfl⟩
 refine ZF (h:=xT (h:=tL4 (Zb rfl (fun g4=>?_) (fun g4=>?_))))
 try simp only [sQ,ne_eq] at g4
 refine Z2 (keeps _ [2,3] _) mo kr ⟨Kn.le.refl _,Zai.refl _ _⟩ (fun _ _=>?_)
 refine aT 0 rfl (ZC fun D B L hI=>Z1 [_,_] rfl rfl ZdP rfl (Z9 3 (hI.2.2.1.trans rfl) rfl rfl) r4) (h:=aW 1 rfl Zar (h:=aT 2 rfl (ZC fun D B L hI=>Zh rfl rfl Zey rfl (atL 3 (hI.2.2.1.trans rfl) rfl rfl) r4) (h:=aM 3 rfl (h:=aW 4 rfl Zar (h:=aT 5 rfl (ZC fun D B L hI=>Zh rfl rfl Zey rfl (atL 3 (hI.2.2.1.trans rfl) rfl rfl) r4) (h:=aV 6 rfl Tryz.underlying25 (h:=aM 11 rfl (h:=Zan [7,12] kr kr kr ⟨?_,?_⟩))))))))
 refine (Zcm 0 rfl rfl rfl Za4 rfl (ZL _ _ _ _ _ _ oz oz oz hm _ hbm) ?_)
 rintro _ _ ⟨r18,rfl,r18a,r18b,rfl⟩
 refine ⟨⟨Kn.le.refl _,t2⟩,?_⟩
 obtain ⟨z19,hz19⟩:=Zeh (xs:=o.q.items) (i:=r18) om om
 obtain ⟨bb20,_,hp20,⟨qi20,ci20,rfl,hi20,hb20,hb20b⟩,hw20,hc20⟩:=hv.row hz19
 have hi20n:=hi20.len
 refine aT 8 rfl (ZC fun D B L hI=>ZfN hp20 rfl rfl Tryz.underlying25 Zbg rfl rfl om om r4) (h:=?_)
 refine aW 9 rfl ZcZ (h:=aT 10 rfl (ZC fun D B L hI=>Zh rfl rfl lk3 rfl (hc20 _ 2 (hI.2.1.trans rfl) 0 _ rfl) r4) (h:=Zq 12 kr rfl kr (Zt (parts:=[(0,_),(1,_),(2,_)]) [_,_,_] rfl rfl Tryz.underlying109 sz9 zo9 rfl rfl rfl rfl rfl (fun b21=>?_))))
 refine ⟨⟨Kn.le.refl _,t2⟩,(Zq 13 kr rfl kr (ZaA [0,4] rfl rfl rfl rfl ZoB rfl (ZqK _ _ _ _ _ _ ([[97,109,121],[98,111,98],[99,121,100]]:List Str) oz (by decide) (by decide) hm _ hbm) ?_))⟩
 rintro _ Bw _ hlew ⟨rfl,xw,hxw,rfl,rfl⟩
 replace hxw:=(show∀y∈( ([[97,109,121],[98,111,98],[99,121,100]]:List Str):List Str),y.length≤40 from by decide) _ hxw
 refine ⟨⟨Kn.le.refl _,t2⟩,(Zq 14 kr rfl kr (ZaA [2] rfl rfl rfl rfl Zw1 rfl (Zu.borrow fun hm23=>ZjW _ _ o.q z19.id xw _ (hv.lend Zy.mono hm23 om)) ?_))⟩
 rintro _ B23 _ hle23 ⟨BB23,_,rfl,hB23,_,hm23,_,l23,a23,c23,rfl,rfl,hv23,ht23⟩
 replace hv:=hv.mono Zy.mono hle23
 replace hbm:=hbm.mono hle23
 replace hv23:=hv23.mono Zy.mono (Kn.less_minus' hm23 hB23)
 refine ⟨⟨hle23,t2⟩,(aM 15 rfl (h:=aE 16 rfl (h:=aE 17 rfl (h:=aE 18 rfl (h:=Zbj 19 kr rfl kr kr (ZI [_,_] 3 [_,_] rfl rfl ZfA rfl rfl rfl rfl rfl rfl rfl rfl ?_))))))⟩
 refine Zz kr kr ?_
 refine Zx (Zj (Zc (xM (h:=xD (h:=xA (h:=?_))))))
 exact ZA ⟨g.k+1,(((o.p+1)+1)+1),l23,a23,c23,((Zdi o.q z19.id xw).1)⟩ [0,1,5,3] so2 ⟨so,so,Nat.le_trans (ZlR _ _ _) (so),hv23⟩ t5 rfl
 refine (Zt (parts:=[(0,_),(1,_),(2,_)]) [_,_,_] rfl rfl Tryz.underlying109 sz9 zo9 rfl rfl rfl rfl rfl (fun b24=>⟨⟨Kn.le.refl _,t2⟩,(Zq 7 kr rfl kr (Zcm 0 rfl rfl rfl Za4 rfl (ZL _ _ _ _ _ _ oz oz oz hm _ hbm) ?_))⟩))
 rintro _ _ ⟨r25,rfl,r25a,r25b,rfl⟩
 refine ⟨⟨Kn.le.refl _,t2⟩,?_⟩
 obtain ⟨z26,hz26⟩:=Zeh (xs:=o.q.items) (i:=r25) om om
 obtain ⟨bb27,_,hp27,⟨qi27,ci27,rfl,hi27,hb27,hb27b⟩,hw27,hc27⟩:=hv.row hz26
 have hi27n:=hi27.len
 refine aT 8 rfl (ZC fun D B L hI=>ZfN hp27 rfl rfl Tryz.underlying25 Zbg rfl rfl om om r4) (h:=?_)
 refine aW 9 rfl ZcZ (h:=aT 10 rfl (ZC fun D B L hI=>Zh rfl rfl lk3 rfl (hc27 _ 2 (hI.2.1.trans rfl) 0 _ rfl) r4) (h:=Zq 13 kr rfl kr (ZaA [0,4] rfl rfl rfl rfl ZoB rfl (ZqK _ _ _ _ _ _ ([[97,109,121],[98,111,98],[99,121,100]]:List Str) oz (by decide) (by decide) hm _ hbm) ?_)))
 rintro _ Bw _ hlew ⟨rfl,xw,hxw,rfl,rfl⟩
 replace hxw:=(show∀y∈( ([[97,109,121],[98,111,98],[99,121,100]]:List Str):List Str),y.length≤40 from by decide) _ hxw
 refine ⟨⟨Kn.le.refl _,t2⟩,(Zq 14 kr rfl kr (ZaA [2] rfl rfl rfl rfl Zw1 rfl (Zu.borrow fun hm29=>ZjW _ _ o.q z26.id xw _ (hv.lend Zy.mono hm29 om)) ?_))⟩
 rintro _ B29 _ hle29 ⟨BB29,_,rfl,hB29,_,hm29,_,l29,a29,c29,rfl,rfl,hv29,ht29⟩
 replace hv:=hv.mono Zy.mono hle29
 replace hbm:=hbm.mono hle29
 replace hv29:=hv29.mono Zy.mono (Kn.less_minus' hm29 hB29)
 refine ⟨⟨hle29,t2⟩,(aM 15 rfl (h:=aE 16 rfl (h:=aE 17 rfl (h:=aE 18 rfl (h:=Zbj 19 kr rfl kr kr (ZI [_,_] 3 [_,_] rfl rfl ZfA rfl rfl rfl rfl rfl rfl rfl rfl ?_))))))⟩
 refine Zz kr kr ?_
 refine Zx (Zj (Zc (xM (h:=xD (h:=xA (h:=?_))))))
 exact ZA ⟨g.k+1,(((o.p+1)+1)+1),l29,a29,c29,((Zdi o.q z26.id xw).1)⟩ [0,1,5,3] so2 ⟨so,so,Nat.le_trans (ZlR _ _ _) (so),hv29⟩ t5 rfl
 try simp only [sQ,ne_eq] at g4
 refine ZK (Zx (Zj (Zc (xM (h:=xD (h:=xA (h:=?_)))))))
 exact ZA ⟨g.k+1,(o.p+1),o.l,o.a,o.c,o.q⟩ [0,1,2,3] so2 ⟨so,so,so,hv⟩ t5 rfl
 try simp only [sQ,ne_eq] at g3
 refine xP (h:=xP (h:=xP (h:=xF (h:=Zb (t:=false) rfl (fun h=>Bool.noConfusion h) (fun _=>ZK (Zx (Zj (Zc (xM (h:=xD (h:=xA (h:=?_))))))))))))
 exact ZA ⟨g.k+1,o.p,o.l,o.a,o.c,o.q⟩ [0,1,2,3] so2 ⟨so,so,so,hv⟩ t5 rfl
 try simp only [sQ,ne_eq] at g1
 refine ZT (Zab (ZW (ZG (Zj (Zf (Za (xM (h:=xX 0 rfl Za4 rfl (ZL _ _ _ _ _ _ oz oz oz hm _ hbm) (h:=?_)))))))))
 rintro _ _ ⟨r30,rfl,r30a,r30b,rfl⟩
 refine tL4 (Zl (Za (ZF (h:=xA (h:=Zb rfl (fun g2=>?_) (fun g2=>?_))))))
 try simp only [sQ,ne_eq] at g2
 refine Zc (xBs [(0,_),(1,_),(2,_),(3,_),(4,_)] [_,_,_,_,_] Tryz.underlying110 sz3 zo3 (h:=fun b31=>Z4 4 rfl (ZZ.ints (ls:=([0,1,99,100,101]:List Int))) Zb9.mono om3 (fun B32 hle32 hr32=>?_)))
 replace hv:=hv.mono Zy.mono hle32
 replace hbm:=hbm.mono hle32
 have hr32n:=hr32.len
 refine xM (h:=xX 0 rfl Za4 rfl (ZL _ _ _ _ _ _ oz oz oz hm _ hbm) (h:=?_))
 rintro _ _ ⟨r33,rfl,r33a,r33b,rfl⟩
 obtain ⟨z34,hz34⟩:=Zeh (xs:=([0,1,99,100,101]:List Int)) (i:=r33) om om
 obtain ⟨_,rfl,hc35⟩:=hr32.elem hz34
 refine xIx Tryz.underlying110 sz3 (h:=y1 lk3 hc35 0 (h:=xW Zd6 (h:=xS [_] 3 [_,_] sz3 (h:=Zx (Zj (ZdU 2 rfl hv Zy.mono om3 (fun B36 hle36 hr36=>?_)))))))
 replace hbm:=hbm.mono hle36
 have hr36n:=hr36.len
 refine Za (xL [_,_] ZdP 3 (h:=xS [_,_] 1 [_,_] ZfA (h:=tL5 (Zd ?_))))
 exact eN [0] rfl ⟨⟨_,rfl,.inr ⟨[_,_],ZdP,Z9 1 rfl rfl rfl,rfl⟩⟩,trivial⟩ ⟨_,_,⟨z34,g.q.items⟩,_,(ol),hr36,oz,rfl⟩
 try simp only [sQ,ne_eq] at g2
 refine Za (ZF (h:=xA (h:=Zb rfl (fun g3=>?_) (fun g3=>?_))))
 try simp only [sQ,ne_eq] at g3
 refine Za (xW Zar (h:=x1 Zey 3 (h:=xV Tryz.underlying25 (h:=Zbw (h:=Zb rfl (fun g4=>?_) (fun g4=>?_))))))
 try simp only [sQ,ne_eq] at g4
 refine Z2 (keeps _ [2,3] _) mo kr ⟨Kn.le.refl _,Zai.refl _ _⟩ (fun _ _=>?_)
 refine aW 0 rfl Zar (h:=aT 1 rfl (ZC fun D B L hI=>Zh rfl rfl Zey rfl (atL 3 (hI.2.2.1.trans rfl) rfl rfl) r4) (h:=aM 2 rfl (h:=aW 3 rfl Zar (h:=aT 4 rfl (ZC fun D B L hI=>Zh rfl rfl Zey rfl (atL 3 (hI.2.2.1.trans rfl) rfl rfl) r4) (h:=aV 5 rfl Tryz.underlying25 (h:=Zan [6,7] kr kr kr ⟨?_,?_⟩))))))
 refine (Zcm 0 rfl rfl rfl Za4 rfl (ZL _ _ _ _ _ _ oz oz oz hm _ hbm) ?_)
 rintro _ _ ⟨r37,rfl,r37a,r37b,rfl⟩
 refine ⟨⟨Kn.le.refl _,t2⟩,(Zq 7 kr rfl kr (Zt (parts:=[]) [] rfl rfl Tryz.underlying109 sz9 zo9 rfl rfl rfl rfl rfl (fun b38=>?_)))⟩
 refine ⟨⟨Kn.le.refl _,t2⟩,?_⟩
 obtain ⟨z39,hz39⟩:=Zeh (xs:=g.q.items) (i:=r37) om om
 obtain ⟨bb40,_,hp40,⟨qi40,ci40,rfl,hi40,hb40,hb40b⟩,hw40,hc40⟩:=hv.row hz39
 have hi40n:=hi40.len
 refine aT 8 rfl (ZC fun D B L hI=>ZfN hp40 rfl rfl Tryz.underlying25 Zbg rfl rfl om om r4) (h:=?_)
 refine aW 9 rfl ZaG (h:=ZV 10 kr rfl kr kr kr (Zez (k:=(r37).toNat) (off:=3) (⟨z39.id,z39.fr,z39.text,[]⟩) [_] 2 hv hp40 hz39 rfl rfl ZoS rfl rfl rfl rfl rfl rfl (by rintro _ ⟨_,_,rfl,_,e1,e2⟩;exact ⟨_,_,rfl,SlK.nil,e1,e2⟩) (fun l41 hv41=>?_)))
 refine Zx (Zj (ZdU 2 rfl hv41 Zy.mono om3 (fun B42 hle42 hr42=>?_)))
 replace hbm:=hbm.mono hle42
 have hr42n:=hr42.len
 refine Za (xL [_,_] ZdP 3 (h:=xS [_,_] 1 [_,_] ZfA (h:=tL5 (Zd ?_))))
 exact Zav .ret (.inl rfl) [_] [0] rfl ⟨⟨_,rfl,.inr ⟨[_,_],ZdP,Z9 1 rfl rfl rfl,rfl⟩⟩,trivial⟩ ⟨_,_,⟨g.q.next,(g.q.items.set ((r37).toNat) (⟨z39.id,z39.fr,z39.text,[]⟩))⟩,_,(by first | rfl | (simp only [List.length_set];rfl)),hr42,by omega,rfl⟩
 refine (Zt (parts:=[]) [] rfl rfl Tryz.underlying109 sz9 zo9 rfl rfl rfl rfl rfl (fun b43=>⟨⟨Kn.le.refl _,t2⟩,(Zq 6 kr rfl kr (Zcm 0 rfl rfl rfl Za4 rfl (ZL _ _ _ _ _ _ oz oz oz hm _ hbm) ?_))⟩))
 rintro _ _ ⟨r44,rfl,r44a,r44b,rfl⟩
 refine ⟨⟨Kn.le.refl _,t2⟩,?_⟩
 obtain ⟨z45,hz45⟩:=Zeh (xs:=g.q.items) (i:=r44) om om
 obtain ⟨bb46,_,hp46,⟨qi46,ci46,rfl,hi46,hb46,hb46b⟩,hw46,hc46⟩:=hv.row hz45
 have hi46n:=hi46.len
 refine aT 8 rfl (ZC fun D B L hI=>ZfN hp46 rfl rfl Tryz.underlying25 Zbg rfl rfl om om r4) (h:=?_)
 refine aW 9 rfl ZaG (h:=ZV 10 kr rfl kr kr kr (Zez (k:=(r44).toNat) (off:=3) (⟨z45.id,z45.fr,z45.text,[]⟩) [_] 2 hv hp46 hz45 rfl rfl ZoS rfl rfl rfl rfl rfl rfl (by rintro _ ⟨_,_,rfl,_,e1,e2⟩;exact ⟨_,_,rfl,SlK.nil,e1,e2⟩) (fun l47 hv47=>?_)))
 refine Zx (Zj (ZdU 2 rfl hv47 Zy.mono om3 (fun B48 hle48 hr48=>?_)))
 have hr48n:=hr48.len
 refine Za (xL [_,_] ZdP 3 (h:=xS [_,_] 1 [_,_] ZfA (h:=tL5 (Zd ?_))))
 exact Zav .ret (.inl rfl) [_] [0] rfl ⟨⟨_,rfl,.inr ⟨[_,_],ZdP,Z9 1 rfl rfl rfl,rfl⟩⟩,trivial⟩ ⟨_,_,⟨g.q.next,(g.q.items.set ((r44).toNat) (⟨z45.id,z45.fr,z45.text,[]⟩))⟩,_,(by first | rfl | (simp only [List.length_set];rfl)),hr48,by omega,rfl⟩
 try simp only [sQ,ne_eq] at g4
 refine ZK (Zx (Zj (ZdU 2 rfl hv Zy.mono om3 (fun B49 hle49 hr49=>?_))))
 have hr49n:=hr49.len
 refine Za (xL [_,_] ZdP 3 (h:=xS [_,_] 1 [_,_] ZfA (h:=tL4 (Zd ?_))))
 exact eN [0] rfl ⟨⟨_,rfl,.inr ⟨[_,_],ZdP,Z9 1 rfl rfl rfl,rfl⟩⟩,trivial⟩ ⟨_,_,g.q,_,(ol),hr49,oz,rfl⟩
 try simp only [sQ,ne_eq] at g3
 refine ZK (Zx (Zj (ZdU 2 rfl hv Zy.mono om3 (fun B50 hle50 hr50=>?_))))
 have hr50n:=hr50.len
 refine Za (xL [_,_] ZdP 3 (h:=xS [_,_] 1 [_,_] ZfA (h:=tL4 (Zd ?_))))
 exact eN [0] rfl ⟨⟨_,rfl,.inr ⟨[_,_],ZdP,Z9 1 rfl rfl rfl,rfl⟩⟩,trivial⟩ ⟨_,_,g.q,_,(ol),hr50,oz,rfl⟩

theorem Znp (q:Option Addr) (cp:Nat) (x:DItem) (B:Kn) (hx:SlK B q cp 1 ZbJ x.left):Zu (pj J) 185 [.agg #[.int .i64 x.id,str x.fr,str x.text,.slice q x.left.length cp]] B [] (fun v B' Ls=>B'=B∧∃ins a c,Ls=[ins]∧v = .agg #[.int .i64 x.id,str x.fr,str x.text,.slice a x.left.length c]∧Zsc 9 ins a c x.left):=by
 refine cB 9 Tryz.func185 (h:=?_)
 have hxn:=hx.len
 refine Za (xBx [_,_,_,_] (h:=fun b1=>xAl [_,_,_,_] ZcM (h:=fun b2=>tL2 (Za (xBs [] [] Tryz.underlying109 sz9 zo9 (h:=fun b3=>xW ZaG (h:=x1 ZcX 0 (h:=Zp (ZaU (R:=ZbJ) 2 rfl (ZZ.lit0 (R:=ZbJ)) rfl rfl rfl Zg4 ZgL rfl rfl rfl hx.rows ZbJ.one rfl om (fun l4 p4 c4 hv4=>?_))))))))))
 refine xW ZaG (h:=xS [_] 0 [_,_,_,_] ZoS (h:=tL3 (Za (xL [_,_,_,_] ZdF 0 (h:=xS [_,_,_,_] 1 [_,_,_,_] Zbg (h:=tL3 (Zd ?_)))))))
 exact eN [2] rfl ⟨⟨_,rfl,.inr ⟨[_,_,_,_],ZdF,Z9 1 rfl rfl rfl,rfl⟩⟩,trivial⟩ ⟨rfl,_,_,_,rfl,rfl,(hv4).anyK ZbJ.any⟩

theorem ZpN (q:Option Addr) (m cp:Nat) (B:Kn):Zu (pj J) 184 [.slice q m cp] B [] (fun v B' Ls=>B'=B∧∃b,Ls=[Zas b [.slice q m cp] 25]∧v = .func (.func 193) #[] #[ptr ⟨b,0,none⟩]):=by
 refine cB 4 Tryz.func184 (h:=?_)
 refine Za (xBx [_] (h:=fun b1=>xA (h:=tL1 (Za (Zp (Zdu (xs:=[]) (ys:=[_]) rfl rfl rfl rfl (xA (h:=Zd ?_))))))))
 exact eN [0] rfl t1 ⟨rfl,_,rfl,rfl⟩

theorem ZvH (l bc:Nat) (q:Option Addr) (cp:Nat) (xs:List DItem) (Inv:Nat→Kn→Cells→Prop) (s0:Cells) (B:Kn) (hq:SlK B q cp 4 Zy xs) (hcc:ZaQ B bc 0 [.slice q xs.length cp]) (h0:Inv xs.length B s0) (hround :∀(j:Nat) (i:Int) (x:DItem) (row:List Value) (B':Kn) (s:Cells),B.le B'→Inv (j+1) B' s→xs[j]? = some x→Zy B' row x→∃lp,(l,Obj.loop lp)∈s∧lp.params.size=2∧Zse (pj J) l lp.fn (ZmF lp.params lp.tmps [.int .i64 i,.agg row.toArray]) lp.assign lp.body B' s (fun B'' s'=>Inv j B'' s')):Zu (pj J) 193 [.func (.yield l) #[] #[],ptr ⟨bc,0,none⟩] B [s0] (fun v B' Ls=>∃s,Ls=[s]∧Inv 0 B' s):=by
 refine cB 19 Tryz.func193 (h:=?_)
 have hqn:=hq.len
 refine Za (Zp (Zh rfl rfl Zey rfl (hcc _ 0 _ rfl) (xV Tryz.underlying25 (h:=xU (h:=xA (h:=Zl (ZO (α:=Int × Cells) [0,1] (fun g=>[(3,.int .i64 g.1)]) [0] (fun g=>[g.2]) (fun g Bx=>-1≤g.1∧g.1<xs.length∧Inv (g.1+1).toNat Bx g.2) (fun g=>(g.1+1).toNat) ((xs.length:Int) - 1,s0) t1 rfl (⟨so,so,by rw [show ((xs.length:Int) - 1+1).toNat=xs.length from by omega];exact h0⟩) (fun g B1 hle1 hI=>?_))))))))
 obtain ⟨hk1,hk,hI⟩:=hI
 replace hq:=up1 hle1 hq
 replace hcc:=hcc.mono hle1
 refine ZN [(0,_),(1,_),(3,_)] [_] t3 rfl (Zf (Za (xM (h:=Zd9 (h:=Zb rfl (fun g1=>?_) (fun g1=>?_))))))
 try simp only [sQ,ne_eq] at g1
 refine wSk (Zf (Zl (Za (xM (h:=xM (h:=Zp (Zh rfl rfl Zey rfl (hcc _ 0 _ rfl) (xM (h:=?_)))))))))
 obtain ⟨x,hx⟩:=Zeh (xs:=xs) (i:=g.1) om om
 obtain ⟨bb3,oo3,rfl⟩:=hq.base hx
 obtain ⟨_,⟨qi4,ci4,rfl,hi4,hb4,hb4b⟩,hc4⟩:=hq.elem hx
 have hi4n:=hi4.len
 refine xIx Tryz.underlying25 Zbg (h:=?_)
 obtain ⟨lp,hl,hs,hr⟩:=hround g.1.toNat g.1 x _ _ g.2 (oy) (by rw [show g.1.toNat+1=(g.1+1).toNat from by omega];exact hI) hx ⟨_,_,rfl,oy,oy,oy⟩
 refine yL [_,_,_,_] ZdF hc4 0 (h:=Zp (Zuq (j:=0) rfl hl rfl rfl rfl rfl hs.symm hr (fun Bc sc hlec hIc=>xN (h:=tL1 (Zb rfl (fun g2=>by cases g2) (fun g2=>?_))))))
 try simp only [sQ,ne_eq] at g2
 refine ZK (Zx (Zj (Zc (xM (h:=xU (h:=xA (h:=?_)))))))
 exact ZA (g.1 - 1,sc) [0] so2 ⟨so,so,by simp only [];rw [show (g.1 - 1+1).toNat=g.1.toNat from by omega];exact hIc⟩ t3 rfl
 try simp only [sQ,ne_eq] at g1
 refine ZT (Zab (ZW (ZG ?_)))
 exact Zav .normal (.inr rfl) [] [0] rfl trivial ⟨_,rfl,by rw [show (g.1+1).toNat=0 from by omega] at hI;exact hI⟩

theorem Zna (q:Option Addr) (cp:Nat) (x:DQueue) (B:Kn) (hx:SlK B q cp 4 Zy x.items):Zu (pj J) 159 [.agg #[.int .i64 x.next,.slice q x.items.length cp]] B [] (fun v B' Ls=>∃s,Ls=[s]∧Zhc 9 239 v x.items s):=by
 refine Zmz 17 Tryz.func159 rfl rfl rfl (Nat.le_of_ble_eq_true rfl) ?_
 refine Ze0 (xBx [_,_] (h:=fun b1=>xA (h:=Zqo [(0,_),(1,_),(2,_)] [_] t3 rfl (Ze0 (xAl [_] Zxw (h:=fun b2=>Zqo [(0,_),(1,_),(2,_),(3,_)] [_,_] t4 rfl (Zwk (Ze0 (xW Zar (h:=x1 Zey 0 (h:=xC Zys rfl (ZpN _ _ _ _) (h:=?_))))))))))))
 rintro _ B3 _ hle3 ⟨rfl,b3,rfl,rfl⟩
 refine Zqo [(0,_),(1,_),(2,_),(3,_),(8,_)] [_,_,_] t5 rfl (Zux (ZxN 2 rfl (fun B4 hle4 hm4=>?_)))
 replace hx:=up1 hle4 hx
 have hcc:=Zbr hm4
 refine ZxM [1] rfl (Zss (J:=fun B' L'=>∃v s,L'=[Zas b2 [v] 203,s]∧Zhc 9 239 v x.items s) (cap:=[_]) rfl Zyo (fun lp l hTn hTS hps hasg hbd hst hlp=>?_) (fun r B9 L9 hle9 hJ=>?_))
 refine Zu.mono (ZvH l _ _ _ x.items (fun j B9 s9=>∃v cells,s9.Perm ((l,Obj.loop lp) :: (Zas b2 [v] 203 ++ cells))∧Zhc 9 239 v (x.items.drop j) cells) _ _ hx hcc ⟨.pointer none,[],by simp,by rw [List.drop_length];exact ⟨rfl,rfl⟩⟩ ?_) ?_
 rintro j i y row B9 s9 hle9 ⟨v,cells,hp,hl⟩ hy hrow
 obtain ⟨qy,cy,rfl,hy5,hy6,hy7⟩:=hrow
 have hy5n:=hy5.len
 obtain ⟨p9,rfl⟩:=hl.ptr
 obtain ⟨hA,hN⟩:=ZtL (a:=9) (b:=10) (x:=.int .i64 i) (y:=.agg #[.int .i64 y.id,str y.fr,str y.text,.slice qy y.left.length cy]) hTS hTn rfl rfl
 refine ⟨lp,hp.mem_iff.2 (List.mem_cons_self ..),by rw [hps];rfl,?_⟩
 rw [hps,hasg,hbd]
 refine ZqC (L:=[Zas b2 [.pointer p9] 203,cells]) (lp:=lp) hN [(3,_),(9,_),(10,_)] (hA.sub t3) (by simpa using hp) hst ?_
 refine Zc (xAl [_,_,_,_] ZcM (h:=fun b4=>xS [_,_,_,_] 3 [_,_,_,_] Zbg (h:=⟨rfl,rfl,rfl,(tL4 (Zl (Z2 (keeps _ [1,3] _) mo kr ⟨Kn.le.refl _,Zai.refl _ _⟩ (fun _ _=>?_))))⟩)))
 refine aT 0 rfl (ZC fun D B L hI=>Z1 [_,_,_,_] rfl rfl ZdF rfl (Z9 3 (hI.2.2.1.trans rfl) rfl rfl) r4) (h:=aT 2 rfl (ZC fun D B L hI=>Zh rfl rfl ZuS rfl (atL 1 (hI.2.1.trans rfl) rfl rfl) r4) (h:=Zq 1 kr rfl kr (Zbh rfl rfl Zyr rfl (Znp _ _ y _ hy5) ?_)))
 rintro _ B5 _ hle5 ⟨rfl,ins5,a5,c5,rfl,rfl,hs5⟩
 refine ⟨⟨Kn.le.refl _,t2⟩,(aT 3 rfl (ZC fun D B L hI=>Zaz (parts:=[(0,_),(1,_)]) [_,_,_,_,_] [_,_,_,_,_] rfl rfl ZxV Zxv rfl rfl rfl r4) (h:=Zq 4 kr rfl kr (Zwe (l:=[_,_,_,_,_]) rfl rfl rfl rfl (fun b6=>?_))))⟩
 refine ⟨⟨Kn.le.refl _,t2⟩,(ZV 5 kr rfl kr kr kr (ZI [_] 1 [_] rfl rfl ZxR rfl rfl rfl rfl rfl rfl rfl rfl ?_))⟩
 refine Zx (⟨rfl,rfl,(l,Obj.loop lp) :: (Zas b2 [ptr ⟨b6,0,none⟩] 203 ++ (Zas b6 ([.int .i64 y.id,str y.fr,str y.text,.slice a5 y.left.length c5] ++ [.pointer p9]) 239 ++ (ins5 ++ cells))),Zas b4 [.int .i64 y.id,str y.fr,str y.text,.slice qy y.left.length cy] 117,?_,_,_,.refl _,?_⟩)
 refine (ZaE [0,1,5,4,2] _ _ _ rfl).trans ?_
 rw [hlp]
 simp [Zas]
 rw [ZrL hy]
 exact ⟨_,_,_,_,_,rfl,.refl _,⟨_,_,rfl,hs5,oy,oy,oy⟩,hl⟩
 rintro _ B9 _ hle9 ⟨s9,rfl,v,cells,hp,hl⟩
 exact ⟨[Zas b2 [v] 203,cells],_,rfl,by simpa using hp,v,cells,rfl,by simpa using hl⟩
 obtain ⟨v,s9,rfl,hl⟩:=hJ
 refine Zx (Zj (Za (x1 ZuS 0 (h:=xA (h:=tL3 (Zd ?_))))))
 exact ⟨.inl rfl,r,2,rfl,rfl,[_],[_],t1,⟨_,List.perm_append_comm⟩,_,rfl,hl⟩

theorem ZqF (nx:Int) (v:Value) (xs:List DItem) (cells:Cells) (B:Kn) (hn:xs.length≤2000000) (hv:Zhc 9 239 v xs cells):Zu (pj J) 158 [.int .i64 nx,v] B [cells] (fun v B' Ls=>B'=B∧∃l q c,Ls=[l]∧v = .agg #[.int .i64 nx,.slice q xs.length c]∧ZcO l q c 117 4 (ZdS 9) xs):=by
 refine cB 27 Tryz.func158 (h:=?_)
 obtain ⟨p,rfl⟩:=hv.ptr
 refine Za (xAl [_,_] ZhC (h:=fun b1=>tL2 (Za (xM (h:=xBs [] [] Tryz.underlying25 Zbg ZcM (h:=fun b2=>xB [(0,_),(1,_)] [_,_] [_,_] Zt6 ZhC (h:=xAl [_,_] ZhC (h:=fun b3=>xS [_,_] 3 [_,_] ZfA (h:=tL4 (Zf (Za (xM (h:=xA (h:=Zl (ZO (α:=QOf) [0,1,4,5] (fun g=>[(6,.pointer g.p)]) [0,2,3] (fun g=>[g.cells,g.l,Zas b3 [.int .i64 nx,.slice g.q g.ys.length g.c] 27]) (fun g Bx=>Bx=B∧g.ys ++ g.xs=xs∧ZcO g.l g.q g.c 117 4 (ZdS 9) g.ys∧Zhc 9 239 (.pointer g.p) g.xs g.cells) (fun g=>g.xs.length) ⟨p,[],xs,_,_,_,_⟩ t1 rfl (⟨rfl,rfl,.lit0,hv⟩) (fun g B4 hle4 hI=>?_))))))))))))))))
 obtain ⟨rfl,hxs,hvd,hl⟩:=hI
 refine ZN [(0,_),(1,_),(4,_),(5,_),(6,_)] [_,_,_,_] t5 rfl (Zf (Za (xM (h:=Zp (ZtZ rfl rfl rfl rfl rfl (ZhY Tryz.underlying203) (Zb rfl (fun g1=>?_) (fun g1=>?_)))))))
 obtain ⟨y,ys,b8,q8,c8,np,ins8,rest8,hp8,hrest,hperm,hy5,hy6,hy7,hy8,hl8⟩:=hl.more (by simpa using g1)
 rw [hp8]
 have hlen:=congrArg List.length hxs
 rw [List.length_append,hrest,List.length_cons] at hlen
 replace hlen:g.ys.length+1≤2000000:=by omega
 refine Zky 0 rfl hperm (tL6 (wSk (Zf (Zl (Z2 (keeps _ [0,3] _) mo kr ⟨Kn.le.refl _,Zai.refl _ _⟩ (fun _ _=>?_))))))
 refine aW 0 rfl Zar (h:=aT 1 rfl (ZC fun D B L hI=>Zh rfl rfl Zey rfl (atL 3 (hI.2.2.1.trans rfl) rfl rfl) r4) (h:=aM 2 rfl (h:=aNc 3 rfl (h:=aW 4 rfl Zva (h:=aT 5 rfl (ZC fun D B L hI=>Z1 [_,_,_,_] rfl rfl ZdF rfl (Z9 0 (hI.2.1.trans rfl) rfl rfl) r4) (h:=Zq 6 kr rfl kr (Zt (parts:=[(0,_)]) [_,_,_,_] rfl rfl Tryz.underlying25 Zbg ZcM rfl rfl rfl rfl rfl (fun b5=>?_))))))))
 refine ⟨⟨Kn.le.refl _,t2⟩,(Zq 7 kr rfl kr (Zwg (R:=ZdS 9) (z:=y) 2 4 rfl rfl rfl hvd rfl rfl rfl ZvS ZvP rfl rfl (ZaN.box 6 rfl) rfl rfl ⟨_,_,rfl,hy5,hy6,hy7,hy8⟩ oz (fun l9 q9 c9 hv9=>?_)))⟩
 refine ⟨⟨Kn.le.refl _,t2⟩,(aW 8 rfl Zar (h:=ZV 9 kr rfl kr kr kr (ZI [_] 3 [_,_] rfl rfl ZvO rfl rfl rfl rfl rfl rfl rfl rfl ?_)))⟩
 refine Zx (Zj (Zc (xM (h:=xNc (h:=xW Zu9 (h:=x1 ZuS 0 (h:=xA (h:=?_))))))))
 exact ZA ⟨np,g.ys ++ [y],ys,l9,q9,c9,rest8⟩ [5,1,2,3] (by rw [hrest];simp) ⟨rfl,by rw [← hxs,hrest];simp,hv9,hl8⟩ t5 rfl
 rw [hl.done (by simpa using g1),List.append_nil] at hxs
 subst hxs
 refine ZT (Zab (ZW (ZG (Zj (Za (xL [_,_] ZdP 3 (h:=xS [_,_] 1 [_,_] ZfA (h:=tL4 (Zd ?_)))))))))
 exact eN [2] rfl ⟨⟨_,rfl,.inr ⟨[_,_],ZdP,Z9 1 rfl rfl rfl,rfl⟩⟩,trivial⟩ ⟨rfl,_,_,_,rfl,rfl,hvd⟩

theorem ZlQ (q:Option Addr) (cp:Nat) (x:DQueue) (B:Kn) (hx:SlK B q cp 4 Zy x.items):Zu (pj J) 114 [.agg #[.int .i64 x.next,.slice q x.items.length cp]] B [] (fun v B' Ls=>∃l q c,Ls=[l]∧v = .agg #[.int .i64 x.next,.slice q x.items.length c]∧ZcO l q c 117 4 (ZdS 9) x.items):=by
 refine cB 8 Tryz.func114 (h:=?_)
 have hxn:=hx.len
 refine Za (xBx [_,_] (h:=fun b1=>xAl [_,_] ZhC (h:=fun b2=>tL2 (Zf (Z2 (keeps _ [0] _) mo kr ⟨Kn.le.refl _,Zai.refl _ _⟩ (fun _ _=>?_))))))
 refine aW 0 rfl Zd6 (h:=aT 1 rfl (ZC fun D B L hI=>Zh rfl rfl lk3 rfl (atL 0 (hI.2.1.trans rfl) rfl rfl) r4) (h:=aT 2 rfl (ZC fun D B L hI=>Z1 [_,_] rfl rfl ZdP rfl (Z9 0 (hI.2.1.trans rfl) rfl rfl) r4) (h:=Zq 3 kr rfl kr (Zbh rfl rfl ZyH rfl (Zna _ _ x _ hx) ?_))))
 rintro _ B3 _ hle3 ⟨sl3,rfl,hl3⟩
 refine ⟨⟨hle3,t1⟩,(Zq 4 kr rfl kr (ZaA [2] rfl rfl rfl rfl ZyI rfl (ZqF _ _ _ _ _ oa hl3) ?_))⟩
 rintro _ B4 _ hle4 ⟨rfl,ld4,ad4,cd4,rfl,rfl,hd4⟩
 refine ⟨⟨hle3,t1⟩,(ZV 5 kr rfl kr kr kr (ZI [_,_] 1 [_,_] rfl rfl ZfA rfl rfl rfl rfl rfl rfl rfl rfl ?_))⟩
 refine Zj (tL3 (Zd ?_))
 exact eN [2] rfl ⟨⟨_,rfl,.inr ⟨[_,_],ZdP,Z9 1 rfl rfl rfl,rfl⟩⟩,trivial⟩ ⟨_,_,_,rfl,rfl,hd4⟩

theorem Zrb (q:Option Addr) (m cp:Nat) (B:Kn):ZaH (pj J) 216 [.slice q m cp] B (.int .i64 m):=by
 refine cB 5 Tryz.func216 (h:=?_)
 refine Za (xA (h:=Za (xM (h:=xV Tryz.underlying173 (h:=xA (h:=Zd ?_))))))
 exact eR t1 ⟨rfl,rfl,rfl⟩

theorem Zgx (q:Option Addr) (cp:Nat) (xs:List Int) (i j:Nat) (a b:Int) (hi:xs[i]? = some a) (hj:xs[j]? = some b) (B:Kn) (hx:SlK B q cp 1 Zb9 xs):ZaH (pj J) 217 [.slice q xs.length cp,.int .i64 i,.int .i64 j] B (.bool (decide (a<b))):=by
 refine cB 16 Tryz.func217 (h:=?_)
 have hil:=Zcc hi
 have hjl:=Zcc hj
 refine Za (xA (h:=Zf (Z2 (same _ _) mo kr ⟨rfl,rfl⟩ (fun _ _=>?_))))
 refine aM 0 rfl (h:=aM 1 rfl (h:=?_))
 obtain ⟨z,hz⟩:=Zaf (xs:=xs) (i:=i) om
 obtain ⟨bb2,oo2,rfl⟩:=hx.base hz
 obtain ⟨_,rfl,hc3⟩:=hx.elem hz
 refine aIx 2 rfl Tryz.underlying110 sz3 (h:=aT 3 rfl (Zaj fun D=>Zh rfl rfl lk3 rfl (hc3 _ 0 _ rfl) r4) (h:=aM 4 rfl (h:=aM 5 rfl (h:=?_))))
 obtain ⟨w,hw⟩:=Zaf (xs:=xs) (i:=j) om
 obtain ⟨_,rfl,hc5⟩:=hx.elem hw
 refine aIx 6 rfl Tryz.underlying110 sz3 (h:=?_)
 rw [hi] at hz
 cases hz
 rw [hj] at hw
 cases hw
 refine aT 7 rfl (Zaj fun D=>Zh rfl rfl lk3 rfl (hc5 _ 0 _ rfl) r4) (h:=Zr9 8 rfl (h:=aA 9 rfl (h:=Zz kr kr ?_)))
 refine Zj (Zd ?_)
 exact eR t1 ⟨rfl,rfl,rfl⟩

theorem Zs9 (b:Nat) (q:Option Addr) (cp:Nat) (xs:List Int) (l:Cells) (z:Int) (hn:xs.length≤2000000) (B:Kn) (hv:ZZ B l q cp 3 1 Zb9 xs):Zu (pj J) 219 [ptr ⟨b,0,none⟩,.iface 3 (.int .i64 z)] B [Zas b [.slice q xs.length cp] 173,l] (fun v B' Ls=>B'=B∧∃q' c' l',Ls=[Zas b [.slice q' (xs ++ [z]).length c'] 173,l']∧ZZ B l' q' c' 3 1 Zb9 (xs ++ [z])):=by
 refine cB 13 Tryz.func219 (h:=?_)
 refine Z2 (keeps _ [0] _) mo kr ⟨Kn.le.refl _,Zai.refl _ _⟩ (fun _ _=>?_)
 refine aM 0 rfl (h:=aM 1 rfl (h:=aNc 2 rfl (h:=aT 3 rfl (ZC fun D B L hI=>Zh rfl rfl ZfB rfl (atL 0 (hI.2.1.trans rfl) rfl rfl) r4) (h:=aM 4 rfl (h:=aT 5 rfl (ZC fun D B L hI=>Zlr rfl rfl Tryz.underlying3 rfl rfl r4) (h:=Zq 6 kr rfl kr (Zt (parts:=[(0,_)]) [_] rfl rfl Tryz.underlying110 sz3 zo3 rfl rfl rfl rfl rfl (fun b1=>?_))))))))
 refine ⟨⟨Kn.le.refl _,t1⟩,(Zq 7 kr rfl kr (Zbc (z:=z) (R:=Zb9) 1 rfl hv rfl rfl rfl Zx9 ZxT rfl rfl (ZaN.box 2 rfl) rfl rfl (rfl) om (fun l2 p2 c2 hv2=>?_)))⟩
 refine ⟨⟨Kn.le.refl _,t1⟩,(aNc 8 rfl (h:=ZV 9 kr rfl kr kr kr (ZI [_] 0 [_] rfl rfl Zwo rfl rfl rfl rfl rfl rfl rfl rfl ?_)))⟩
 exact Zav .normal (.inr rfl) [] [0,1] rfl trivial ⟨rfl,_,_,_,rfl,hv2⟩

theorem Zu4 (b:Nat) (q:Option Addr) (cp:Nat) (xs:List Int) (l:Cells) (z:Int) (hz:xs[xs.length - 1]? = some z) (hn:xs.length≤2000000) (B:Kn) (hv:ZZ B l q cp 3 1 Zb9 xs):Zu (pj J) 218 [ptr ⟨b,0,none⟩] B [Zas b [.slice q xs.length cp] 173,l] (fun v B' Ls=>B'=B∧v = .iface 3 (.int .i64 z)∧Ls=[Zas b [.slice q (xs.length - 1) cp] 173,l]∧ZZ B l q cp 3 1 Zb9 (xs.take (xs.length - 1))):=by
 refine cB 25 Tryz.func218 (h:=?_)
 have hl1:=Zcc hz
 have hcp:=hv.cap
 have hv9:=hv.take (k:=xs.length - 1) oz
 have hs0:=hv.slice0 (sz:=1)
 refine Za (xA (h:=Za (xM (h:=xNc (h:=x1 ZfB 0 (h:=xV Tryz.underlying173 (h:=Zp (ZjF (r:=((xs.length - 1:Nat):Int)) rfl rfl rfl rfl (by rw [show ((xs.length:Int) - 1)=((xs.length - 1:Nat):Int) from by omega];exact ZaR oz oz) ?_))))))))
 refine xA (h:=Za (xM (h:=xNc (h:=x1 ZfB 0 (h:=xM (h:=?_))))))
 obtain ⟨w,hw⟩:=Zaf (xs:=xs) (i:=(xs.length - 1)) om
 obtain ⟨bb2,_,hp2,rfl,hw2,hc2⟩:=hv.row hw
 refine xIp hp2 Tryz.underlying110 sz3 (h:=?_)
 rw [hz] at hw
 cases hw
 refine Zp (Zh rfl rfl lk3 rfl (hc2 _ 1 rfl 0 _ rfl) (xA (h:=Za (xM (h:=xM (h:=xNc (h:=x1 ZfB 0 (h:=xM (h:=Zp (Zfp rfl rfl Tryz.underlying110 sz3 rfl (a:=0) (b:=xs.length - 1) rfl ⟨_,_,rfl,rfl⟩ oz oz ?_))))))))))
 rw [hs0]
 refine xNc (h:=xS [_] 0 [_] Zwo (h:=tL2 (Za (xM (h:=Zp (ZeA rfl rfl Tryz.underlying3 rfl rfl (xA (h:=Zd ?_))))))))
 exact eN [0,1] rfl t1 ⟨rfl,rfl,rfl,hv9⟩

theorem Zgw (q:Option Addr) (cp:Nat) (xs:List Int) (l:Cells) (i j:Nat) (a b:Int) (hi:xs[i]? = some a) (hj:xs[j]? = some b) (hn:xs.length≤2000000) (B:Kn) (hv:ZZ B l q cp 3 1 Zb9 xs):Zu (pj J) 220 [.slice q xs.length cp,.int .i64 i,.int .i64 j] B [l] (fun v B' Ls=>B'=B∧∃l',Ls=[l']∧ZZ B l' q cp 3 1 Zb9 ((xs.set i b).set j a)):=by
 refine cB 20 Tryz.func220 (h:=?_)
 have hil:=Zcc hi
 have hjl:=Zcc hj
 refine Z2 (keeps _ [0] _) mo kr ⟨Kn.le.refl _,Zai.refl _ _⟩ (fun _ _=>?_)
 refine aM 0 rfl (h:=aM 1 rfl (h:=aM 2 rfl (h:=aM 3 rfl (h:=aM 4 rfl (h:=aM 5 rfl (h:=?_))))))
 obtain ⟨y,hy⟩:=Zaf (xs:=xs) (i:=j) om
 obtain ⟨bb2,_,hp2,rfl,hw2,hc2⟩:=hv.row hy
 refine aT 6 rfl (ZC fun D B L hI=>ZfN hp2 rfl rfl Tryz.underlying110 sz3 rfl rfl om om r4) (h:=?_)
 refine aT 7 rfl (ZC fun D B L hI=>Zh rfl rfl lk3 rfl (hc2 _ 0 (hI.2.1.trans rfl) 0 _ rfl) r4) (h:=aM 8 rfl (h:=aM 9 rfl (h:=?_)))
 obtain ⟨x,hx⟩:=Zaf (xs:=xs) (i:=i) om
 obtain ⟨bb4,_,hp4,rfl,hw4,hc4⟩:=hv.row hx
 refine aT 10 rfl (ZC fun D B L hI=>ZfN hp4 rfl rfl Tryz.underlying110 sz3 rfl rfl om om r4) (h:=?_)
 refine aT 11 rfl (ZC fun D B L hI=>Zh rfl rfl lk3 rfl (hc4 _ 0 (hI.2.1.trans rfl) 0 _ rfl) r4) (h:=?_)
 obtain ⟨bb5,_,hp5,rfl,hw5,hc5⟩:=hv.row hx
 refine aT 12 rfl (ZC fun D B L hI=>ZfN hp5 rfl rfl Tryz.underlying110 sz3 rfl rfl om om r4) (h:=?_)
 refine Zbj 13 kr rfl kr kr (Zez (k:=i) (off:=0) (y) [_] 0 hv hp5 hx rfl rfl sz3 rfl rfl rfl rfl rfl rfl ((fun row h=>by cases h;rfl)) (fun l6 hv6=>?_))
 obtain ⟨w,hw⟩:=Zaf (xs:=(xs.set i (y))) (i:=j) om
 obtain ⟨bb8,_,hp8,rfl,hw8,hc8⟩:=hv6.row hw
 refine aT 14 rfl (ZC fun D B L hI=>ZfN hp8 rfl rfl Tryz.underlying110 sz3 rfl rfl om om r4) (h:=?_)
 refine ZV 15 kr rfl kr kr kr (Zez (k:=j) (off:=0) (x) [_] 0 hv6 hp8 hw rfl rfl sz3 rfl rfl rfl rfl rfl rfl ((fun row h=>by cases h;rfl)) (fun l9 hv9=>?_))
 rw [hi] at hx
 cases hx
 rw [hj] at hy
 cases hy
 exact Zav .normal (.inr rfl) [] [0] rfl trivial ⟨rfl,_,rfl,hv9⟩

theorem Ztd (b:Nat) (q:Option Addr) (cp:Nat) (xs:List Int) (l:Cells) (j:Nat) (hj:j<xs.length) (hn:xs.length≤2000000) (hh:Zgb xs j) (B:Kn) (hv:ZZ B l q cp 3 1 Zb9 xs):Zu (pj J) 166 [.iface 172 (ptr ⟨b,0,none⟩),.int .i64 j] B [Zas b [.slice q xs.length cp] 173,l] (fun v B' Ls=>B'=B∧∃ys l',Ls=[Zas b [.slice q ys.length cp] 173,l']∧ZZ B l' q cp 3 1 Zb9 ys∧ys.Perm xs∧ZdO ys):=by
 refine cB 23 Tryz.func166 (h:=?_)
 refine Zl (ZO (α:=Nat × List Int × Cells) [0] (fun g=>[(1,.int .i64 g.1)]) [0,1] (fun g=>[Zas b [.slice q g.2.1.length cp] 173,g.2.2]) (fun g Bx=>Bx=B∧g.1<g.2.1.length∧g.2.1.Perm xs∧Zgb g.2.1 g.1∧ZZ B g.2.2 q cp 3 1 Zb9 g.2.1) (fun g=>g.1) (j,xs,l) t1 rfl (⟨rfl,hj,.refl _,hh,hv⟩) (fun g B1 hle1 hI=>?_))
 obtain ⟨rfl,hk,hp,hb,hv⟩:=hI
 have hpl:=hp.length_eq
 refine ZN [(0,_),(1,_)] [_,_] t2 rfl (Zl (Za (xM (h:=Zp (ZjF rfl rfl rfl rfl (ZaR oz oz) ?_)))))
 refine Zp (ZfL (r:=(((g.1 - 1) / 2:Nat):Int)) rfl rfl rfl rfl oz (by rw [show Int.tdiv ((g.1:Int) - 1) 2=(((g.1 - 1) / 2:Nat):Int) from ZxJ g.1];exact ZaR oz oz) ?_)
 refine xA (h:=Zf (Za (xM (h:=xM (h:=ZF (h:=xM (h:=Zn (d:=11) rfl (fun g1=>?_) (fun g1=>?_))))))))
 try simp only [sQ,ne_eq] at g1
 refine xP (h:=xP (h:=xP (h:=xP (h:=xP (h:=xT (h:=Zb (t:=true) rfl (fun _=>ZT (Zab (Zft rfl (ZW (ZG ?_))))) (fun h=>Bool.noConfusion h)))))))
 exact Zav .normal (.inr rfl) [] [0,1] rfl trivial ⟨rfl,_,_,rfl,hv,hp,Zut (by rw [show g.1=0 from by omega] at hb;exact hb)⟩
 try simp only [sQ,ne_eq] at g1
 refine xM (h:=xM (h:=xM (h:=Zp (ZfO 1 rfl rfl rfl ZrI rfl rfl (ZbF Zep Tryz.underlying172 ZfB (atL 0 rfl rfl rfl)) (ZaH.borrow fun hm2=>Zgx _ _ _ _ _ _ _ (Zbe oz) (Zbe oz) _ (hv.lend Zb9.mono hm2 om)) ?_))))
 refine xN (h:=xF (h:=Zb rfl (fun g2=>?_) (fun g2=>?_)))
 try simp only [sQ,ne_eq] at g2
 refine ZT (Zab (Zft rfl (ZW (ZG ?_))))
 exact Zav .normal (.inr rfl) [] [0,1] rfl trivial ⟨rfl,_,_,rfl,hv,hp,Zuv hb (by simpa using g2)⟩
 try simp only [sQ,ne_eq] at g2
 refine wSk (Za (xM (h:=xM (h:=xM (h:=Zp (Zhg [1] rfl rfl rfl rfl ZrH rfl rfl (ZbF Zeo Tryz.underlying172 ZfB (atL 0 rfl rfl rfl)) (Zgw _ _ _ _ _ _ _ _ (Zbe oz) (Zbe oz) oz _ hv) ?_))))))
 rintro _ B3 _ hle3 ⟨rfl,l3,rfl,hv3⟩
 refine tL2 (Zc (xM (h:=xA (h:=Zx ?_))))
 rw [← ZdC g.2.1 ((g.1 - 1) / 2) g.1]
 exact ZA ((g.1 - 1) / 2,(swp g.2.1 ((g.1 - 1) / 2) g.1),l3) [0,1] (so) ⟨rfl,by have:=ZdC g.2.1 ((g.1 - 1) / 2) g.1;simp only [];omega,(Zgl oz oz).trans hp,Zuu oz oz hb (by simpa using g2),hv3⟩ t2 rfl

theorem Zpy (b:Nat) (q:Option Addr) (cp:Nat) (xs:List Int) (l:Cells) (z:Int) (hn:xs.length<2000000) (hh:ZdO xs) (B:Kn) (hv:ZZ B l q cp 3 1 Zb9 xs):Zu (pj J) 127 [.iface 172 (ptr ⟨b,0,none⟩),.iface 3 (.int .i64 z)] B [Zas b [.slice q xs.length cp] 173,l] (fun v B' Ls=>B'=B∧∃q' c' ys l',Ls=[Zas b [.slice q' ys.length c'] 173,l']∧ZZ B l' q' c' 3 1 Zb9 ys∧ys.Perm (xs ++ [z])∧ZdO ys):=by
 refine cB 12 Tryz.func127 (h:=?_)
 refine Za (xM (h:=xM (h:=Zp (Zhg [0,1] rfl rfl rfl rfl Zyi rfl rfl (Zml Zpc Tryz.underlying172) (Zs9 _ _ _ _ _ _ oz _ hv) ?_))))
 rintro _ B1 _ hle1 ⟨rfl,q1,c1,l1,rfl,hv1⟩
 refine tL2 (Zc (xM (h:=xM (h:=Zp (ZfO 1 rfl rfl rfl ZwW rfl rfl (ZbF ZlX Tryz.underlying172 ZfB (atL 0 rfl rfl rfl)) (ZaH.borrow fun hm2=>Zrb _ _ _ _) (Zp (ZjF (r:=((xs.length:Nat):Int)) rfl rfl rfl rfl ((congrArg _ (show _=((xs.length:Nat):Int) from by rw [List.length_append,List.length_singleton];omega)).trans (ZaR oz oz)) ?_)))))))
 refine xK [0,1] rfl ZyC rfl (Ztd _ _ _ _ _ _ (by simp) (by simp;omega) (ZsD hh) _ hv1) (h:=?_)
 rintro _ Bu _ hleu ⟨rfl,ysu,lu,rfl,hvu,hpu,hhu⟩
 exact Zav .normal (.inr rfl) [] [0,1] rfl trivial ⟨rfl,_,_,_,_,rfl,hvu,hpu,hhu⟩

end Go.Proofs.YtandoilaebgglaaGreatDoor
