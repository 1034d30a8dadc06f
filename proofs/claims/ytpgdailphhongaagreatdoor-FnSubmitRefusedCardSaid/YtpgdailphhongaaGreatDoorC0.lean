/-
  WHAT THE FUNCTIONS THAT THE LAWS REACH COMPUTE: each function's contract, proved off its printed body (the text is written by program). No condition beyond those that each theorem states.
-/
import Derived.Test.YtpgdailphhongaaGreatDoorRows
import Derived.Test.YtpgdailphhongaaGreatDoorL0
import Derived.KernelRfl
namespace Go.Proofs.YtpgdailphhongaaGreatDoor
open Go Go.BL
set_option linter.unusedVariables false
set_option linter.unusedSimpArgs false
noncomputable abbrev pj (J : JoinT) : PJ := ⟨Tryz.prog, J⟩
noncomputable abbrev wgL : Go.Conc.Lib.WgLink := { add := 87, done := 89, wait := 92, relMerge := 131, disable := 132, enable := 133, inBubble := 134, associate := 135, fatal := 136, uOr := 137, uAdd := 138, raceRead := 139, uLoad := 140, uStore := 141, disassociate := 142, semrelease := 143, acquire := 145, isAssociated := 146, uCas := 147, raceWrite := 148, semacquire := 149, orU64 := 167, addU64 := 168, loadU64 := 169, storeU64 := 170, casU64 := 172, tWg := 134, tUP := 184, tAssoc := 185, tAU := 131, tU64 := 129, tUint := 189, tU32 := 132, tNoCopy := 126, tANoCopy := 127, tAlign64 := 128, tWgP := 182, tPU32 := 190, tPAU := 234, tPU64 := 236 }
theorem Zmc : Go.Conc.Lib.WgLib Tryz.prog wgL :=
  ⟨Tryz.func87, Tryz.func89, Tryz.func92, Tryz.func131, Tryz.func132, Tryz.func133, Tryz.func134, Tryz.func135, Tryz.func136, Tryz.func137, Tryz.func138, Tryz.func139, Tryz.func140, Tryz.func141, Tryz.func142, Tryz.func143, Tryz.func145, Tryz.func146, Tryz.func147, Tryz.func148, Tryz.func149, Tryz.func167, Tryz.func168, Tryz.func169, Tryz.func170, Tryz.func172, Tryz.underlying182, Tryz.runUnderlying182, Tryz.sizeOf182, Tryz.isAgg182, Tryz.zeroValue182, Tryz.underlying184, Tryz.runUnderlying184, Tryz.sizeOf184, Tryz.isAgg184, Tryz.zeroValue184, Tryz.underlying185, Tryz.runUnderlying185, Tryz.sizeOf185, Tryz.isAgg185, Tryz.zeroValue185, Tryz.underlying134, Tryz.runUnderlying134, Tryz.sizeOf134, Tryz.isAgg134, Tryz.zeroValue134, Tryz.underlying131, Tryz.runUnderlying131, Tryz.sizeOf131, Tryz.isAgg131, Tryz.zeroValue131, Tryz.underlying129, Tryz.runUnderlying129, Tryz.sizeOf129, Tryz.isAgg129, Tryz.zeroValue129, Tryz.underlying189, Tryz.runUnderlying189, Tryz.sizeOf189, Tryz.isAgg189, Tryz.zeroValue189, Tryz.underlying132, Tryz.runUnderlying132, Tryz.sizeOf132, Tryz.isAgg132, Tryz.zeroValue132, Tryz.underlying190, Tryz.runUnderlying190, Tryz.sizeOf190, Tryz.isAgg190, Tryz.zeroValue190, Tryz.underlying234, Tryz.runUnderlying234, Tryz.sizeOf234, Tryz.isAgg234, Tryz.zeroValue234, Tryz.underlying236, Tryz.runUnderlying236, Tryz.sizeOf236, Tryz.isAgg236, Tryz.zeroValue236, Tryz.underlying0, Tryz.runUnderlying0, Tryz.sizeOf0, Tryz.isAgg0, Tryz.zeroValue0, Tryz.underlying3, Tryz.runUnderlying3, Tryz.sizeOf3, Tryz.isAgg3, Tryz.zeroValue3, Tryz.underlying4, Tryz.runUnderlying4, Tryz.sizeOf4, Tryz.isAgg4, Tryz.zeroValue4, Tryz.underlying9, Tryz.runUnderlying9, Tryz.sizeOf9, Tryz.isAgg9, Tryz.zeroValue9, Tryz.underlying20, Tryz.runUnderlying20, Tryz.sizeOf20, Tryz.isAgg20, Tryz.zeroValue20, Tryz.underlying21, Tryz.runUnderlying21, Tryz.sizeOf21, Tryz.isAgg21, Tryz.zeroValue21, (by kernel_rfl), (by kernel_rfl)⟩
theorem Zeo : enters Tryz.prog 108 = true := by kernel_rfl
theorem mo : Tryz.prog.follows .mixedOrders = true := by kernel_rfl
theorem Zci : ZS Tryz.prog 120 1 = some 1 := by kernel_rfl
theorem lk3 : lk Tryz.prog 3 = some none := by kernel_rfl
theorem ZgQ : ZS Tryz.prog 120 0 = some 0 := by kernel_rfl
theorem lk9 : lk Tryz.prog 9 = some none := by kernel_rfl
theorem Zv0 : enters Tryz.prog 84 = true := by kernel_rfl
theorem sz3 : Zae Tryz.prog 3 = some 1 := by kernel_rfl
theorem Zw8 : enters Tryz.prog 160 = true := by kernel_rfl
theorem Zuk : enters Tryz.prog 116 = true := by kernel_rfl
theorem Zxg : enters Tryz.prog 129 = true := by kernel_rfl
theorem Zu9 : Za8 Tryz.prog 120 = some [(0, 1), (1, 1)] := by kernel_rfl
theorem Zre : ZaF Tryz.prog 120 = some (.agg #[.string ⟨#[]⟩, .int .i64 0]) := by kernel_rfl
theorem Zu3 : Zae Tryz.prog 120 = some 2 := by kernel_rfl
theorem sz5 : Zae Tryz.prog 5 = some 1 := by kernel_rfl
theorem ZxH : Za8 Tryz.prog 97 = some [(0, 1), (1, 1)] := by kernel_rfl
theorem ZxF : ZaF Tryz.prog 97 = some (.agg #[.slice none 0 0, .int .i64 0]) := by kernel_rfl
theorem Zqp : ZS Tryz.prog 97 1 = some 1 := by kernel_rfl
theorem Zhj : ZS Tryz.prog 97 0 = some 0 := by kernel_rfl
theorem ZsV : lk Tryz.prog 22 = some none := by kernel_rfl
theorem lk5 : lk Tryz.prog 5 = some none := by kernel_rfl
theorem Za9 : enters Tryz.prog 52 = true := by kernel_rfl
theorem sz9 : Zae Tryz.prog 9 = some 1 := by kernel_rfl
theorem zo9 : ZaF Tryz.prog 9 = some (.string ⟨#[]⟩) := by kernel_rfl
theorem ZoP : enters Tryz.prog 69 = true := by kernel_rfl
theorem ZnO : ZcA Tryz.prog 39 9 1 16 = true := by kernel_rfl
theorem Znk : (match Program.underlying Tryz.prog 39 with | some (.slice _) => true | _ => false) = true := by kernel_rfl
theorem Zxv : enters Tryz.prog 107 = true := by kernel_rfl
theorem Zsh : enters Tryz.prog 75 = true := by kernel_rfl
theorem ZeK : Zae Tryz.prog 91 = some 3 := by kernel_rfl
theorem Zc0 : ZS Tryz.prog 91 0 = some 0 := by kernel_rfl
theorem ZvB : enters Tryz.prog 122 = true := by kernel_rfl
theorem Zhk : ZS Tryz.prog 41 0 = some 0 := by kernel_rfl
theorem Zgs : ZS Tryz.prog 41 1 = some 1 := by kernel_rfl
theorem ZfP : lk Tryz.prog 39 = some none := by kernel_rfl
theorem Zyp : enters Tryz.prog 76 = true := by kernel_rfl
theorem ZnL : ZS Tryz.prog 41 2 = some 2 := by kernel_rfl
theorem Zw7 : enters Tryz.prog 161 = true := by kernel_rfl
theorem Zuy : enters Tryz.prog 68 = true := by kernel_rfl
theorem Zxo : enters Tryz.prog 119 = true := by kernel_rfl
theorem Zyq : enters Tryz.prog 73 = true := by kernel_rfl
theorem ZcF : ZS Tryz.prog 27 0 = some 0 := by kernel_rfl
theorem Zap : ZS Tryz.prog 27 1 = some 1 := by kernel_rfl
theorem Zd7 : lk Tryz.prog 25 = some none := by kernel_rfl
theorem Zde : Zae Tryz.prog 88 = some 4 := by kernel_rfl
theorem ZhB : lk Tryz.prog 88 = some (some 4) := by kernel_rfl
theorem ZfD : ZaF Tryz.prog 88 = some (.agg #[.int .i64 0, .string ⟨#[]⟩, .string ⟨#[]⟩, .slice none 0 0]) := by kernel_rfl
theorem Zel : ZS Tryz.prog 88 0 = some 0 := by kernel_rfl
theorem ZjQ : ZS Tryz.prog 88 1 = some 1 := by kernel_rfl
theorem ZlI : ZS Tryz.prog 88 2 = some 2 := by kernel_rfl
theorem Zbo : ZS Tryz.prog 88 3 = some 3 := by kernel_rfl
theorem ZyF : enters Tryz.prog 45 = true := by kernel_rfl
theorem ZvW : Za8 Tryz.prog 41 = some [(0, 1), (1, 1), (2, 1)] := by kernel_rfl
theorem Zrd : ZaF Tryz.prog 41 = some (.agg #[.string ⟨#[]⟩, .slice none 0 0, .string ⟨#[]⟩]) := by kernel_rfl
theorem ZwK : enters Tryz.prog 35 = true := by kernel_rfl
theorem Zxq : enters Tryz.prog 117 = true := by kernel_rfl
theorem Zfr : ZaF Tryz.prog 27 = some (.agg #[.int .i64 0, .slice none 0 0]) := by kernel_rfl
theorem Zra : Za8 Tryz.prog 27 = some [(0, 1), (1, 1)] := by kernel_rfl
theorem Zdo : Zae Tryz.prog 27 = some 2 := by kernel_rfl
theorem Zuw : Zae Tryz.prog 39 = some 1 := by kernel_rfl
theorem Zt7 : ZcA Tryz.prog 25 88 4 64 = true := by kernel_rfl
theorem Ztm : (match Program.underlying Tryz.prog 25 with | some (.slice _) => true | _ => false) = true := by kernel_rfl
theorem Ztk : Zae Tryz.prog 25 = some 1 := by kernel_rfl
theorem Zb9 : lk Tryz.prog 27 = some (some 2) := by kernel_rfl
theorem ZwJ : enters Tryz.prog 62 = true := by kernel_rfl
theorem Zmb : lk Tryz.prog 41 = some (some 3) := by kernel_rfl
theorem ZjU : enters Tryz.prog 77 = true := by kernel_rfl
theorem ZxI : Za8 Tryz.prog 88 = some [(0, 1), (1, 1), (2, 1), (3, 1)] := by kernel_rfl
theorem ZwT : enters Tryz.prog 185 = true := by kernel_rfl
theorem Zvw : enters Tryz.prog 177 = true := by kernel_rfl
theorem Zys : enters Tryz.prog 70 = true := by kernel_rfl
theorem Zvt : enters Tryz.prog 71 = true := by kernel_rfl
theorem Zuv : Zae Tryz.prog 41 = some 3 := by kernel_rfl
theorem Zuz : enters Tryz.prog 56 = true := by kernel_rfl
theorem ZwM : enters Tryz.prog 30 = true := by kernel_rfl
theorem Zv2 : enters Tryz.prog 39 = true := by kernel_rfl
theorem ZvA : enters Tryz.prog 155 = true := by kernel_rfl
theorem zo3 : ZaF Tryz.prog 3 = some (.int .i64 0) := by kernel_rfl
theorem Zwd : ZaF Tryz.prog 117 = some (.pointer none) := by kernel_rfl
theorem Zxh : enters Tryz.prog 128 = true := by kernel_rfl
theorem Zw3 : enters Tryz.prog 165 = true := by kernel_rfl
theorem ZtE : lk Tryz.prog 117 = some none := by kernel_rfl
theorem ZxQ : enters Tryz.prog 44 = true := by kernel_rfl
theorem Zwy : Za8 Tryz.prog 176 = some [(0, 4), (4, 1)] := by kernel_rfl
theorem Zwa : ZaF Tryz.prog 176 = some (.agg #[.int .i64 0, .string ⟨#[]⟩, .string ⟨#[]⟩, .slice none 0 0, .pointer none]) := by kernel_rfl
theorem Zwt : Zae Tryz.prog 117 = some 1 := by kernel_rfl
theorem ZtW : ZS Tryz.prog 176 0 = some 0 := by kernel_rfl
theorem ZtV : ZS Tryz.prog 176 1 = some 4 := by kernel_rfl
theorem Zyk : enters Tryz.prog 82 = true := by kernel_rfl
theorem Zyl : enters Tryz.prog 81 = true := by kernel_rfl
theorem Zfs : lk Tryz.prog 172 = some none := by kernel_rfl
theorem ZwH : ZcA Tryz.prog 172 3 1 8 = true := by kernel_rfl
theorem Zwu : (match Program.underlying Tryz.prog 172 with | some (.slice _) => true | _ => false) = true := by kernel_rfl
theorem Zu1 : Zae Tryz.prog 172 = some 1 := by kernel_rfl
theorem Zef : Zkj Tryz.prog 170 "Less" 214 false = true := by kernel_rfl
theorem ZqE : enters Tryz.prog 214 = true := by kernel_rfl
theorem Zee : Zkj Tryz.prog 170 "Swap" 217 false = true := by kernel_rfl
theorem ZqD : enters Tryz.prog 217 = true := by kernel_rfl
theorem Zoo : Zkj Tryz.prog 170 "Push" 216 true = true := by kernel_rfl
theorem ZwN : enters Tryz.prog 216 = true := by kernel_rfl
theorem Zlk : Zkj Tryz.prog 170 "Len" 213 false = true := by kernel_rfl
theorem Zvv : enters Tryz.prog 213 = true := by kernel_rfl
theorem Zw5 : enters Tryz.prog 163 = true := by kernel_rfl
theorem Zw4 : enters Tryz.prog 164 = true := by kernel_rfl
theorem ZpW : Zkj Tryz.prog 170 "Pop" 215 true = true := by kernel_rfl
theorem ZwO : enters Tryz.prog 215 = true := by kernel_rfl
theorem Zxj : enters Tryz.prog 126 = true := by kernel_rfl
theorem Zxi : enters Tryz.prog 127 = true := by kernel_rfl
theorem ZwL : enters Tryz.prog 32 = true := by kernel_rfl
theorem Zym : enters Tryz.prog 80 = true := by kernel_rfl
theorem ZxS : enters Tryz.prog 42 = true := by kernel_rfl
theorem ZxR : enters Tryz.prog 43 = true := by kernel_rfl
theorem Ze8 : ZS Tryz.prog 196 0 = some 0 := by kernel_rfl
theorem ZfT : ZS Tryz.prog 196 1 = some 1 := by kernel_rfl
theorem ZqF : enters Tryz.prog 175 = true := by kernel_rfl
theorem ZiL : ZS Tryz.prog 196 2 = some 2 := by kernel_rfl
theorem Zw2 : enters Tryz.prog 171 = true := by kernel_rfl
theorem ZaR : ZS Tryz.prog 68 1 = some 1 := by kernel_rfl
theorem Zfv : lk Tryz.prog 66 = some none := by kernel_rfl
theorem ZcJ : Zae Tryz.prog 196 = some 3 := by kernel_rfl
theorem Zln : lk Tryz.prog 196 = some (some 3) := by kernel_rfl
theorem Zw9 : enters Tryz.prog 158 = true := by kernel_rfl
theorem Zco : ZS Tryz.prog 68 0 = some 0 := by kernel_rfl
theorem ZgB : ZaF Tryz.prog 196 = some (.agg #[.int .i64 0, .int .i64 0, .string ⟨#[]⟩]) := by kernel_rfl
theorem Zxd : enters Tryz.prog 144 = true := by kernel_rfl
theorem ZbP : lk Tryz.prog 68 = some (some 2) := by kernel_rfl
theorem ZxJ : enters Tryz.prog 91 = true := by kernel_rfl
theorem Zqq : ZS Tryz.prog 91 1 = some 1 := by kernel_rfl
theorem ZiJ : ZS Tryz.prog 91 2 = some 2 := by kernel_rfl
theorem ZnD : lk Tryz.prog 91 = some (some 3) := by kernel_rfl
theorem ZgA : ZaF Tryz.prog 91 = some (.agg #[.string ⟨#[]⟩, .string ⟨#[]⟩, .int .i64 0]) := by kernel_rfl
theorem Zyi : enters Tryz.prog 85 = true := by kernel_rfl
theorem ZxP : enters Tryz.prog 47 = true := by kernel_rfl
theorem ZrB : Za8 Tryz.prog 91 = some [(0, 1), (1, 1), (2, 1)] := by kernel_rfl
theorem Zxn : enters Tryz.prog 120 = true := by kernel_rfl
theorem Zxm : enters Tryz.prog 121 = true := by kernel_rfl
theorem ZbD : ZS Tryz.prog 29 1 = some 1 := by kernel_rfl
theorem ZhC : lk Tryz.prog 23 = some none := by kernel_rfl
theorem ZxL : enters Tryz.prog 74 = true := by kernel_rfl
theorem Z9 : ZS Tryz.prog 29 2 = some 2 := by kernel_rfl
theorem ZcN : lk Tryz.prog 24 = some none := by kernel_rfl
theorem Zbw : Zae Tryz.prog 70 = some 5 := by kernel_rfl
theorem Zc7 : ZS Tryz.prog 70 0 = some 0 := by kernel_rfl
theorem Zfw : ZS Tryz.prog 70 1 = some 1 := by kernel_rfl
theorem Zja : lk Tryz.prog 70 = some (some 5) := by kernel_rfl
theorem Zxy : enters Tryz.prog 103 = true := by kernel_rfl
theorem Zxx : enters Tryz.prog 104 = true := by kernel_rfl
theorem Zbg : ZS Tryz.prog 29 3 = some 3 := by kernel_rfl
theorem Zv3 : enters Tryz.prog 34 = true := by kernel_rfl
theorem ZbH : Zae Tryz.prog 162 = some 2 := by kernel_rfl
theorem ZcP : ZS Tryz.prog 162 0 = some 0 := by kernel_rfl
theorem ZgP : ZS Tryz.prog 162 1 = some 1 := by kernel_rfl
theorem ZsY : enters Tryz.prog 37 = true := by kernel_rfl
theorem Zb2 : ZS Tryz.prog 70 3 = some 3 := by kernel_rfl
theorem Zxu : enters Tryz.prog 112 = true := by kernel_rfl
theorem Zd6 : ZaF Tryz.prog 70 = some (.agg #[.string ⟨#[]⟩, .string ⟨#[]⟩, .slice none 0 0, .int .i64 0, .slice none 0 0]) := by kernel_rfl
theorem ZdV : ZS Tryz.prog 70 2 = some 2 := by kernel_rfl
theorem ZrM : lk Tryz.prog 65 = some none := by kernel_rfl
theorem Zsl : enters Tryz.prog 109 = true := by kernel_rfl
theorem Zsk : enters Tryz.prog 110 = true := by kernel_rfl
theorem ZvC : enters Tryz.prog 111 = true := by kernel_rfl
theorem ZiK : ZS Tryz.prog 29 0 = some 0 := by kernel_rfl
theorem Zyx : enters Tryz.prog 60 = true := by kernel_rfl
theorem Zyw : enters Tryz.prog 61 = true := by kernel_rfl
theorem Z1 : lk Tryz.prog 29 = some (some 5) := by kernel_rfl
theorem Zyv : enters Tryz.prog 63 = true := by kernel_rfl
theorem Zua : enters Tryz.prog 27 = true := by kernel_rfl
theorem ZxN : enters Tryz.prog 64 = true := by kernel_rfl
theorem ZxT : enters Tryz.prog 38 = true := by kernel_rfl
theorem Zop : lk Tryz.prog 162 = some (some 2) := by kernel_rfl
theorem ZdI : ZaF Tryz.prog 162 = some (.agg #[.string ⟨#[]⟩, .int .i64 0]) := by kernel_rfl
theorem Zxr : enters Tryz.prog 115 = true := by kernel_rfl
theorem Zyt : enters Tryz.prog 67 = true := by kernel_rfl
theorem Zvl : Extern.findNext Tryz.f166 = none := by kernel_rfl
theorem Zvm : Extern.find Tryz.f166 = some Extern.BytealgCompare.compare := by kernel_rfl
theorem Zxe : enters Tryz.prog 130 = true := by kernel_rfl
theorem ZxK : enters Tryz.prog 86 = true := by kernel_rfl
theorem Zw1 : enters Tryz.prog 173 = true := by kernel_rfl
theorem Zxb : enters Tryz.prog 151 = true := by kernel_rfl
theorem Zyy : enters Tryz.prog 57 = true := by kernel_rfl
theorem Zyd : enters Tryz.prog 94 = true := by kernel_rfl
theorem sz4 : Zae Tryz.prog 4 = some 1 := by kernel_rfl
theorem lk4 : lk Tryz.prog 4 = some none := by kernel_rfl
theorem Zxc : enters Tryz.prog 150 = true := by kernel_rfl
theorem Zyj : enters Tryz.prog 83 = true := by kernel_rfl
theorem Zvc : lk Tryz.prog 124 = some none := by kernel_rfl
theorem ZwC : lk Tryz.prog 77 = some none := by kernel_rfl
theorem Zyg : enters Tryz.prog 90 = true := by kernel_rfl
theorem Zwb : ZaF Tryz.prog 134 = some (.agg #[.int .u64 0, .int .u32 0]) := by kernel_rfl
theorem ZwI : ZcA Tryz.prog 124 4 1 1 = true := by kernel_rfl
theorem zo4 : ZaF Tryz.prog 4 = some (.bool false) := by kernel_rfl
theorem Zwc : ZaF Tryz.prog 124 = some (.slice none 0 0) := by kernel_rfl
theorem Zws : Zae Tryz.prog 124 = some 1 := by kernel_rfl
theorem Zyh : enters Tryz.prog 87 = true := by kernel_rfl
theorem Zyf : enters Tryz.prog 92 = true := by kernel_rfl
theorem Zye : enters Tryz.prog 93 = true := by kernel_rfl
theorem ZyE : enters Tryz.prog 46 = true := by kernel_rfl
theorem ZyD : enters Tryz.prog 48 = true := by kernel_rfl
theorem ZyC : enters Tryz.prog 49 = true := by kernel_rfl
theorem ZyB : enters Tryz.prog 50 = true := by kernel_rfl
theorem ZyA : enters Tryz.prog 51 = true := by kernel_rfl
theorem Zvj : Zhm Tryz.prog 91 [(0, 9), (1, 9), (2, 3)] = true := by kernel_rfl
theorem ZtY : Zhm Tryz.prog 162 [(0, 9), (1, 3)] = true := by kernel_rfl
theorem ZtX : Zhm Tryz.prog 196 [(0, 3), (1, 3), (2, 9)] = true := by kernel_rfl
theorem Zw6 : enters Tryz.prog 162 = true := by kernel_rfl
theorem Zxl : enters Tryz.prog 124 = true := by kernel_rfl
theorem Zxk : enters Tryz.prog 125 = true := by kernel_rfl
theorem Zyn : enters Tryz.prog 79 = true := by kernel_rfl
theorem ZyH : enters Tryz.prog 40 = true := by kernel_rfl
theorem ZyG : enters Tryz.prog 41 = true := by kernel_rfl
theorem ZxV : enters Tryz.prog 17 = true := by kernel_rfl
theorem ZnP : ZcA Tryz.prog 23 91 3 40 = true := by kernel_rfl
theorem Znl : (match Program.underlying Tryz.prog 23 with | some (.slice _) => true | _ => false) = true := by kernel_rfl
theorem Zfg : ZaF Tryz.prog 68 = some (.agg #[.int .i64 0, .slice none 0 0]) := by kernel_rfl
theorem ZvZ : ZcA Tryz.prog 66 196 3 32 = true := by kernel_rfl
theorem ZvU : (match Program.underlying Tryz.prog 66 with | some (.slice _) => true | _ => false) = true := by kernel_rfl
theorem Znw : Za8 Tryz.prog 68 = some [(0, 1), (1, 1)] := by kernel_rfl
theorem ZcI : Zae Tryz.prog 68 = some 2 := by kernel_rfl
theorem ZqC : ZcA Tryz.prog 65 162 2 24 = true := by kernel_rfl
theorem Zpw : (match Program.underlying Tryz.prog 65 with | some (.slice _) => true | _ => false) = true := by kernel_rfl
theorem ZuZ : Zae Tryz.prog 65 = some 1 := by kernel_rfl
theorem Zxs : enters Tryz.prog 114 = true := by kernel_rfl
theorem ZxU : enters Tryz.prog 18 = true := by kernel_rfl
theorem Zwv : Za8 Tryz.prog 70 = some [(0, 1), (1, 1), (2, 1), (3, 2)] := by kernel_rfl
theorem Zyu : enters Tryz.prog 66 = true := by kernel_rfl
theorem ZaW : ZaF Tryz.prog 29 = some (.agg #[.string ⟨#[]⟩, .slice none 0 0, .slice none 0 0, .int .i64 0, .slice none 0 0]) := by kernel_rfl
theorem ZdS : Za8 Tryz.prog 29 = some [(0, 1), (1, 1), (2, 1), (3, 2)] := by kernel_rfl
theorem Zav : Zae Tryz.prog 29 = some 5 := by kernel_rfl
theorem ZiR : ZcA Tryz.prog 24 70 5 88 = true := by kernel_rfl
theorem Zi9 : (match Program.underlying Tryz.prog 24 with | some (.slice _) => true | _ => false) = true := by kernel_rfl
theorem Zq9 : Zae Tryz.prog 24 = some 1 := by kernel_rfl
theorem Zrc : enters Tryz.prog 25 = true := by kernel_rfl
theorem Zug : enters Tryz.prog 159 = true := by kernel_rfl
theorem Zxt : enters Tryz.prog 113 = true := by kernel_rfl
theorem ZxM : enters Tryz.prog 65 = true := by kernel_rfl
theorem Zwr : Zae Tryz.prog 66 = some 1 := by kernel_rfl
theorem Zuj : enters Tryz.prog 123 = true := by kernel_rfl
theorem Zyo : enters Tryz.prog 78 = true := by kernel_rfl
theorem Zwx : Za8 Tryz.prog 196 = some [(0, 1), (1, 1), (2, 1)] := by kernel_rfl
theorem ZnQ : enters Tryz.prog 36 = true := by kernel_rfl
theorem Zvx : enters Tryz.prog 176 = true := by kernel_rfl
theorem Zvu : enters Tryz.prog 26 = true := by kernel_rfl
theorem Zsi : enters Tryz.prog 186 = true := by kernel_rfl
theorem Zvy : enters Tryz.prog 174 = true := by kernel_rfl
theorem Zts : Za8 Tryz.prog 162 = some [(0, 1), (1, 1)] := by kernel_rfl
theorem Zuh : enters Tryz.prog 152 = true := by kernel_rfl
theorem Zub : enters Tryz.prog 194 = true := by kernel_rfl
theorem ZwS : enters Tryz.prog 191 = true := by kernel_rfl
theorem ZwR : enters Tryz.prog 192 = true := by kernel_rfl
theorem Zvs : ZcA Tryz.prog 171 3 1 8 = true := by kernel_rfl
theorem Zu6 : (match Program.underlying Tryz.prog 171 with | some (.slice _) => true | _ => false) = true := by kernel_rfl
theorem Zpt : Zae Tryz.prog 241 = some 2 := by kernel_rfl
theorem Zqt : ZS Tryz.prog 241 0 = some 0 := by kernel_rfl
theorem Zqs : ZS Tryz.prog 241 1 = some 1 := by kernel_rfl
theorem Zuf : enters Tryz.prog 187 = true := by kernel_rfl
theorem ZwP : enters Tryz.prog 195 = true := by kernel_rfl
theorem Zvi : ZS Tryz.prog 31 1 = some 1 := by kernel_rfl
theorem Zvh : ZS Tryz.prog 31 2 = some 2 := by kernel_rfl
theorem Zqr : ZS Tryz.prog 31 0 = some 0 := by kernel_rfl
theorem ZwQ : enters Tryz.prog 193 = true := by kernel_rfl
theorem Zux : lk Tryz.prog 31 = some (some 3) := by kernel_rfl
theorem Zue : enters Tryz.prog 188 = true := by kernel_rfl
theorem Zuc : enters Tryz.prog 190 = true := by kernel_rfl
theorem Zud : enters Tryz.prog 189 = true := by kernel_rfl
theorem ZkC : enters Tryz.prog 154 = true := by kernel_rfl
theorem ZfU : ZS Tryz.prog 148 1 = some 1 := by kernel_rfl
theorem Zkz : ZS Tryz.prog 148 2 = some 2 := by kernel_rfl
theorem ZiM : ZS Tryz.prog 148 3 = some 3 := by kernel_rfl
theorem Zx3 : Za8 Tryz.prog 31 = some [(0, 1), (1, 1), (2, 1)] := by kernel_rfl
theorem ZxG : ZaF Tryz.prog 31 = some (.agg #[.string ⟨#[]⟩, .string ⟨#[]⟩, .string ⟨#[]⟩]) := by kernel_rfl
theorem Zx0 : Zae Tryz.prog 31 = some 3 := by kernel_rfl
theorem Zbv : ZS Tryz.prog 148 6 = some 6 := by kernel_rfl
theorem Zww : Za8 Tryz.prog 241 = some [(0, 1), (1, 1)] := by kernel_rfl
theorem ZuB : ZaF Tryz.prog 241 = some (.agg #[.int .i64 0, .int .i64 0]) := by kernel_rfl
theorem Zb5 : ZS Tryz.prog 148 0 = some 0 := by kernel_rfl
theorem Zw0 : enters Tryz.prog 178 = true := by kernel_rfl
theorem Zd3 : ZS Tryz.prog 148 4 = some 4 := by kernel_rfl
theorem ZwZ : enters Tryz.prog 179 = true := by kernel_rfl
theorem Zqu : ZS Tryz.prog 148 5 = some 5 := by kernel_rfl
theorem ZwY : enters Tryz.prog 180 = true := by kernel_rfl
theorem Zxf : enters Tryz.prog 13 = true := by kernel_rfl
theorem ZwX : enters Tryz.prog 181 = true := by kernel_rfl
theorem ZmT : ZS Tryz.prog 148 7 = some 7 := by kernel_rfl
theorem ZwW : enters Tryz.prog 182 = true := by kernel_rfl
theorem ZwV : enters Tryz.prog 183 = true := by kernel_rfl
theorem ZwU : enters Tryz.prog 184 = true := by kernel_rfl
theorem ZtD : lk Tryz.prog 148 = some (some 8) := by kernel_rfl
theorem Zxa : enters Tryz.prog 156 = true := by kernel_rfl
theorem Zs5 : ZaF Tryz.prog 148 = some (.agg #[.int .i64 0, .string ⟨#[]⟩, .string ⟨#[]⟩, .string ⟨#[]⟩, .string ⟨#[]⟩, .string ⟨#[]⟩, .int .i64 0, .int .i64 0]) := by kernel_rfl
theorem Zwz : Za8 Tryz.prog 148 = some [(0, 1), (1, 1), (2, 1), (3, 1), (4, 1), (5, 1), (6, 1), (7, 1)] := by kernel_rfl
theorem Zu2 : Zae Tryz.prog 148 = some 8 := by kernel_rfl
theorem Zvz : enters Tryz.prog 157 = true := by kernel_rfl
theorem Zsj : enters Tryz.prog 153 = true := by kernel_rfl
theorem ZxB : enters Tryz.prog 100 = true := by kernel_rfl
theorem Zxz : enters Tryz.prog 102 = true := by kernel_rfl
theorem ZxA : enters Tryz.prog 101 = true := by kernel_rfl
theorem ZxO : enters Tryz.prog 54 = true := by kernel_rfl
theorem Zyc : enters Tryz.prog 95 = true := by kernel_rfl
theorem Zyb : enters Tryz.prog 96 = true := by kernel_rfl
theorem Zx1 : Zae Tryz.prog 23 = some 1 := by kernel_rfl
theorem Zya : enters Tryz.prog 97 = true := by kernel_rfl
theorem Zx9 : enters Tryz.prog 98 = true := by kernel_rfl
theorem Zx8 : enters Tryz.prog 99 = true := by kernel_rfl
theorem Zyz : enters Tryz.prog 53 = true := by kernel_rfl
theorem ZxZ : (Tryz.prog.info? 262).map (·.comparable) = some true := by kernel_rfl
theorem Zu0 : Zae Tryz.prog 287 = some 1 := by kernel_rfl
theorem Zv9 : ZaF Tryz.prog 215 = some (.nilIface) := by kernel_rfl
theorem Zv8 : ZaF Tryz.prog 218 = some (.nilIface) := by kernel_rfl
theorem Zv7 : ZaF Tryz.prog 220 = some (.nilIface) := by kernel_rfl
theorem Zxw : enters Tryz.prog 106 = true := by kernel_rfl
theorem ZsU : lk Tryz.prog 59 = some none := by kernel_rfl
theorem Zv1 : enters Tryz.prog 59 = true := by kernel_rfl
theorem ZyK : enters Tryz.prog 24 = true := by kernel_rfl
theorem ZyM : enters Tryz.prog 19 = true := by kernel_rfl
theorem ZyL : enters Tryz.prog 20 = true := by kernel_rfl
theorem Zxp : enters Tryz.prog 118 = true := by kernel_rfl
theorem Zyr : enters Tryz.prog 72 = true := by kernel_rfl
theorem Zv4 : enters Tryz.prog 15 = true := by kernel_rfl
theorem ZyI : enters Tryz.prog 33 = true := by kernel_rfl
theorem ZyJ : enters Tryz.prog 31 = true := by kernel_rfl
theorem ZxY : enters Tryz.prog 11 = true := by kernel_rfl
theorem ZxX : enters Tryz.prog 12 = true := by kernel_rfl
theorem Zui : enters Tryz.prog 14 = true := by kernel_rfl
theorem ZxW : enters Tryz.prog 16 = true := by kernel_rfl
set_option maxRecDepth 4000
variable {J : JoinT}
abbrev cur (b : Nat) (l : List UInt8) (i : Nat) : Cells := ZaE b [str l, .int .i64 i] 120
set_option maxHeartbeats 400000 in
theorem Zcl (n lo hi:Int) (B:Kn):ZaL (pj J) 108 [.int .i64 n,.int .i64 lo,.int .i64 hi] B (.bool (decide (lo≤n) && decide (n≤hi))):=by
 refine Zc 15 Tryz.func108 rfl rfl rfl (Nat.le_of_ble_eq_true rfl) ?_
 refine Za (xA (h:=Z3 [(0,_),(1,_),(2,_),(6,_)] t4 (Za (xM (h:=xM (h:=Zd8 (h:=xM (h:=Zt (d:=10) rfl (fun g1=>?_) (fun g1=>?_)))))))))
 try simp only [sQ,ne_eq] at g1
 refine xM (h:=xM (h:=ZcG (h:=xT (h:=xA (h:=Z3 [(0,_),(1,_),(2,_),(6,_)] t4 (Zh ?_))))))
 exact ZY .ret (.inl rfl) [_] t1 ⟨by exact Zk (by rw [Bool.eq_iff_iff];simp [];omega),rfl,rfl⟩
 try simp only [sQ,ne_eq] at g1
 refine xP (h:=xP (h:=xP (h:=xF (h:=xA (h:=Z3 [(0,_),(1,_),(2,_),(6,_)] t4 (Zh ?_))))))
 exact ZY .ret (.inl rfl) [_] t1 ⟨by exact Zk (by rw [Bool.eq_iff_iff];simp [];omega),rfl,rfl⟩

set_option maxHeartbeats 400000 in
theorem Zon (c:UInt8) (B:Kn):ZaL (pj J) 160 [.int .u8 c.toNat] B (.bool (ZbI c)):=by
 refine Zc 17 Tryz.func160 rfl rfl rfl (Nat.le_of_ble_eq_true rfl) ?_
 refine Za (xA (h:=Z3 [(0,_),(2,_)] t2 (Za (xM (h:=Zd8 (h:=xM (h:=Zt (d:=5) rfl (fun g1=>?_) (fun g1=>?_))))))))
 try simp only [sQ,ne_eq] at g1
 refine xM (h:=ZcG (h:=xT (h:=xM (h:=Zt (d:=9) rfl (fun g2=>?_) (fun g2=>?_)))))
 try simp only [sQ,ne_eq] at g2
 refine xP (h:=xP (h:=xP (h:=xP (h:=xP (h:=xP (h:=xT (h:=xA (h:=Z3 [(0,_),(2,_)] t2 (Zh ?_)))))))))
 exact ZY .ret (.inl rfl) [_] t1 ⟨by exact Zk (by rw [Bool.eq_iff_iff];simp [ZbI];omega),rfl,rfl⟩
 try simp only [sQ,ne_eq] at g2
 refine xM (h:=Zd8 (h:=xM (h:=Zt (d:=12) rfl (fun g3=>?_) (fun g3=>?_))))
 try simp only [sQ,ne_eq] at g3
 refine xM (h:=ZcG (h:=xT (h:=xF (h:=xA (h:=Z3 [(0,_),(2,_)] t2 (Zh ?_))))))
 exact ZY .ret (.inl rfl) [_] t1 ⟨by exact Zk (by rw [Bool.eq_iff_iff];simp [ZbI];omega),rfl,rfl⟩
 try simp only [sQ,ne_eq] at g3
 refine xP (h:=xP (h:=xF (h:=xF (h:=xA (h:=Z3 [(0,_),(2,_)] t2 (Zh ?_))))))
 exact ZY .ret (.inl rfl) [_] t1 ⟨by exact Zk (by rw [Bool.eq_iff_iff];simp [ZbI];omega),rfl,rfl⟩
 try simp only [sQ,ne_eq] at g1
 refine xP (h:=xP (h:=xF (h:=xM (h:=xM (h:=Zd8 (h:=xM (h:=Zt (d:=12) rfl (fun g4=>?_) (fun g4=>?_))))))))
 try simp only [sQ,ne_eq] at g4
 refine xM (h:=ZcG (h:=xT (h:=xF (h:=xA (h:=Z3 [(0,_),(2,_)] t2 (Zh ?_))))))
 exact ZY .ret (.inl rfl) [_] t1 ⟨by exact Zk (by rw [Bool.eq_iff_iff];simp [ZbI];omega),rfl,rfl⟩
 try simp only [sQ,ne_eq] at g4
 refine xP (h:=xP (h:=xF (h:=xF (h:=xA (h:=Z3 [(0,_),(2,_)] t2 (Zh ?_))))))
 exact ZY .ret (.inl rfl) [_] t1 ⟨by exact Zk (by rw [Bool.eq_iff_iff];simp [ZbI];omega),rfl,rfl⟩

set_option maxHeartbeats 400000 in
theorem ZbW (l:List UInt8) (hl:l.length≤2000000) (B:Kn):ZaL (pj J) 75 [str l] B (.bool (ZaA l)):=by
 refine Zc 37 Tryz.func75 rfl rfl rfl (Nat.le_of_ble_eq_true rfl) ?_
 refine Za (xA (h:=Z3 [(0,_),(2,_)] t2 (Zl (Za (xA (h:=Z3 [(0,_),(2,_),(3,_)] t3 (Zp (ZkP (α:=Nat) (fun k=>[(0,str l),(3,.int .i64 k)]) (fun k=>[]) (fun k Bx=>Bx=B∧k≤l.length∧(l.take k).all ZbI=true) (fun k=>l.length - k) 0 t2 rfl (⟨rfl,Nat.zero_le _,by simp⟩) (fun k B1 hle1 hI=>?_)))))))))
 obtain ⟨rfl,hk,ha⟩:=hI
 refine Zl (Za (xM (h:=xM (h:=xVs Tryz.underlying9 (h:=Zag (h:=Z3 [(0,_),(3,_),(7,_)] t3 (Zd rfl (fun g1=>?_) (fun g1=>?_))))))))
 try simp only [sQ,ne_eq] at g1
 obtain ⟨c,hc⟩ :∃c,l[k]? = some c:=⟨_,List.getElem?_eq_getElem oz⟩
 refine Zj (Zf (Zl (Zp (Zjm 33 (!(ZbI c)) [0,3,7] ?_ ?_))))
 refine xM (h:=xM (h:=Zo (Zeu rfl rfl Tryz.underlying9 rfl rfl oz (by simpa using hc) ?_)))
 refine Zd8 (h:=xM (h:=Zt (d:=14) rfl (fun g1=>?_) (fun g1=>?_)))
 try simp only [sQ,ne_eq] at g1
 refine xM (h:=xM (h:=Zo (Zeu rfl rfl Tryz.underlying9 rfl rfl oz (by simpa using hc) ?_)))
 refine ZcG (h:=xT (h:=xN (h:=xM (h:=Zt (d:=21) rfl (fun g2=>?_) (fun g2=>?_)))))
 try simp only [sQ,ne_eq] at g2
 refine xM (h:=xM (h:=Zo (Zeu rfl rfl Tryz.underlying9 rfl rfl oz (by simpa using hc) ?_)))
 refine Zd8 (h:=xM (h:=Zt (d:=26) rfl (fun g3=>?_) (fun g3=>?_)))
 try simp only [sQ,ne_eq] at g3
 refine xM (h:=xM (h:=Zo (Zeu rfl rfl Tryz.underlying9 rfl rfl oz (by simpa using hc) ?_)))
 refine ZcG (h:=xT (h:=xN (h:=xT (h:=?_))))
 exact ⟨rfl,rfl,rfl,Zda rfl (by rw [Bool.eq_iff_iff];simp [ZbI,];omega),t3⟩
 try simp only [sQ,ne_eq] at g3
 refine xP (h:=xP (h:=xP (h:=xP (h:=xF (h:=xN (h:=xT (h:=?_)))))))
 exact ⟨rfl,rfl,rfl,Zda rfl (by rw [Bool.eq_iff_iff];simp [ZbI,];omega),t3⟩
 try simp only [sQ,ne_eq] at g2
 refine xP (h:=xP (h:=xP (h:=xP (h:=xP (h:=xP (h:=xP (h:=xP (h:=xP (h:=xP (h:=xP (h:=xF (h:=?_))))))))))))
 exact ⟨rfl,rfl,rfl,Zda rfl (by rw [Bool.eq_iff_iff];simp [ZbI,];omega),t3⟩
 try simp only [sQ,ne_eq] at g1
 refine xP (h:=xP (h:=xP (h:=xP (h:=xF (h:=xN (h:=xM (h:=xM (h:=xM (h:=Zo (Zeu rfl rfl Tryz.underlying9 rfl rfl oz (by simpa using hc) ?_))))))))))
 refine Zd8 (h:=xM (h:=Zt (d:=26) rfl (fun g4=>?_) (fun g4=>?_)))
 try simp only [sQ,ne_eq] at g4
 refine xM (h:=xM (h:=Zo (Zeu rfl rfl Tryz.underlying9 rfl rfl oz (by simpa using hc) ?_)))
 refine ZcG (h:=xT (h:=xN (h:=xT (h:=?_))))
 exact ⟨rfl,rfl,rfl,Zda rfl (by rw [Bool.eq_iff_iff];simp [ZbI,];omega),t3⟩
 try simp only [sQ,ne_eq] at g4
 refine xP (h:=xP (h:=xP (h:=xP (h:=xF (h:=xN (h:=xT (h:=?_)))))))
 exact ⟨rfl,rfl,rfl,Zda rfl (by rw [Bool.eq_iff_iff];simp [ZbI,];omega),t3⟩
 refine Z3 [(0,_),(3,_),(7,_),(33,_)] t4 (Zd rfl (fun g9=>?_) (fun g9=>?_))
 try simp only [sQ,ne_eq] at g9
 refine Za (xA (h:=Z3 [(0,_),(2,_),(3,_),(7,_),(33,_)] t5 (Zh (ZE (Zs (Ztp (ZE (Zs ?_))))))))
 exact ZY .ret (.inl rfl) [_] t1 ⟨Zk (by simp [ZaA,Zsw hc g9]),rfl,rfl⟩
 try simp only [sQ,ne_eq] at g9
 refine Zj (Zz (Zf (Ze (xM (h:=Zo (ZeR rfl rfl rfl rfl (by first | exact ZaX oz oz | rfl) ?_))))))
 refine xA (h:=?_)
 exact Zob (k+1) oz ⟨rfl,oz,ZnV hc g9 ha⟩ t2 rfl
 try simp only [sQ,ne_eq] at g1
 refine ZT (Zah (Zoa (ZH (Zf (Za (xM (h:=xVs Tryz.underlying9 (h:=xR Zeo rfl (Zcl _ _ _ _) (h:=xA (h:=Z3 [(0,_),(2,_),(3,_),(7,_)] t4 (Zh ?_)))))))))))
 exact ZY .ret (.inl rfl) [_] t1 ⟨Zk (by (obtain rfl:k=l.length:=oz);rw [List.take_length] at ha;rw [Bool.eq_iff_iff];simp [ZaA,ha];omega),rfl,rfl⟩

set_option maxHeartbeats 400000 in
theorem ZnR (b:Nat) (l:List UInt8) (i:Nat) (hi:i≤l.length) (hl:l.length≤2000000) (B:Kn):Zs3 (pj J) 84 [ptr ⟨b,0,none⟩] B (cur b l i) (.bool (decide (i=l.length))) (cur b l i):=by
 refine Zc 13 Tryz.func84 rfl rfl rfl (Nat.le_of_ble_eq_true rfl) ?_
 refine Za (xA (h:=Z3 [(0,_),(2,_)] t2 (Zl (Z8 (same _ _) mo kr ⟨rfl,rfl⟩ (fun _ _=>?_)))))
 refine aM 0 rfl (h:=aNc 1 rfl (h:=aW 2 rfl Zci (h:=aT 3 rfl (Zan fun D=>Zn rfl rfl lk3 rfl (atL 0 rfl rfl rfl) r4) (h:=aM 4 rfl (h:=aNc 5 rfl (h:=aW 6 rfl ZgQ (h:=aT 7 rfl (Zan fun D=>Zn rfl rfl lk9 rfl (atL 0 rfl rfl rfl) r4) (h:=aT 8 rfl (Zan fun D=>Zpe rfl rfl Tryz.underlying9 rfl r4) (h:=Zq1 9 rfl (h:=aA 10 rfl (h:=ZC kr kr ?_)))))))))))
 refine Zf (Z3 [(0,_),(2,_)] t2 (Zh ?_))
 exact ZiT .ret (.inl rfl) [_] 0 rfl t1 ⟨Zk (by rw [Bool.eq_iff_iff];simp;omega),rfl,rfl⟩

set_option maxHeartbeats 400000 in
theorem ZuW (b:Nat) (l:List UInt8) (i:Nat) (hi:i≤l.length) (hl:l.length≤2000000) (x:UInt8) (B:Kn):Zs3 (pj J) 129 [ptr ⟨b,0,none⟩,.int .u8 x.toNat] B (cur b l i) (.bool (decide (l[i]? = some x))) (cur b l (if l[i]? = some x then i+1 else i)):=by
 refine Zc 27 Tryz.func129 rfl rfl rfl (Nat.le_of_ble_eq_true rfl) ?_
 refine Za (xA (h:=Z3 [(0,_),(1,_),(4,_)] t3 (Zl (ZhP 19 (decide (l[i]?≠some x)) [0,1,4] (same _ _) mo kr ⟨rfl,rfl⟩ (fun _ _=>?_) ?_))))
 refine aM 0 rfl (h:=aT 1 rfl (Zan fun D=>ZhQ 0 rfl rfl rfl Zv0 rfl (ZnR _ _ _ oz oz _) r4) (h:=?_))
 refine aM 2 rfl (h:=ZaI (d:=7) rfl (fun g1=>?_) (fun g1=>?_))
 try simp only [sQ,ne_eq] at g1
 refine aZ 3 rfl (h:=aZ 4 rfl (h:=aZ 5 rfl (h:=aZ 6 rfl (h:=aZ 7 rfl (h:=aZ 8 rfl (h:=aZ 9 rfl (h:=aZ 10 rfl (h:=aZ 11 rfl (h:=aZ 12 rfl (h:=aZ 13 rfl (h:=aPT 14 rfl (h:=ZC kr kr ?_))))))))))))
 exact ⟨rfl,rfl,rfl,Zda rfl (by first | (simp [g1];done) | (rw [Bool.eq_iff_iff];simp [hc,← UInt8.toNat_inj];omega)),t3⟩
 try simp only [sQ,ne_eq] at g1
 obtain ⟨c,hc⟩ :∃c,l[i]? = some c:=⟨_,List.getElem?_eq_getElem oz⟩
 refine aM 3 rfl (h:=aNc 4 rfl (h:=aW 5 rfl ZgQ (h:=aT 6 rfl (Zan fun D=>Zn rfl rfl lk9 rfl (atL 0 rfl rfl rfl) r4) (h:=aM 7 rfl (h:=aNc 8 rfl (h:=aW 9 rfl Zci (h:=aT 10 rfl (Zan fun D=>Zn rfl rfl lk3 rfl (atL 0 rfl rfl rfl) r4) (h:=aT 11 rfl (Zan fun D=>Zeu rfl rfl Tryz.underlying9 rfl rfl oz (by simpa using hc) r4) (h:=?_)))))))))
 refine aM 12 rfl (h:=ZvP 13 rfl (h:=aPF 14 rfl (h:=ZC kr kr ?_)))
 exact ⟨rfl,rfl,rfl,Zda rfl (by first | (simp [g1];done) | (rw [Bool.eq_iff_iff];simp [hc,← UInt8.toNat_inj];omega)),t3⟩
 refine Z3 [(0,_),(1,_),(4,_),(19,_)] t4 (Zd rfl (fun g2=>?_) (fun g2=>?_))
 try simp only [sQ,ne_eq] at g2
 refine Za (xA (h:=Z3 [(0,_),(1,_),(4,_),(19,_)] t4 (Zh (Zs ?_))))
 exact ZiT .ret (.inl rfl) [_] 0 rfl t1 ⟨Zk (by simp [g2]),rfl,by rw [if_neg g2]⟩
 try simp only [sQ,ne_eq] at g2
 refine Zj (Zf (Za (xM (h:=xNc (h:=xW Zci (h:=x1 lk3 0 (h:=Zo (ZeR rfl rfl rfl rfl (by first | exact ZaX oz oz | rfl) ?_))))))))
 refine xNc (h:=xW Zci (h:=xS [_] 0 [_,_] sz3 (h:=ZO [(0,_),(1,_),(4,_),(19,_)] [_] t4 rfl (Za (xA (h:=Z3 [(0,_),(1,_),(4,_),(19,_)] t4 (Zh ?_)))))))
 exact ZiT .ret (.inl rfl) [_] 0 rfl t1 ⟨Zk (by simp [g2]),rfl,by rw [if_pos g2];rfl⟩

set_option maxHeartbeats 400000 in
theorem ZpT (b:Nat) (l:List UInt8) (i:Nat) (hi:i≤l.length) (hl:l.length≤2000000) (B:Kn):Zs3 (pj J) 116 [ptr ⟨b,0,none⟩] B (cur b l i) (.tuple #[str (word l i),.bool (ZdJ (word l i))]) (cur b l (i+(word l i).length)):=by
 refine Zc 54 Tryz.func116 rfl rfl rfl (Nat.le_of_ble_eq_true rfl) ?_
 refine Za (xA (h:=xA (h:=Z3 [(0,_),(2,_),(3,_)] t3 (Za (xM (h:=xNc (h:=xW Zci (h:=x1 lk3 0 (h:=xA (h:=Z3 [(0,_),(2,_),(3,_),(4,_)] t4 (Zl (Zp ?_))))))))))))
 refine ZkP (α:=Nat) (fun k=>[(0,ptr ⟨b,0,none⟩),(4,.int .i64 i)]) (fun k=>[cur b l (i+k)]) (fun k Bx=>Bx=B∧i+k≤l.length∧((l.drop i).take k).all ZbI=true) (fun k=>l.length - i - k) 0 t2 rfl (⟨rfl,oz,by simp⟩) (fun k B1 hle1 hI=>?_)
 obtain ⟨rfl,hk,ha⟩:=hI
 refine Zl (ZhP 24 (match l[i+k]? with | some c=>ZbI c | none=>false) [0,4] (same _ _) mo kr ⟨rfl,rfl⟩ (fun _ _=>?_) ?_)
 refine aM 0 rfl (h:=aT 1 rfl (Zan fun D=>ZhQ 0 rfl rfl rfl Zv0 rfl (ZnR _ _ _ oz oz _) r4) (h:=?_))
 refine aN 2 rfl (h:=aM 3 rfl (h:=ZaI (d:=13) rfl (fun g1=>?_) (fun g1=>?_)))
 try simp only [sQ,ne_eq] at g1
 obtain ⟨c,hc⟩ :∃c,l[i+k]? = some c:=⟨_,List.getElem?_eq_getElem oz⟩
 refine aM 4 rfl (h:=aNc 5 rfl (h:=aW 6 rfl ZgQ (h:=aT 7 rfl (Zan fun D=>Zn rfl rfl lk9 rfl (atL 0 rfl rfl rfl) r4) (h:=aM 8 rfl (h:=aNc 9 rfl (h:=aW 10 rfl Zci (h:=aT 11 rfl (Zan fun D=>Zn rfl rfl lk3 rfl (atL 0 rfl rfl rfl) r4) (h:=aT 12 rfl (Zan fun D=>Zeu rfl rfl Tryz.underlying9 rfl rfl oz hc r4) (h:=?_)))))))))
 refine aT 13 rfl (Zan fun D=>ZaS rfl rfl Zw8 rfl (Zon _ _) r4) (h:=aPT 14 rfl (h:=ZC kr kr ?_))
 exact ⟨rfl,rfl,rfl,Zda rfl (by first | (rw [hc];done) | (rw [List.getElem?_eq_none oz])),t2⟩
 try simp only [sQ,ne_eq] at g1
 refine aZ 4 rfl (h:=aZ 5 rfl (h:=aZ 6 rfl (h:=aZ 7 rfl (h:=aZ 8 rfl (h:=aZ 9 rfl (h:=aZ 10 rfl (h:=aZ 11 rfl (h:=aZ 12 rfl (h:=aZ 13 rfl (h:=aPF 14 rfl (h:=ZC kr kr ?_)))))))))))
 exact ⟨rfl,rfl,rfl,Zda rfl (by first | (rw [hc];done) | (rw [List.getElem?_eq_none oz])),t2⟩
 refine Z3 [(0,_),(4,_),(24,_)] t3 (Zd rfl (fun g2=>?_) (fun g2=>?_))
 try simp only [sQ,ne_eq] at g2
 refine Zj (Zf (Zp (Ze (xM (h:=xNc (h:=xW Zci (h:=x1 lk3 0 (h:=Zo (ZeR rfl rfl rfl rfl (by first | exact ZaX oz oz | rfl) ?_)))))))))
 refine xNc (h:=xW Zci (h:=xS [_] 0 [_,_] sz3 (h:=Zz ?_)))
 obtain ⟨c,hc,hn⟩:=ZpC g2
 exact Zob (k+1) (by have:=Zb8 hc;omega) ⟨rfl,by have:=Zb8 hc;omega,ZnV (by simpa using hc) hn ha⟩ t2 rfl
 try simp only [sQ,ne_eq] at g2
 have hw:word l i=(l.drop i).take k:=Zrf ha (fun c hc=>by rw [hc] at g2;exact g2)
 have hwl:(word l i).length=k:=by rw [hw,List.length_take,List.length_drop];omega
 refine ZT (Zah (Zoa (ZH (Zf (Za (xM (h:=xNc (h:=xW Zci (h:=x1 lk3 0 (h:=xM (h:=Zo (Zjc rfl rfl rfl rfl (by first | exact ZaX oz oz | rfl) ?_))))))))))))
 refine xA (h:=Z3 [(0,_),(4,_),(5,_),(24,_)] t4 (Zl (Z8 (same _ _) mo kr ⟨rfl,rfl⟩ (fun _ _=>?_))))
 refine aM 0 rfl (h:=aNc 1 rfl (h:=aW 2 rfl ZgQ (h:=aT 3 rfl (Zan fun D=>Zn rfl rfl lk9 rfl (atL 0 rfl rfl rfl) r4) (h:=aM 4 rfl (h:=aM 5 rfl (h:=aNc 6 rfl (h:=aW 7 rfl Zci (h:=aT 8 rfl (Zan fun D=>Zn rfl rfl lk3 rfl (atL 0 rfl rfl rfl) r4) (h:=aT 9 rfl (Zan fun D=>Zf6 rfl rfl Tryz.underlying9 rfl (a:=i) (b:=i+k) ⟨_,_,rfl,rfl⟩ ⟨_,_,rfl,oz⟩ oz oz r4) (h:=?_))))))))))
 refine aM 10 rfl (h:=ZvQ 11 rfl (h:=aM 12 rfl (h:=ZaI (d:=50) rfl (fun g1=>?_) (fun g1=>?_))))
 try simp only [sQ,ne_eq] at g1
 refine aM 13 rfl (h:=Zut 14 rfl (h:=aPT 15 rfl (h:=aA 16 rfl (h:=aA 17 rfl (h:=ZC kr kr ?_)))))
 refine Zf (Z3 [(0,_),(2,_),(3,_),(4,_),(5,_),(24,_)] t6 (Zh ?_))
 exact ZiT .ret (.inl rfl) [_,_] 0 rfl t2 ⟨Zjr (by rw [Zfy,hw]) (Zk (by rw [Bool.eq_iff_iff];simp [ZdJ,hwl];omega)),rfl,by rw [hwl]⟩
 try simp only [sQ,ne_eq] at g1
 refine aZ 13 rfl (h:=aZ 14 rfl (h:=aPF 15 rfl (h:=aA 16 rfl (h:=aA 17 rfl (h:=ZC kr kr ?_)))))
 refine Zf (Z3 [(0,_),(2,_),(3,_),(4,_),(5,_),(24,_)] t6 (Zh ?_))
 exact ZiT .ret (.inl rfl) [_,_] 0 rfl t2 ⟨Zjr (by rw [Zfy,hw]) (Zk (by rw [Bool.eq_iff_iff];simp [ZdJ,hwl];omega)),rfl,by rw [hwl]⟩

set_option maxHeartbeats 400000 in
theorem Zsm (b:Nat) (l:List UInt8) (i:Nat) (hi:i≤l.length) (hl:l.length≤2000000) (B:Kn):Zs3 (pj J) 83 [ptr ⟨b,0,none⟩] B (cur b l i) (.tuple #[str (ZiW l i),.bool (ZmX l i)]) (cur b l (dom l i).2):=by
 refine Zc 53 Tryz.func83 rfl rfl rfl (Nat.le_of_ble_eq_true rfl) ?_
 refine Za (xA (h:=xA (h:=Z3 [(0,_),(2,_),(3,_)] t3 (Za (xM (h:=xNc (h:=xW Zci (h:=x1 lk3 0 (h:=xA (h:=Z3 [(0,_),(2,_),(3,_),(4,_)] t4 (Zl (Za ?_))))))))))))
 refine xM (h:=Zo (Zjl 0 rfl rfl rfl Zuk rfl (ZpT _ _ _ oz oz _) ?_))
 refine xM (h:=xE (h:=xE (h:=xA (h:=xA (h:=ZO [(0,_),(2,_),(3,_),(4,_),(6,_)] [_] t5 rfl (Za (xM (h:=xN (h:=Z3 [(0,_),(2,_),(3,_),(4,_),(6,_),(20,_)] t6 (Zd rfl (fun g1=>?_) (fun g1=>?_)))))))))))
 try simp only [sQ,ne_eq] at g1
 refine Za (xA (h:=xA (h:=Z3 [(0,_),(2,_),(3,_),(4,_),(6,_),(20,_)] t6 (Zh (Zs ?_)))))
 exact ZiT .ret (.inl rfl) [_,_] 0 rfl t2 ⟨Zjr (by simp [ZiW,ZmW g1]) (Zk (by simp [ZmX,ZmW g1])),rfl,by rw [ZmW g1]⟩
 try simp only [sQ,ne_eq] at g1
 refine Zj (Zf (Zl (Za (xA (h:=Z3 [(0,_),(2,_),(3,_),(4,_),(6,_),(7,_),(20,_)] t7 (Zp (ZkP (α:=Nat × Nat) (fun x=>[(0,ptr ⟨b,0,none⟩),(4,.int .i64 i),(7,.int .i64 x.1)]) (fun x=>[cur b l x.2]) (fun x Bx=>Bx=B∧1≤x.1∧x.1≤3∧i≤x.2∧x.2≤l.length∧dom l i=more (3 - x.1) l x.2) (fun x=>3 - x.1) (1,i+(word l i).length) t3 rfl (⟨rfl,oz,oz,oz,ZhN hi,Zsn g1⟩) (fun x B1 hle1 hI=>?_))))))))
 obtain ⟨rfl,hk1,hk3,hix,hxl,hd⟩:=hI
 refine Zl (Za (xM (h:=Zag (h:=xM (h:=Zt (d:=23) rfl (fun g2=>?_) (fun g2=>?_))))))
 try simp only [sQ,ne_eq] at g2
 refine xM (h:=Zo (Zjl 0 rfl rfl rfl Zxg rfl (ZuW _ _ _ oz oz 46 _) ?_))
 refine xT (h:=ZO [(0,_),(4,_),(7,_),(26,_)] [_] t4 rfl (Zd rfl (fun g3=>?_) (fun g3=>?_)))
 try simp only [sQ,ne_eq] at g3
 rw [if_pos g3]
 have hx2:=Zb8 g3
 refine Zj (Zf (Zl (Zp (Za (xM (h:=Zo (Zjl 0 rfl rfl rfl Zuk rfl (ZpT _ _ _ oz oz _) ?_)))))))
 refine xM (h:=xE (h:=xE (h:=xA (h:=xA (h:=ZO [(0,_),(4,_),(7,_),(9,_),(26,_)] [_] t5 rfl (Za (xM (h:=xN (h:=Z3 [(0,_),(4,_),(7,_),(9,_),(26,_),(35,_)] t6 (Zd rfl (fun g4=>?_) (fun g4=>?_)))))))))))
 try simp only [sQ,ne_eq] at g4
 refine Za (xA (h:=xA (h:=Z3 [(0,_),(2,_),(3,_),(4,_),(7,_),(9,_),(26,_),(35,_)] t8 (Zh (ZE (Zs (Ztp (ZE (Zs ?_)))))))))
 have hdd:=hd.trans (ZrK oz g3 g4)
 exact ZiT .ret (.inl rfl) [_,_] 0 rfl t2 ⟨Zjr (by simp [ZiW,hdd]) (Zk (by simp [ZmX,hdd])),rfl,by rw [hdd]⟩
 try simp only [sQ,ne_eq] at g4
 refine Zj (Zz (Zf (Ze (xM (h:=Zo (ZeR rfl rfl rfl rfl (by first | exact ZaX oz oz | rfl) ?_))))))
 refine xA (h:=?_)
 exact Zob (x.1+1,x.2+1+(word l (x.2+1)).length) (so) ⟨rfl,so,so,so,ZhN oz,by rw [hd,ZpY oz g3 g4];rw [show 3 - (x.1+1)=3 - x.1 - 1 from by omega]⟩ t3 rfl
 try simp only [sQ,ne_eq] at g3
 rw [if_neg g3]
 replace hd:=hd.trans (Zil g3)
 refine ZT (Zah (Zoa (ZH (Zf (Zl (Z8 (same _ _) mo kr ⟨rfl,rfl⟩ (fun _ _=>?_)))))))
 refine aM 0 rfl (h:=aNc 1 rfl (h:=aW 2 rfl ZgQ (h:=aT 3 rfl (Zan fun D=>Zn rfl rfl lk9 rfl (atL 0 rfl rfl rfl) r4) (h:=aM 4 rfl (h:=aM 5 rfl (h:=aNc 6 rfl (h:=aW 7 rfl Zci (h:=aT 8 rfl (Zan fun D=>Zn rfl rfl lk3 rfl (atL 0 rfl rfl rfl) r4) (h:=aT 9 rfl (Zan fun D=>Zf6 rfl rfl Tryz.underlying9 rfl (a:=i) (b:=x.2) ⟨_,_,rfl,rfl⟩ ⟨_,_,rfl,rfl⟩ oz oz r4) (h:=?_))))))))))
 refine aM 10 rfl (h:=aNc 11 rfl (h:=aW 12 rfl Zci (h:=aT 13 rfl (Zan fun D=>Zn rfl rfl lk3 rfl (atL 0 rfl rfl rfl) r4) (h:=aM 14 rfl (h:=aT 15 rfl (Zan fun D=>Zjc rfl rfl rfl rfl (by first | exact ZaX oz oz | rfl) r4) (h:=?_))))))
 refine Zut 16 rfl (h:=aA 17 rfl (h:=aA 18 rfl (h:=ZC kr kr ?_)))
 refine Zf (Z3 [(0,_),(2,_),(3,_),(4,_),(7,_),(26,_)] t6 (Zh ?_))
 exact ZiT .ret (.inl rfl) [_,_] 0 rfl t2 ⟨Zjr (by simp [ZiW,hd]) (Zk (by rw [Bool.eq_iff_iff];simp [ZmX,hd];omega)),rfl,by rw [hd]⟩
 try simp only [sQ,ne_eq] at g2
 replace hd:dom l i=(true,x.2):=hd.trans (by rw [show 3 - x.1=0 from by omega];rfl)
 refine xP (h:=xP (h:=xF (h:=Z3 [(0,_),(4,_),(7,_),(26,_)] t4 (Zd (t:=false) rfl (fun h=>Bool.noConfusion h) (fun _=>ZT (Zah (Zoa (ZH (Zf (Zl (Z8 (same _ _) mo kr ⟨rfl,rfl⟩ (fun _ _=>?_))))))))))))
 refine aM 0 rfl (h:=aNc 1 rfl (h:=aW 2 rfl ZgQ (h:=aT 3 rfl (Zan fun D=>Zn rfl rfl lk9 rfl (atL 0 rfl rfl rfl) r4) (h:=aM 4 rfl (h:=aM 5 rfl (h:=aNc 6 rfl (h:=aW 7 rfl Zci (h:=aT 8 rfl (Zan fun D=>Zn rfl rfl lk3 rfl (atL 0 rfl rfl rfl) r4) (h:=aT 9 rfl (Zan fun D=>Zf6 rfl rfl Tryz.underlying9 rfl (a:=i) (b:=x.2) ⟨_,_,rfl,rfl⟩ ⟨_,_,rfl,rfl⟩ oz oz r4) (h:=?_))))))))))
 refine aM 10 rfl (h:=aNc 11 rfl (h:=aW 12 rfl Zci (h:=aT 13 rfl (Zan fun D=>Zn rfl rfl lk3 rfl (atL 0 rfl rfl rfl) r4) (h:=aM 14 rfl (h:=aT 15 rfl (Zan fun D=>Zjc rfl rfl rfl rfl (by first | exact ZaX oz oz | rfl) r4) (h:=?_))))))
 refine Zut 16 rfl (h:=aA 17 rfl (h:=aA 18 rfl (h:=ZC kr kr ?_)))
 refine Zf (Z3 [(0,_),(2,_),(3,_),(4,_),(7,_),(26,_)] t6 (Zh ?_))
 exact ZiT .ret (.inl rfl) [_,_] 0 rfl t2 ⟨Zjr (by simp [ZiW,hd]) (Zk (by rw [Bool.eq_iff_iff];simp [ZmX,hd];omega)),rfl,by rw [hd]⟩

set_option maxHeartbeats 400000 in
theorem Zdh (l:List UInt8) (hl:l.length≤2000000) (B:Kn):ZaL (pj J) 68 [str l] B (.bool (ZaA l)):=by
 refine Zc 16 Tryz.func68 rfl rfl rfl (Nat.le_of_ble_eq_true rfl) ?_
 refine Za (xA (h:=Z3 [(0,_),(2,_)] t2 (Za (xM (h:=xB [(0,_)] [_,_] [_,_] Zu9 Zre (h:=xAl [_,_] Zre (h:=fun b0=>xS [_,_] 0 [_,_] Zu3 (h:=ZO [(0,_),(2,_),(3,_)] [_] t3 rfl (Za (Zo (Zjl 0 rfl rfl rfl Zuk rfl (ZpT _ _ 0 oz hl _) ?_)))))))))))
 refine xM (h:=xE (h:=xE (h:=xA (h:=xA (h:=ZO [(0,_),(2,_),(3,_),(5,_)] [_] t4 rfl (Za (xM (h:=xM (h:=Zt (d:=13) rfl (fun g1=>?_) (fun g1=>?_))))))))))
 try simp only [sQ,ne_eq] at g1
 refine Zo (ZhQ 0 rfl rfl rfl Zv0 rfl (ZnR _ _ (0+(word l 0).length) (ZhN (Nat.zero_le _)) oz _) ?_)
 refine xT (h:=xA (h:=Z3 [(0,_),(2,_),(3,_),(5,_)] t4 (Zh ?_)))
 exact ZY .ret (.inl rfl) [_] t1 ⟨Zk (by rw [Zdu];simp [g1];try omega),rfl,rfl⟩
 try simp only [sQ,ne_eq] at g1
 refine xP (h:=xF (h:=xA (h:=Z3 [(0,_),(2,_),(3,_),(5,_)] t4 (Zh ?_))))
 exact ZY .ret (.inl rfl) [_] t1 ⟨Zk (by rw [Zdu];simp [g1];try omega),rfl,rfl⟩

abbrev rd (b : Nat) (q : Option Addr) (m cp p : Nat) : Cells := ZaE b [.slice q m cp, .int .i64 p] 97
set_option maxHeartbeats 400000 in
theorem ZrR (q:Option Addr) (m cp:Nat) (hmc:m≤cp) (B:Kn) (hb:Zat B q m):ZxE (pj J) 19 [.slice q m cp] B (fun v s=>∃b q m cp,v=ptr ⟨b,0,none⟩∧s=rd b q m cp 0∧m≤2000∧Zat B q m):=by
 refine Zc 11 Tryz.func19 rfl rfl rfl (Nat.le_of_ble_eq_true rfl) ?_
 refine Za (xA (h:=Z3 [(0,_),(2,_)] t2 (Zl (Za (xM (h:=xV Tryz.underlying22 (h:=ZbM (h:=Z3 [(0,_),(2,_),(5,_)] t3 (Zd rfl (fun g1=>?_) (fun g1=>?_))))))))))
 try simp only [sQ,ne_eq] at g1
 refine Ze (xM (h:=Zo (Zfh rfl rfl Tryz.underlying22 sz5 rfl (a:=0) (b:=2000) rfl ⟨_,_,rfl,rfl⟩ oz oz ?_)))
 refine xA (h:=Zf (Za (xM (h:=xB [(0,_)] [_,_] [_,_] ZxH ZxF (h:=xBx [_,_] (h:=fun b0=>xA (h:=ZO [(0,_),(2,_),(5,_)] [_] t3 rfl (Zh ?_))))))))
 exact ZiT .ret (.inl rfl) [_] 0 rfl t1 ⟨rfl,_,rfl,_,_,_,_,rfl,rfl,oz,hb.take oz⟩
 try simp only [sQ,ne_eq] at g1
 refine Zj (Zf (Za (xM (h:=xB [(0,_)] [_,_] [_,_] ZxH ZxF (h:=xBx [_,_] (h:=fun b0=>xA (h:=ZO [(0,_),(2,_),(5,_)] [_] t3 rfl (Zh ?_))))))))
 exact ZiT .ret (.inl rfl) [_] 0 rfl t1 ⟨rfl,_,rfl,_,_,_,_,rfl,rfl,oz,hb⟩

set_option maxHeartbeats 400000 in
theorem ZP (b:Nat) (q:Option Addr) (m cp p:Nat) (n:Int) (hp:p≤1000000000000) (hn:1≤n) (hn2:n≤1000000000000) (hm:m≤2000) (B:Kn) (hb:Zat B q m):Ex1 (pj J) 52 [ptr ⟨b,0,none⟩,.int .i64 n] B (rd b q m cp p) (fun v s=>∃r:Int,v = .int .i64 r∧0≤r∧r<n∧s=rd b q m cp (p+1)):=by
 refine Zc 99 Tryz.func52 rfl rfl rfl (Nat.le_of_ble_eq_true rfl) ?_
 refine Za ?_
 refine xA (h:=?_)
 refine Z3 [(0,_),(1,_),(4,_)] t3 ?_
 refine Za ?_
 refine xM (h:=?_)
 refine xM (h:=?_)
 refine xNc (h:=?_)
 refine xW Zqp (h:=?_)
 refine x1 lk3 0 (h:=?_)
 refine Zo (ZeR rfl rfl rfl rfl (by first | exact ZaX oz oz | rfl) ?_)
 refine xNc (h:=?_)
 refine xW Zqp (h:=?_)
 refine xS [_] 0 [_,_] sz3 (h:=?_)
 refine ZO [(0,_),(1,_),(4,_)] [_] t3 rfl ?_
 refine Zl ?_
 refine Za ?_
 refine xM (h:=?_)
 refine Zag (h:=?_)
 refine xM (h:=?_)
 refine Zt (d:=17) rfl (fun g1=>by have:=of_decide_eq_true g1;omega) (fun g1=>?_)
 try simp only [sQ,ne_eq] at g1
 refine xM (h:=?_)
 refine xNc (h:=?_)
 refine xW Zhj (h:=?_)
 refine x1 ZsV 0 (h:=?_)
 refine xV Tryz.underlying22 (h:=?_)
 refine ZI (h:=?_)
 refine xF (h:=?_)
 refine Z3 [(0,_),(1,_),(4,_),(24,_)] t4 ?_
 refine Zd rfl (fun g2=>?_) (fun g2=>?_)
 try simp only [sQ,ne_eq] at g2
 refine Za ?_
 refine xA (h:=?_)
 refine Z3 [(0,_),(1,_),(4,_),(24,_)] t4 ?_
 refine Zh (Zs ?_)
 exact ZiT .ret (.inl rfl) [_] 0 rfl t1 ⟨rfl,_,rfl,0,rfl,oz,oz,rfl⟩
 try simp only [sQ,ne_eq] at g2
 have hm0:0<m:=by omega
 obtain ⟨a,rfl,hc⟩:=hb.at hm0
 refine Zj ?_
 refine Zf ?_
 refine Za ?_
 refine xM (h:=?_)
 refine xNc (h:=?_)
 refine xW Zqp (h:=?_)
 refine x1 lk3 0 (h:=?_)
 refine Zo (Zjc rfl rfl rfl rfl (by first | exact ZaX oz oz | rfl) ?_)
 refine xA (h:=?_)
 refine Z3 [(0,_),(1,_),(4,_),(5,_),(24,_)] t5 ?_
 refine Zl ?_
 refine Za ?_
 refine xM (h:=?_)
 refine xM (h:=?_)
 refine xNc (h:=?_)
 refine xW Zhj (h:=?_)
 refine x1 ZsV 0 (h:=?_)
 refine xV Tryz.underlying22 (h:=?_)
 refine Zag (h:=?_)
 refine Z3 [(0,_),(1,_),(4,_),(5,_),(24,_),(36,_)] t6 ?_
 refine Zd rfl (fun g3=>?_) (fun g3=>?_)
 try simp only [sQ,ne_eq] at g3
 obtain ⟨z,hz,h1⟩:=hc (↑p+1 - 1) oz oz
 refine Za ?_
 refine xM (h:=?_)
 refine xNc (h:=?_)
 refine xW Zhj (h:=?_)
 refine x1 ZsV 0 (h:=?_)
 refine xM (h:=?_)
 refine Zo (Za4 rfl rfl Tryz.underlying22 sz5 rfl rfl oz oz ?_)
 refine Zo (Zn rfl rfl lk5 rfl (h1 _) ?_)
 refine Zo (Zme rfl rfl Tryz.underlying5 Tryz.underlying3 rfl (by first | exact ZaX oz oz | rfl) ?_)
 refine xM (h:=?_)
 refine Zo (Zhp rfl rfl rfl rfl oz (by first | exact ZaX oz oz | rfl) ?_)
 refine xA (h:=?_)
 refine Z3 [(0,_),(1,_),(4,_),(5,_),(24,_),(36,_)] t6 ?_
 refine Zh (Zs ?_)
 exact ZiT .ret (.inl rfl) [_] 0 rfl t1 ⟨rfl,_,rfl,_,rfl,Int.tmod_nonneg _ oz,Int.tmod_lt_of_pos _ oz,rfl⟩
 try simp only [sQ,ne_eq] at g3
 obtain ⟨z,hz,h1⟩:=hc (Int.tmod (↑p+1 - 1) ↑m) (Int.tmod_nonneg _ oz) (Int.tmod_lt_of_pos _ oz)
 obtain ⟨z2,hz2,h2⟩:=hc (Int.tmod ((↑p+1 - 1)*7+3) ↑m) (Int.tmod_nonneg _ oz) (Int.tmod_lt_of_pos _ oz)
 have ht0:0≤Int.tdiv (↑p+1 - 1) ↑m:=Int.tdiv_nonneg oz oz
 have ht1:Int.tdiv (↑p+1 - 1) ↑m≤↑p+1 - 1:=Int.tdiv_le_self _ oz
 refine Zj ?_
 refine Zf ?_
 refine Zl ?_
 refine Z8 (same _ _) mo kr ⟨rfl,rfl⟩ (fun _ _=>?_)
 refine aM 0 rfl (h:=?_)
 refine aNc 1 rfl (h:=?_)
 refine aW 2 rfl Zhj (h:=?_)
 refine aT 3 rfl (Zan fun D=>Zn rfl rfl ZsV rfl (atL 0 rfl rfl rfl) r4) (h:=?_)
 refine aM 4 rfl (h:=?_)
 refine aM 5 rfl (h:=?_)
 refine aNc 6 rfl (h:=?_)
 refine aW 7 rfl Zhj (h:=?_)
 refine aT 8 rfl (Zan fun D=>Zn rfl rfl ZsV rfl (atL 0 rfl rfl rfl) r4) (h:=?_)
 refine aV 9 rfl Tryz.underlying22 (h:=?_)
 refine aT 10 rfl (Zan fun D=>Zhp rfl rfl rfl rfl oz (by first | exact ZaX oz oz | rfl) r4) (h:=?_)
 refine aT 11 rfl (Zan fun D=>Za4 rfl rfl Tryz.underlying22 sz5 rfl rfl (Int.tmod_nonneg _ oz) (Int.tmod_lt_of_pos _ oz) r4) (h:=?_)
 refine aT 12 rfl (Zan fun D=>Zn rfl rfl lk5 rfl (h1 _) r4) (h:=?_)
 refine aT 13 rfl (Zan fun D=>Zme rfl rfl Tryz.underlying5 Tryz.underlying3 rfl (by first | exact ZaX oz oz | rfl) r4) (h:=?_)
 refine aT 14 rfl (Zan fun D=>ZkN rfl rfl rfl rfl (by first | exact ZaX oz oz | rfl) r4) (h:=?_)
 refine aM 15 rfl (h:=?_)
 refine aNc 16 rfl (h:=?_)
 refine aW 17 rfl Zhj (h:=?_)
 refine aT 18 rfl (Zan fun D=>Zn rfl rfl ZsV rfl (atL 0 rfl rfl rfl) r4) (h:=?_)
 refine aM 19 rfl (h:=?_)
 refine aT 20 rfl (Zan fun D=>ZkN rfl rfl rfl rfl (by first | exact ZaX oz oz | rfl) r4) (h:=?_)
 refine aT 21 rfl (Zan fun D=>ZeR rfl rfl rfl rfl (by first | exact ZaX oz oz | rfl) r4) (h:=?_)
 refine aM 22 rfl (h:=?_)
 refine aNc 23 rfl (h:=?_)
 refine aW 24 rfl Zhj (h:=?_)
 refine aT 25 rfl (Zan fun D=>Zn rfl rfl ZsV rfl (atL 0 rfl rfl rfl) r4) (h:=?_)
 refine aV 26 rfl Tryz.underlying22 (h:=?_)
 refine aT 27 rfl (Zan fun D=>Zhp rfl rfl rfl rfl oz (by first | exact ZaX oz oz | rfl) r4) (h:=?_)
 refine aT 28 rfl (Zan fun D=>Za4 rfl rfl Tryz.underlying22 sz5 rfl rfl (Int.tmod_nonneg _ oz) (Int.tmod_lt_of_pos _ oz) r4) (h:=?_)
 refine aT 29 rfl (Zan fun D=>Zn rfl rfl lk5 rfl (h2 _) r4) (h:=?_)
 refine aT 30 rfl (Zan fun D=>Zme rfl rfl Tryz.underlying5 Tryz.underlying3 rfl (by first | exact ZaX oz oz | rfl) r4) (h:=?_)
 refine aT 31 rfl (Zan fun D=>ZkN rfl rfl rfl rfl (by first | exact ZaX oz oz | rfl) r4) (h:=?_)
 refine aT 32 rfl (Zan fun D=>ZeR rfl rfl rfl rfl (by first | exact ZaX oz oz | rfl) r4) (h:=?_)
 refine aM 33 rfl (h:=?_)
 refine aT 34 rfl (Zan fun D=>ZkN rfl rfl rfl rfl (by first | exact ZaX oz oz | rfl) r4) (h:=?_)
 refine aT 35 rfl (Zan fun D=>ZeR rfl rfl rfl rfl (by first | exact ZaX oz oz | rfl) r4) (h:=?_)
 refine aM 36 rfl (h:=?_)
 refine aM 37 rfl (h:=?_)
 refine aNc 38 rfl (h:=?_)
 refine aW 39 rfl Zhj (h:=?_)
 refine aT 40 rfl (Zan fun D=>Zn rfl rfl ZsV rfl (atL 0 rfl rfl rfl) r4) (h:=?_)
 refine aV 41 rfl Tryz.underlying22 (h:=?_)
 refine aT 42 rfl (Zan fun D=>ZhR rfl rfl rfl rfl oz (by first | exact ZaX oz oz | rfl) r4) (h:=?_)
 refine aT 43 rfl (Zan fun D=>ZkN rfl rfl rfl rfl (by first | exact ZaX oz oz | rfl) r4) (h:=?_)
 refine aT 44 rfl (Zan fun D=>ZeR rfl rfl rfl rfl (by first | exact ZaX oz oz | rfl) r4) (h:=?_)
 refine aA 45 rfl (h:=?_)
 refine ZC kr kr ?_
 refine Zf ?_
 refine Z3 [(0,_),(1,_),(4,_),(5,_),(6,_),(24,_),(36,_)] t7 ?_
 generalize hx:(↑z*131+↑z2*1117+(↑p+1 - 1)*29+(↑p+1 - 1:Int).tdiv ↑m*53:Int)=x
 have hx0:0≤x:=by omega
 have hx1:x<1000000000000000:=by omega
 have hy0:0≤Int.tdiv x 64:=Int.tdiv_nonneg oz oz
 have hy1:Int.tdiv x 64≤x:=Int.tdiv_le_self _ oz
 refine Za ?_
 refine xM (h:=?_)
 refine xM (h:=?_)
 refine Zo (ZhR rfl rfl rfl rfl oz (by first | exact ZaX oz oz | rfl) ?_)
 refine Zo (Zwh rfl rfl rfl rfl oz oz oz oz (fun y hy2 hy3=>?_))
 refine xA (h:=?_)
 refine Z3 [(0,_),(1,_),(4,_),(5,_),(6,_),(24,_),(36,_)] t7 ?_
 refine Za ?_
 refine xM (h:=?_)
 refine xM (h:=?_)
 refine Zo (Zhp rfl rfl rfl rfl oz (by first | exact ZaX oz oz | rfl) ?_)
 refine xA (h:=?_)
 refine Z3 [(0,_),(1,_),(4,_),(5,_),(6,_),(24,_),(36,_)] t7 ?_
 refine Zh ?_
 exact ZiT .ret (.inl rfl) [_] 0 rfl t1 ⟨rfl,_,rfl,_,rfl,Int.tmod_nonneg _ oz,Int.tmod_lt_of_pos _ oz,rfl⟩

set_option maxHeartbeats 400000 in
theorem Zrb (b:Nat) (q:Option Addr) (m cp p:Nat) (b1:Nat) (ls:List (List UInt8)) (hp:p≤1000000000000) (hn:1≤ls.length) (hn2:ls.length≤1000000000000) (hm:m≤2000) (B:Kn) (hbm:Zat B q m):ZA (pj J) 69 [ptr ⟨b,0,none⟩,.slice (some ⟨b1,0,none⟩) ls.length ls.length] B [rd b q m cp p,ZaE b1 (ls.map str) 9] (fun v B' Ls=>B'=B∧∃x,x∈ls∧v=str x∧Ls=[rd b q m cp (p+1)]):=by
 refine Zc 12 Tryz.func69 rfl rfl rfl (Nat.le_of_ble_eq_true rfl) ?_
 skip
 refine Za (xA (h:=Z3 [(0,_),(1,_),(4,_)] t3 (Za (xM (h:=xM (h:=xM (h:=xV Tryz.underlying39 (h:=xX 0 rfl Za9 rfl (ZP _ _ _ _ _ _ oz oz oz hm _ hbm) (h:=?_)))))))))
 rintro _ _ ⟨r1,rfl,r1a,r1b,rfl⟩
 refine Zo (Za4 rfl rfl Tryz.underlying39 sz9 rfl rfl oz oz ?_)
 obtain ⟨x,hx⟩ :∃x,ls[r1.toNat]? = some x:=⟨_,List.getElem?_eq_getElem oz⟩
 refine Zo (Zn rfl rfl lk9 rfl (ZqT 1 rfl (v:=str x) (by rw [Nat.mul_one,List.getElem?_map,hx];rfl)) ?_)
 refine xA (h:=ZO [(0,_),(1,_),(4,_)] [_,_] t3 rfl (Zh ?_))
 exact Zad .ret (.inl rfl) [_] [0] rfl t1 ⟨rfl,x,List.mem_of_getElem? hx,rfl,rfl⟩

set_option maxHeartbeats 400000 in
theorem Zeh (b:Nat) (q:Option Addr) (m cp p:Nat) (hp:p≤900000000000) (hm:m≤2000) (B:Kn) (hbm:Zat B q m):Ex1 (pj J) 56 [ptr ⟨b,0,none⟩] B (rd b q m cp p) (fun v s=>∃x:List UInt8,v=str x∧x.length≤9∧s=rd b q m cp (p+2)):=by
 refine Zc 12 Tryz.func56 rfl rfl rfl (Nat.le_of_ble_eq_true rfl) ?_
 refine Za (xA (h:=Z3 [(0,_),(2,_)] t2 (Zl (Za (xM (h:=xX 0 rfl Za9 rfl (ZP _ _ _ _ _ _ oz oz oz hm _ hbm) (h:=?_)))))))
 rintro _ _ ⟨r1,rfl,r1a,r1b,rfl⟩
 refine ZI (h:=ZO [(0,_),(2,_),(5,_)] [_] t3 rfl (Zd rfl (fun g1=>?_) (fun g1=>?_)))
 try simp only [sQ,ne_eq] at g1
 refine Za (xM (h:=xBs [(0,_),(1,_),(2,_),(3,_),(4,_),(5,_),(6,_)] [_,_,_,_,_,_,_] Tryz.underlying39 sz9 zo9 (h:=fun b1=>Zo (Z4 [0,1] rfl rfl rfl rfl ZoP rfl (Zrb _ _ _ _ _ _ [[],[65],[116,111,111,108,111,110,103,49,50],[97,45,98],[101,105,103,104,116,56,56,56],[48],[97,110,121,111,110,101]] oz (by decide) (by decide) hm _ hbm) ?_))))
 rintro _ _ _ hle2 ⟨rfl,x2,hx2,rfl,rfl⟩
 refine xA (h:=ZO [(0,_),(2,_),(5,_)] [_,_] t3 rfl (Zh (Zs ?_)))
 exact ZiT .ret (.inl rfl) [_] 0 rfl t1 ⟨rfl,_,rfl,x2,rfl,(show∀x∈_,x.length≤9 from by decide) _ hx2,rfl⟩
 try simp only [sQ,ne_eq] at g1
 refine Zj (Zf (Za (xM (h:=xBs [(0,_),(1,_),(2,_),(3,_),(4,_),(5,_)] [_,_,_,_,_,_] Tryz.underlying39 sz9 zo9 (h:=fun b1=>Zo (Z4 [0,1] rfl rfl rfl rfl ZoP rfl (Zrb _ _ _ _ _ _ [[97,109,121],[98,111,98],[99,121,100],[100,97,110],[98,111,120,49],[120]] oz (by decide) (by decide) hm _ hbm) ?_))))))
 rintro _ _ _ hle3 ⟨rfl,x3,hx3,rfl,rfl⟩
 refine xA (h:=ZO [(0,_),(2,_),(5,_)] [_,_] t3 rfl (Zh ?_))
 exact ZiT .ret (.inl rfl) [_] 0 rfl t1 ⟨rfl,_,rfl,x3,rfl,(show∀x∈_,x.length≤9 from by decide) _ hx3,rfl⟩

abbrev Zv5 (s : Cells) (q : Option Addr) (m cp : Nat) (ls : List (List UInt8)) : Prop := ZhL s q m cp 9 1 (ls.map str)
theorem ZkS {s:Cells} {q:Option Addr} {m cp:Nat} {ls:List (List UInt8)} {a:List UInt8} (h:ZhL s q m cp 9 1 (ls.map str ++ [str a])):Zv5 s q m cp (ls ++ [a]):=by
 unfold Zv5
 rw [List.map_append]
 exact h
set_option maxHeartbeats 400000 in
theorem ZtH (l:List UInt8) (hl:l.length≤2000000) (x0:UInt8) (B:Kn):ZxE (pj J) 107 [str l,.int .u8 x0.toNat] B (fun v s=>∃q cp,v = .slice q (cut x0 l).length cp∧Zv5 s q (cut x0 l).length cp (cut x0 l)):=by
 refine Zc 35 Tryz.func107 rfl rfl rfl (Nat.le_of_ble_eq_true rfl) ?_
 refine Za (xA (h:=Z3 [(0,_),(1,_),(4,_)] t3 (Za (xBs [] [] Tryz.underlying39 sz9 zo9 (h:=fun b0=>xA (h:=ZO [(0,_),(1,_),(4,_),(5,_)] [_] t4 rfl (Za (xA (h:=Z3 [(0,_),(1,_),(4,_),(5,_),(6,_)] t5 (Zl (Za (xA (h:=?_)))))))))))))
 refine Z3 [(0,_),(1,_),(4,_),(5,_),(6,_),(7,_)] t6 (Zp (ZkP (α:=CutSt) (fun x=>[(0,str l),(1,.int .u8 x0.toNat),(5,.slice x.q x.m x.cp),(6,.int .i64 x.f),(7,.int .i64 x.i)]) (fun x=>[x.s]) (fun x Bx=>Bx=B∧x.f≤x.i∧x.i≤l.length∧x.m≤x.i∧x.m=x.ps.length∧Zv5 x.s x.q x.m x.cp x.ps∧cut x0 l=x.ps ++ glue ((l.take x.i).drop x.f) (cut x0 (l.drop x.i))) (fun x=>l.length - x.i) ⟨0,0,0,[],some ⟨b0,0,none⟩,0,ZaE b0 [] 9⟩ t5 rfl (⟨rfl,Nat.le_refl _,Nat.zero_le _,Nat.le_refl _,rfl,ZhL.lit rfl,by simp [ZnJ (ZnT x0 l)]⟩) (fun x B1 hle1 hI=>?_)))
 obtain ⟨rfl,hf,hi,hn,hm,hv,hc⟩:=hI
 refine Zl (Za (xM (h:=xM (h:=xVs Tryz.underlying9 (h:=Zag (h:=Z3 [(0,_),(1,_),(5,_),(6,_),(7,_),(12,_)] t6 (Zd rfl (fun g1=>?_) (fun g1=>?_))))))))
 try simp only [sQ,ne_eq] at g1
 obtain ⟨c,hx⟩ :∃c,l[x.i]? = some c:=⟨_,List.getElem?_eq_getElem oz⟩
 refine Zj (Zf (Zl (Zp (Za (xM (h:=xM (h:=Zo (Zeu rfl rfl Tryz.underlying9 rfl rfl oz hx ?_))))))))
 refine xM (h:=ZI (h:=Z3 [(0,_),(1,_),(5,_),(6,_),(7,_),(12,_),(19,_)] t7 (Zd rfl (fun g2=>?_) (fun g2=>?_))))
 try simp only [sQ,ne_eq] at g2
 refine Za (xM (h:=xM (h:=xM (h:=xM (h:=Zo (Zf6 rfl rfl Tryz.underlying9 rfl (a:=x.f) (b:=x.i) ⟨_,_,rfl,rfl⟩ ⟨_,_,rfl,rfl⟩ oz oz ?_))))))
 refine xBs [(0,_)] [_] Tryz.underlying39 sz9 zo9 (h:=fun b1=>Zo (Zev 0 rfl (hv) rfl rfl ZnO Znk rfl rfl (ZaM.box 1 rfl) rfl rfl oz (fun l1 p1 c1 hv1=>?_)))
 refine xA (h:=ZO [(0,_),(1,_),(5,_),(6,_),(7,_),(12,_),(19,_)] [_,_] t7 rfl (Zta [0] rfl (Ze (xM (h:=Zo (ZeR rfl rfl rfl rfl (by first | exact ZaX oz oz | rfl) ?_))))))
 refine xA (h:=Zz (Zf (Ze (xM (h:=Zo (ZeR rfl rfl rfl rfl (by first | exact ZaX oz oz | rfl) ?_))))))
 refine xA (h:=?_)
 exact Zob ⟨x.i+1,x.i+1,x.m+1,x.ps ++ [(l.take x.i).drop x.f],p1,c1,l1⟩ (so) ⟨rfl,Nat.le_refl _,so,so,by simp [hm],ZkS hv1,by rw [hc,Zun hx (Zwl g2),List.append_assoc];simp [Zsc,ZnJ (ZnT x0 _)]⟩ t5 rfl
 try simp only [sQ,ne_eq] at g2
 refine Zj (Zz (Zf (Ze (xM (h:=Zo (ZeR rfl rfl rfl rfl (by first | exact ZaX oz oz | rfl) ?_))))))
 refine xA (h:=?_)
 exact Zob ⟨x.i+1,x.f,x.m,x.ps,x.q,x.cp,x.s⟩ (so) ⟨rfl,so,so,so,hm,hv,by rw [hc,Zsp hx (Zwk g2),Zqn,Zpr hx hf]⟩ t5 rfl
 try simp only [sQ,ne_eq] at g1
 obtain hie:x.i=l.length:=by omega
 rw [hie,List.take_length,List.drop_length] at hc
 refine ZT (Zah (Zoa (ZH (Zf (Za (xM (h:=xM (h:=xM (h:=Zo (Zf6 rfl rfl Tryz.underlying9 rfl (a:=x.f) (b:=l.length) ⟨_,_,rfl,rfl⟩ rfl oz oz ?_))))))))))
 refine xBs [(0,_)] [_] Tryz.underlying39 sz9 zo9 (h:=fun b1=>Zo (Zev 0 rfl (hv) rfl rfl ZnO Znk rfl rfl (ZaM.box 1 rfl) rfl rfl oz (fun l2 p2 c2 hv2=>?_)))
 refine xA (h:=ZO [(0,_),(1,_),(4,_),(5,_),(6,_),(7,_),(12,_)] [_,_] t7 rfl (Zh ?_))
 have he:cut x0 l=x.ps ++ [l.drop x.f]:=by rw [hc];simp [cut,glue]
 have hlen:(cut x0 l).length=x.m+1:=by rw [he];simp [hm]
 exact Zad .ret (.inl rfl) [_] [0] rfl t1 ⟨rfl,_,rfl,p2,c2,by rw [hlen];rfl,by rw [hlen,he];rw [List.take_length] at hv2;exact ZkS hv2⟩

set_option maxHeartbeats 400000 in
theorem Zk7 (l:List UInt8) (hl:l.length≤2000000) (B:Kn):ZaL (pj J) 60 [str l] B (.bool (Zcg l)):=by
 refine Zc 27 Tryz.func60 rfl rfl rfl (Nat.le_of_ble_eq_true rfl) ?_
 refine Za (xA (h:=Z3 [(0,_),(2,_)] t2 (Za (xM (h:=Zo (ZsJ rfl rfl Zxv rfl (ZtH _ hl 46 _) ?_))))))
 rintro _ s ⟨q,cp,rfl,hv⟩
 refine xA (h:=ZO [(0,_),(2,_),(3,_)] [_] t3 rfl (Zl (Za (xA (h:=Z3 [(0,_),(2,_),(3,_),(4,_)] t4 (Zp (ZkP (α:=Nat) (fun k=>[(0,str l),(3,.slice q (cut 46 l).length cp),(4,.int .i64 k)]) (fun k=>[s]) (fun k Bx=>Bx=B∧k≤(cut 46 l).length∧((cut 46 l).take k).all ZaA=true) (fun k=>(cut 46 l).length - k) 0 t3 rfl (⟨rfl,Nat.zero_le _,by simp⟩) (fun k B1 hle1 hI=>?_))))))))
 obtain ⟨rfl,hk,ha⟩:=hI
 have hcc:=ZlR 46 l
 refine Zl (Za (xM (h:=xM (h:=xV Tryz.underlying39 (h:=Zag (h:=Z3 [(0,_),(3,_),(4,_),(10,_)] t4 (Zd rfl (fun g1=>?_) (fun g1=>?_))))))))
 try simp only [sQ,ne_eq] at g1
 obtain ⟨y,hy⟩ :∃y,(cut 46 l)[k]? = some y:=⟨_,List.getElem?_eq_getElem oz⟩
 have hyl:=ZmY 46 l y (List.mem_of_getElem? hy)
 obtain ⟨a,rfl,hsp,hat⟩:=hv.at (B:=B1) (L:=[s]) (i:=k) (v:=str y) 0 rfl (by rw [List.getElem?_map,hy];rfl)
 refine Zj (Zf (Zl (Zp (Za (xM (h:=xM (h:=Zo (Za4 rfl rfl Tryz.underlying39 sz9 rfl rfl oz oz ?_))))))))
 refine Zo (Zn rfl rfl lk9 rfl (ZvI hat) (xR Zsh rfl (ZbW _ oz _) (h:=?_)))
 refine xN (h:=Z3 [(0,_),(3,_),(4,_),(10,_),(18,_)] t5 (Zd rfl (fun g2=>?_) (fun g2=>?_)))
 try simp only [sQ,ne_eq] at g2
 refine Za (xA (h:=Z3 [(0,_),(2,_),(3,_),(4,_),(10,_),(18,_)] t6 (Zh (ZE (Zs (Ztp (ZE (Zs ?_))))))))
 exact ZY .ret (.inl rfl) [_] t1 ⟨Zk (by simp [Zcg,Zl2 hy g2]),rfl,rfl⟩
 try simp only [sQ,ne_eq] at g2
 refine Zj (Zz (Zf (Ze (xM (h:=Zo (ZeR rfl rfl rfl rfl (by first | exact ZaX oz oz | rfl) ?_))))))
 refine xA (h:=?_)
 exact Zob (k+1) oz ⟨rfl,oz,Zi5 hy g2 ha⟩ t3 rfl
 try simp only [sQ,ne_eq] at g1
 obtain hke:k=(cut 46 l).length:=by omega
 rw [hke,List.take_length] at ha
 refine ZT (Zah (Zoa (ZH (Zf (Za (xM (h:=xV Tryz.underlying39 (h:=ZcG (h:=xM (h:=Zt (d:=22) rfl (fun g3=>?_) (fun g3=>?_)))))))))))
 try simp only [sQ,ne_eq] at g3
 refine xM (h:=xVs Tryz.underlying9 (h:=ZcG (h:=xT (h:=xA (h:=Z3 [(0,_),(2,_),(3,_),(4,_),(10,_)] t5 (Zh ?_))))))
 exact ZY .ret (.inl rfl) [_] t1 ⟨Zk (by rw [Bool.eq_iff_iff];simp [Zcg,ha];omega),rfl,rfl⟩
 try simp only [sQ,ne_eq] at g3
 refine xP (h:=xP (h:=xP (h:=xF (h:=xA (h:=Z3 [(0,_),(2,_),(3,_),(4,_),(10,_)] t5 (Zh ?_))))))
 exact ZY .ret (.inl rfl) [_] t1 ⟨Zk (by rw [Bool.eq_iff_iff];simp [Zcg,ha];omega),rfl,rfl⟩

set_option maxHeartbeats 400000 in
theorem ZcZ (q:Option Addr) (cp:Nat) (us:List DUser) (u:Str) (B:Kn) (hu:SlK B q cp 3 Zg us):ZaL (pj J) 37 [.slice q us.length cp,str u] B (.int .i64 (Zdw us u)):=by
 refine Zc 20 Tryz.func37 rfl rfl rfl (Nat.le_of_ble_eq_true rfl) ?_
 have hun:=hu.len
 refine Za (xA (h:=Zl (Za (xA (h:=Zp (ZQ (α:=Nat) [0,1] (fun k=>[(5,.int .i64 k)]) [] (fun k=>[]) (fun k Bx=>Bx=B∧k≤us.length∧∀x,x∈us.take k→x.name≠u) (fun k=>us.length - k) 0 t1 rfl (⟨rfl,Nat.zero_le _,by simp⟩) (fun k B1 hle1 hI=>?_)))))))
 obtain ⟨rfl,hk,ha⟩:=hI
 refine ZO [(0,_),(1,_),(5,_)] [] t3 rfl (Zl (Za (xM (h:=xM (h:=xV Tryz.underlying23 (h:=Zag (h:=Zd rfl (fun g1=>?_) (fun g1=>?_))))))))
 try simp only [sQ,ne_eq] at g1
 refine Zj (Zf (Zl (Zp (Za (xM (h:=xM (h:=?_)))))))
 obtain ⟨x,hx⟩:=Zaj (xs:=us) (i:=k) om
 obtain ⟨bb3,oo3,rfl⟩:=hu.base hx
 obtain ⟨_,⟨rfl,hb4,hb4b⟩,hc4⟩:=hu.elem hx
 refine xIx Tryz.underlying23 ZeK (h:=xW Zc0 (h:=y1 lk9 hc4 0 (h:=xM (h:=Zc4 (h:=Zd rfl (fun g2=>?_) (fun g2=>?_))))))
 try simp only [sQ,ne_eq] at g2
 refine Za (xM (h:=xA (h:=Zh (ZE (Zs (Z0 (ZE (Zs ?_))))))))
 exact ZY .ret (.inl rfl) [_] t1 ⟨Za3 (ZrY hx g2 ha).symm,rfl,rfl⟩
 try simp only [sQ,ne_eq] at g2
 refine Zj (Zz (Zf (Ze (xM (h:=xD (h:=xA (h:=?_)))))))
 exact ZB (k+1) [] so2 ⟨rfl,oz,Zbi hx ha g2⟩ t3 rfl
 try simp only [sQ,ne_eq] at g1
 refine ZT (Zah (ZZ (ZH (Zf (Za (xA (h:=Zh ?_)))))))
 exact ZY .ret (.inl rfl) [_] t1 ⟨Za3 (Zqa (Zbq oz ha)).symm,rfl,rfl⟩

set_option maxHeartbeats 400000 in
theorem Zms (q q':Option Addr) (cp cp':Nat) (xs ys:List Str) (B:Kn) (ha:SlK B q cp 1 Zaz xs) (hb:SlK B q' cp' 1 Zaz ys):ZaL (pj J) 45 [.slice q xs.length cp,.slice q' ys.length cp'] B (.bool (decide (xs=ys))):=by
 refine Zc 26 Tryz.func45 rfl rfl rfl (Nat.le_of_ble_eq_true rfl) ?_
 have han:=ha.len
 have hbn:=hb.len
 refine Za (xA (h:=Zl (Za (xM (h:=xV Tryz.underlying39 (h:=xM (h:=xV Tryz.underlying39 (h:=ZbR (h:=Zd rfl (fun g1=>?_) (fun g1=>?_))))))))))
 try simp only [sQ,ne_eq] at g1
 refine Za (xA (h:=Zh (Zs ?_)))
 exact ZY .ret (.inl rfl) [_] t1 ⟨Zk (ZiQ g1),rfl,rfl⟩
 try simp only [sQ,ne_eq] at g1
 refine Zj (Zf (Zl (Za (xA (h:=Zp (ZQ (α:=Nat) [0,1,10] (fun k=>[(5,.int .i64 k)]) [] (fun k=>[]) (fun k Bx=>Bx=B∧k≤xs.length∧xs.take k=ys.take k) (fun k=>xs.length - k) 0 t1 rfl (⟨rfl,Nat.zero_le _,by simp⟩) (fun k B1 hle1 hI=>?_)))))))
 obtain ⟨rfl,hk,he⟩:=hI
 refine ZO [(0,_),(1,_),(5,_),(10,_)] [] t4 rfl (Zl (Za (xM (h:=xM (h:=xV Tryz.underlying39 (h:=Zag (h:=Zd rfl (fun g2=>?_) (fun g2=>?_))))))))
 try simp only [sQ,ne_eq] at g2
 refine Zj (Zf (Zl (Zp (Zl (Z8 (same _ _) mo kr ⟨rfl,rfl⟩ (fun _ _=>?_))))))
 refine aM 0 rfl (h:=aM 1 rfl (h:=?_))
 obtain ⟨x,hx⟩:=Zaj (xs:=xs) (i:=k) om
 obtain ⟨bb3,oo3,rfl⟩:=ha.base hx
 obtain ⟨_,⟨rfl,hb4⟩,hc4⟩:=ha.elem hx
 refine aIx 2 rfl Tryz.underlying39 sz9 (h:=aT 3 rfl (Zan fun D=>Zn rfl rfl lk9 rfl (hc4 _ 0 _ rfl) r4) (h:=aM 4 rfl (h:=aM 5 rfl (h:=?_))))
 obtain ⟨y,hy⟩:=Zaj (xs:=ys) (i:=k) om
 obtain ⟨bb6,oo6,rfl⟩:=hb.base hy
 obtain ⟨_,⟨rfl,hb7⟩,hc7⟩:=hb.elem hy
 refine aIx 6 rfl Tryz.underlying39 sz9 (h:=aT 7 rfl (Zan fun D=>Zn rfl rfl lk9 rfl (hc7 _ 0 _ rfl) r4) (h:=ZvO 8 rfl (h:=ZC kr kr ?_)))
 refine Zf (Zd rfl (fun g3=>?_) (fun g3=>?_))
 try simp only [sQ,ne_eq] at g3
 refine Za (xA (h:=Zh (ZE (Zs (Z0 (ZE (Zs ?_)))))))
 exact ZY .ret (.inl rfl) [_] t1 ⟨Zk (Zgu hx hy g3),rfl,rfl⟩
 try simp only [sQ,ne_eq] at g3
 refine Zj (Zz (Zf (Ze (xM (h:=xD (h:=xA (h:=?_)))))))
 exact ZB (k+1) [] so2 ⟨rfl,oz,Zcj hx hy g3 he⟩ t4 rfl
 try simp only [sQ,ne_eq] at g2
 refine ZT (Zah (ZZ (ZH (Zf (Za (xA (h:=Zh ?_)))))))
 exact ZY .ret (.inl rfl) [_] t1 ⟨Zk (eqT oz oz he),rfl,rfl⟩

set_option maxHeartbeats 400000 in
theorem ZnG (q:Option Addr) (cp:Nat) (xs:List Str) (u:Str) (B:Kn) (ha:SlK B q cp 1 Zaz xs):ZaL (pj J) 122 [.slice q xs.length cp,str u] B (.bool (decide (u∈xs))):=by
 refine Zc 18 Tryz.func122 rfl rfl rfl (Nat.le_of_ble_eq_true rfl) ?_
 have han:=ha.len
 refine Za (xA (h:=Zl (Za (xA (h:=Zp (ZQ (α:=Nat) [0,1] (fun k=>[(5,.int .i64 k)]) [] (fun k=>[]) (fun k Bx=>Bx=B∧k≤xs.length∧∀x,x∈xs.take k→x≠u) (fun k=>xs.length - k) 0 t1 rfl (⟨rfl,Nat.zero_le _,by simp⟩) (fun k B1 hle1 hI=>?_)))))))
 obtain ⟨rfl,hk,hn⟩:=hI
 refine ZO [(0,_),(1,_),(5,_)] [] t3 rfl (Zl (Za (xM (h:=xM (h:=xV Tryz.underlying39 (h:=Zag (h:=Zd rfl (fun g1=>?_) (fun g1=>?_))))))))
 try simp only [sQ,ne_eq] at g1
 refine Zj (Zf (Zl (Zp (Za (xM (h:=xM (h:=?_)))))))
 obtain ⟨x,hx⟩:=Zaj (xs:=xs) (i:=k) om
 obtain ⟨bb3,oo3,rfl⟩:=ha.base hx
 obtain ⟨_,⟨rfl,hb4⟩,hc4⟩:=ha.elem hx
 refine xIx Tryz.underlying39 sz9 (h:=y1 lk9 hc4 0 (h:=xM (h:=Zc4 (h:=Zd rfl (fun g2=>?_) (fun g2=>?_)))))
 try simp only [sQ,ne_eq] at g2
 refine Za (xA (h:=Zh (ZE (Zs (Z0 (ZE (Zs ?_)))))))
 exact ZY .ret (.inl rfl) [_] t1 ⟨Zk (Zx5 hx g2),rfl,rfl⟩
 try simp only [sQ,ne_eq] at g2
 refine Zj (Zz (Zf (Ze (xM (h:=xD (h:=xA (h:=?_)))))))
 exact ZB (k+1) [] so2 ⟨rfl,oz,Zbi hx hn g2⟩ t3 rfl
 try simp only [sQ,ne_eq] at g1
 refine ZT (Zah (ZZ (ZH (Zf (Za (xA (h:=Zh ?_)))))))
 exact ZY .ret (.inl rfl) [_] t1 ⟨Zk (Zx6 (Zbq oz hn)),rfl,rfl⟩

set_option maxHeartbeats 400000 in
theorem Zow (q:Option Addr) (cp:Nat) (xs:List Str) (B:Kn) (ha:SlK B q cp 1 Zaz xs):ZaL (pj J) 76 [.slice q xs.length cp] B (.bool (Zcu xs)):=by
 refine Zc 29 Tryz.func76 rfl rfl rfl (Nat.le_of_ble_eq_true rfl) ?_
 have han:=ha.len
 refine Za (xA (h:=Zl (Za (xA (h:=Zp (ZQ (α:=Nat) [0] (fun k=>[(3,.int .i64 k)]) [] (fun k=>[]) (fun k Bx=>Bx=B∧k≤xs.length∧(xs.take k).all ZaA=true∧(xs.take k).Nodup) (fun k=>xs.length - k) 0 t1 rfl (⟨rfl,Nat.zero_le _,by simp,by simp⟩) (fun k B1 hle1 hI=>?_)))))))
 obtain ⟨rfl,hk,hv,hn⟩:=hI
 refine ZO [(0,_),(3,_)] [] t2 rfl (Zl (Za (xM (h:=xM (h:=xV Tryz.underlying39 (h:=Zag (h:=Zd rfl (fun g1=>?_) (fun g1=>?_))))))))
 try simp only [sQ,ne_eq] at g1
 refine Zj (Zf (Zl (Zp (Zl (Z8 (same _ _) mo kr ⟨rfl,rfl⟩ (fun _ _=>?_))))))
 refine aM 0 rfl (h:=aM 1 rfl (h:=?_))
 obtain ⟨x,hx⟩:=Zaj (xs:=xs) (i:=k) om
 obtain ⟨bb3,oo3,rfl⟩:=ha.base hx
 obtain ⟨_,⟨rfl,hb4⟩,hc4⟩:=ha.elem hx
 refine aIx 2 rfl Tryz.underlying39 sz9 (h:=aT 3 rfl (Zan fun D=>Zn rfl rfl lk9 rfl (hc4 _ 0 _ rfl) r4) (h:=aT 4 rfl (Zan fun D=>ZaS rfl rfl Zsh rfl (ZbW _ om2 _) r4) (h:=?_)))
 refine aN 5 rfl (h:=aM 6 rfl (h:=ZaI (d:=16) rfl (fun g2=>?_) (fun g2=>?_)))
 try simp only [sQ,ne_eq] at g2
 refine aZ 7 rfl (h:=aZ 8 rfl (h:=aZ 9 rfl (h:=aZ 10 rfl (h:=aZ 11 rfl (h:=aZ 12 rfl (h:=aZ 13 rfl (h:=aZ 14 rfl (h:=aPT 15 rfl (h:=ZC kr kr ?_)))))))))
 refine Zf (Zd (t:=true) rfl (fun _=>Za (xA (h:=Zh (ZE (Zs (Z0 (ZE (Zs ?_)))))))) (fun h=>Bool.noConfusion h))
 exact ZY .ret (.inl rfl) [_] t1 ⟨Zk (Zhe hx g2),rfl,rfl⟩
 try simp only [sQ,ne_eq] at g2
 refine aM 7 rfl (h:=aM 8 rfl (h:=?_))
 obtain ⟨hq6,q6,cp6,hv6,hr6⟩:=ha.cutE 0 k om om
 have hr6n:=hr6.len
 refine aT 9 rfl (Zan fun D=>Zg4 (a:=0) (b:=k) hv6 om hq6 rfl rfl Tryz.underlying39 sz9 rfl rfl ⟨_,_,rfl,by first | omega | (simp;done) | (simp;omega)⟩ r4) (h:=?_)
 refine aM 10 rfl (h:=aM 11 rfl (h:=aIx 12 rfl Tryz.underlying39 sz9 (h:=aT 13 rfl (Zan fun D=>Zn rfl rfl lk9 rfl (hc4 _ 0 _ rfl) r4) (h:=aT 14 rfl (Zan fun D=>ZaS rfl rfl ZvB rfl (ZnG _ _ _ _ _ hr6) r4) (h:=aPF 15 rfl (h:=ZC kr kr ?_))))))
 refine Zf (Zd rfl (fun g3=>?_) (fun g3=>?_))
 try simp only [sQ,ne_eq] at g3
 refine Za (xA (h:=Zh (ZE (Zs (Z0 (ZE (Zs ?_)))))))
 exact ZY .ret (.inl rfl) [_] t1 ⟨Zk (Zhd hx (by simpa using g3)),rfl,rfl⟩
 try simp only [sQ,ne_eq] at g3
 refine Zj (Zz (Zf (Ze (xM (h:=xD (h:=xA (h:=?_)))))))
 exact ZB (k+1) [] so2 ⟨rfl,oz,Zi5 hx g2 hv,ZpR hx hn (by simpa using g3)⟩ t2 rfl
 try simp only [sQ,ne_eq] at g1
 refine ZT (Zah (ZZ (ZH (Zf (Za (xM (h:=xV Tryz.underlying39 (h:=ZcG (h:=xA (h:=Zh ?_))))))))))
 exact ZY .ret (.inl rfl) [_] t1 ⟨Zk (Zik oz hv hn),rfl,rfl⟩

set_option maxHeartbeats 400000 in
theorem ZeV (q:Option Addr) (cp:Nat) (x:DLetter) (B:Kn) (ha:SlK B q cp 1 Zaz x.to_) (h1:x.fr.length≤2000000) (h2:x.text.length≤2000000):ZaL (pj J) 35 [.agg #[str x.fr,.slice q x.to_.length cp,str x.text]] B (.bool (Zar x)):=by
 refine Zc 23 Tryz.func35 rfl rfl rfl (Nat.le_of_ble_eq_true rfl) ?_
 refine Za (xBx [_,_,_] (h:=fun b1=>xA (h:=Zv [_] rfl (Za (xW Zhk (h:=x1 lk9 0 (h:=xR Zsh rfl (ZbW _ om2 _) (h:=?_))))))))
 refine xM (h:=Zt (d:=6) rfl (fun g1=>?_) (fun g1=>?_))
 try simp only [sQ,ne_eq] at g1
 refine xW Zgs (h:=x1 ZfP 0 (h:=xR Zyp rfl (Zow _ _ _ _ ha) (h:=xT (h:=xM (h:=Zt (d:=11) rfl (fun g2=>?_) (fun g2=>?_))))))
 try simp only [sQ,ne_eq] at g2
 refine xW Zgs (h:=x1 ZfP 0 (h:=xV Tryz.underlying39 (h:=ZbM (h:=xT (h:=xM (h:=Zt (d:=17) rfl (fun g3=>?_) (fun g3=>?_)))))))
 try simp only [sQ,ne_eq] at g3
 refine xW ZnL (h:=x1 lk9 0 (h:=xVs Tryz.underlying9 (h:=ZcG (h:=xT (h:=xA (h:=Zh ?_))))))
 exact ZY .ret (.inl rfl) [_] t1 ⟨Zk (by rw [Bool.eq_iff_iff];simp [Zar,g1,g2,g3];try omega),rfl,rfl⟩
 try simp only [sQ,ne_eq] at g3
 refine xP (h:=xP (h:=xP (h:=xP (h:=xF (h:=xA (h:=Zh ?_))))))
 exact ZY .ret (.inl rfl) [_] t1 ⟨Zk (by rw [Bool.eq_iff_iff];simp [Zar,g1,g2,g3];try omega),rfl,rfl⟩
 try simp only [sQ,ne_eq] at g2
 refine xP (h:=xP (h:=xP (h:=xP (h:=xF (h:=xM (h:=xP (h:=xP (h:=xP (h:=xP (h:=xF (h:=xA (h:=Zh ?_))))))))))))
 exact ZY .ret (.inl rfl) [_] t1 ⟨Zk (by rw [Bool.eq_iff_iff];simp [Zar,g1,g2];try omega),rfl,rfl⟩
 try simp only [sQ,ne_eq] at g1
 refine xP (h:=xP (h:=xP (h:=xF (h:=xM (h:=xP (h:=xP (h:=xP (h:=xP (h:=xF (h:=xM (h:=xP (h:=xP (h:=?_)))))))))))))
 refine xP (h:=xP (h:=xF (h:=xA (h:=Zh ?_))))
 exact ZY .ret (.inl rfl) [_] t1 ⟨Zk (by rw [Bool.eq_iff_iff];simp [Zar,g1];try omega),rfl,rfl⟩

set_option maxHeartbeats 400000 in
theorem ZtN (q:Option Addr) (cp:Nat) (xs:List Str) (v:Str) (B:Kn) (ha:SlK B q cp 1 Zaz xs):ZaL (pj J) 161 [.slice q xs.length cp,str v] B (.int .i64 (ZwE xs v)):=by
 refine Zc 19 Tryz.func161 rfl rfl rfl (Nat.le_of_ble_eq_true rfl) ?_
 have han:=ha.len
 refine Za (xA (h:=Zl (Za (xM (h:=xV Tryz.underlying39 (h:=xM (h:=Zp (ZQ (α:=Nat) [0,1,7] (fun k=>[(8,.int .i64 k)]) [] (fun k=>[]) (fun k Bx=>Bx=B∧k≤xs.length∧∀x,x∈xs.take k→decide (x=v)=false) (fun k=>xs.length - k) 0 t1 rfl (⟨rfl,Nat.zero_le _,by simp⟩) (fun k B1 hle1 hI=>?_)))))))))
 obtain ⟨rfl,hk,hn⟩:=hI
 refine ZO [(0,_),(1,_),(7,_),(8,_)] [] t4 rfl (Za (Zag (h:=Zl (Zd rfl (fun g1=>?_) (fun g1=>?_)))))
 try simp only [sQ,ne_eq] at g1
 refine Zj (Zf (Zl (Zp (Za (xM (h:=xA (h:=Za (xM (h:=xM (h:=xM (h:=?_)))))))))))
 obtain ⟨x,hx⟩:=Zaj (xs:=xs) (i:=k) om
 obtain ⟨bb3,oo3,rfl⟩:=ha.base hx
 obtain ⟨_,⟨rfl,hb4⟩,hc4⟩:=ha.elem hx
 refine xIx Tryz.underlying39 sz9 (h:=y1 lk9 hc4 0 (h:=Zc4 (h:=Zd rfl (fun g2=>?_) (fun g2=>?_))))
 try simp only [sQ,ne_eq] at g2
 refine Za (xM (h:=xA (h:=Zh (ZE (Zs (Z0 (ZE (Zs ?_))))))))
 exact ZY .ret (.inl rfl) [_] t1 ⟨Za3 (ZhF hx (by simp [g2]) hn).symm,rfl,rfl⟩
 try simp only [sQ,ne_eq] at g2
 refine Zj (Zz (Zf (Ze (xD (h:=xM (h:=?_))))))
 exact ZB (k+1) [] so2 ⟨rfl,oz,Zbi hx hn (by simp [Ne.symm g2])⟩ t4 rfl
 try simp only [sQ,ne_eq] at g1
 refine ZT (Zah (ZZ (ZH (Zf (Za (xA (h:=Zh ?_)))))))
 exact ZY .ret (.inl rfl) [_] t1 ⟨Za3 (Ze5 (Zbq oz hn)).symm,rfl,rfl⟩

set_option maxHeartbeats 400000 in
theorem ZoS (q:Option Addr) (cp:Nat) (xs:List Str) (v:Str) (B:Kn) (ha:SlK B q cp 1 Zaz xs):ZaL (pj J) 119 [.slice q xs.length cp,str v] B (.bool (decide (v∈xs))):=by
 refine Zc 9 Tryz.func119 rfl rfl rfl (Nat.le_of_ble_eq_true rfl) ?_
 refine Za (xA (h:=Za (xM (h:=xM (h:=xR Zw7 rfl (ZtN _ _ _ _ _ ha) (h:=Zd8 (h:=xA (h:=Zh ?_))))))))
 exact ZY .ret (.inl rfl) [_] t1 ⟨Zk (by rw [Bool.eq_iff_iff];simp [ZrZ]),rfl,rfl⟩

set_option maxHeartbeats 400000 in
theorem Zmu (q:Option Addr) (cp:Nat) (xs:List Str) (B:Kn) (ha:SlK B q cp 1 Zaz xs):ZaL (pj J) 73 [.slice q xs.length cp] B (.bool (decide (1≤xs.length) && Zcu xs)):=by
 refine Zc 31 Tryz.func73 rfl rfl rfl (Nat.le_of_ble_eq_true rfl) ?_
 have han:=ha.len
 refine Za (xA (h:=Zl (Za (xM (h:=xV Tryz.underlying39 (h:=Zag (h:=xM (h:=Zt (d:=8) rfl (fun g1=>?_) (fun g1=>?_)))))))))
 try simp only [sQ,ne_eq] at g1
 refine xP (h:=xP (h:=xP (h:=xT (h:=Zd (t:=true) rfl (fun _=>Za (xA (h:=Zh (Zs ?_)))) (fun h=>Bool.noConfusion h)))))
 exact ZY .ret (.inl rfl) [_] t1 ⟨Zk (by simp;omega),rfl,rfl⟩
 try simp only [sQ,ne_eq] at g1
 refine xM (h:=xV Tryz.underlying39 (h:=ZbM (h:=xF (h:=Zd rfl (fun g2=>?_) (fun g2=>?_)))))
 try simp only [sQ,ne_eq] at g2
 refine Za (xA (h:=Zh (Zs ?_)))
 exact ZY .ret (.inl rfl) [_] t1 ⟨Zk (by simp [Zcu];omega),rfl,rfl⟩
 try simp only [sQ,ne_eq] at g2
 refine Zj (Zf (Zl (Za (xM (h:=xV Tryz.underlying39 (h:=xM (h:=Zp (ZQ (α:=Nat) [0,12,13,14] (fun k=>[(15,.int .i64 k)]) [] (fun k=>[]) (fun k Bx=>Bx=B∧k≤xs.length∧(xs.take k).all ZaA=true∧(xs.take k).Nodup) (fun k=>xs.length - k) 0 t1 rfl (⟨rfl,Nat.zero_le _,by simp,by simp⟩) (fun k B1 hle1 hI=>?_)))))))))
 obtain ⟨rfl,hk,hv,hn⟩:=hI
 refine ZO [(0,_),(12,_),(13,_),(14,_),(15,_)] [] t5 rfl (Za (Zag (h:=Zl (Zd rfl (fun g3=>?_) (fun g3=>?_)))))
 try simp only [sQ,ne_eq] at g3
 refine Zj (Zf (Zl (Zp (Za (xM (h:=?_))))))
 obtain ⟨x,hx⟩:=Zaj (xs:=xs) (i:=k) om
 obtain ⟨bb3,oo3,rfl⟩:=ha.base hx
 obtain ⟨_,⟨rfl,hb4⟩,hc4⟩:=ha.elem hx
 refine xIx Tryz.underlying39 sz9 (h:=y1 lk9 hc4 0 (h:=xA (h:=xA (h:=Za (xM (h:=xR Zuy rfl (Zdh _ om2 _) (h:=?_)))))))
 refine xN (h:=xM (h:=Zt (d:=23) rfl (fun g4=>?_) (fun g4=>?_)))
 try simp only [sQ,ne_eq] at g4
 refine xP (h:=xP (h:=xP (h:=xP (h:=xP (h:=xT (h:=Zd (t:=true) rfl (fun _=>Za (xA (h:=Zh (ZE (Zs (Z0 (ZE (Zs ?_)))))))) (fun h=>Bool.noConfusion h)))))))
 exact ZY .ret (.inl rfl) [_] t1 ⟨Zk (by rw [← Zhe hx g4,Bool.and_false]),rfl,rfl⟩
 try simp only [sQ,ne_eq] at g4
 refine xM (h:=xM (h:=?_))
 obtain ⟨hq6,q6,cp6,hv6,hr6⟩:=ha.cutE 0 k om om
 have hr6n:=hr6.len
 refine Zo (Zg4 (a:=0) (b:=k) hv6 om hq6 rfl rfl Tryz.underlying39 sz9 rfl rfl ⟨_,_,rfl,by first | omega | (simp;done) | (simp;omega)⟩ ?_)
 refine xM (h:=xR Zxo rfl (ZoS _ _ _ _ _ hr6) (h:=xF (h:=Zd rfl (fun g5=>?_) (fun g5=>?_))))
 try simp only [sQ,ne_eq] at g5
 refine Za (xA (h:=Zh (ZE (Zs (Z0 (ZE (Zs ?_)))))))
 exact ZY .ret (.inl rfl) [_] t1 ⟨Zk (by rw [← Zhd hx (by simpa using g5),Bool.and_false]),rfl,rfl⟩
 try simp only [sQ,ne_eq] at g5
 refine Zj (Zz (Zf (Ze (xD (h:=xM (h:=?_))))))
 exact ZB (k+1) [] so2 ⟨rfl,oz,Zi5 hx g4 hv,ZpR hx hn (by simpa using g5)⟩ t5 rfl
 try simp only [sQ,ne_eq] at g3
 refine ZT (Zah (ZZ (ZH (Zf (Za (xA (h:=Zh ?_)))))))
 exact ZY .ret (.inl rfl) [_] t1 ⟨Zk (by rw [← Zik oz hv hn];simp;omega),rfl,rfl⟩

set_option maxHeartbeats 400000 in
theorem Ze4 (q:Option Addr) (cp:Nat) (x:DLetter) (B:Kn) (ha:SlK B q cp 1 Zaz x.to_) (h1:x.fr.length≤2000000) (h2:x.text.length≤2000000):ZaL (pj J) 32 [.agg #[str x.fr,.slice q x.to_.length cp,str x.text]] B (.bool (Zar x)):=by
 refine Zc 17 Tryz.func32 rfl rfl rfl (Nat.le_of_ble_eq_true rfl) ?_
 refine Za (xBx [_,_,_] (h:=fun b1=>xA (h:=Zv [_] rfl (Za (xW Zhk (h:=x1 lk9 0 (h:=xR Zuy rfl (Zdh _ om2 _) (h:=?_))))))))
 refine xM (h:=Zt (d:=6) rfl (fun g1=>?_) (fun g1=>?_))
 try simp only [sQ,ne_eq] at g1
 refine xW Zgs (h:=x1 ZfP 0 (h:=xR Zyq rfl (Zmu _ _ _ _ ha) (h:=xT (h:=xM (h:=Zt (d:=11) rfl (fun g2=>?_) (fun g2=>?_))))))
 try simp only [sQ,ne_eq] at g2
 refine xW ZnL (h:=x1 lk9 0 (h:=xVs Tryz.underlying9 (h:=ZcG (h:=xT (h:=xA (h:=Zh ?_))))))
 exact ZY .ret (.inl rfl) [_] t1 ⟨Zk (by rw [Ze1];simp [g1,g2]),rfl,rfl⟩
 try simp only [sQ,ne_eq] at g2
 refine xP (h:=xP (h:=xP (h:=xP (h:=xF (h:=xA (h:=Zh ?_))))))
 exact ZY .ret (.inl rfl) [_] t1 ⟨Zk (by rw [Ze1];simp [g1,g2]),rfl,rfl⟩
 try simp only [sQ,ne_eq] at g1
 refine xP (h:=xP (h:=xP (h:=xF (h:=xM (h:=xP (h:=xP (h:=xP (h:=xP (h:=xF (h:=xA (h:=Zh ?_)))))))))))
 exact ZY .ret (.inl rfl) [_] t1 ⟨Zk (by rw [Ze1];simp [g1]),rfl,rfl⟩

set_option maxHeartbeats 400000 in
theorem ZmE (b:Nat) (q:Option Addr) (m cp p:Nat) (hp:p≤900000000000) (hm:m≤2000) (B:Kn) (hbm:Zat B q m):Ex1 (pj J) 95 [ptr ⟨b,0,none⟩] B (rd b q m cp p) (fun v s=>∃x:Str,v=str x∧x.length≤40∧s=rd b q m cp (p+2)):=by
 refine Zc 12 Tryz.func95 rfl rfl rfl (Nat.le_of_ble_eq_true rfl) ?_
 refine Za (xA (h:=Zl (Za (xM (h:=xX 0 rfl Za9 rfl (ZP _ _ _ _ _ _ oz oz oz hm _ hbm) (h:=?_))))))
 rintro _ _ ⟨r1,rfl,r1a,r1b,rfl⟩
 refine ZI (h:=Zv [_] rfl (Zd rfl (fun g1=>?_) (fun g1=>?_)))
 try simp only [sQ,ne_eq] at g1
 refine Za (xM (h:=xBs [(0,_),(1,_),(2,_),(3,_),(4,_),(5,_),(6,_),(7,_),(8,_)] [_,_,_,_,_,_,_,_,_] Tryz.underlying39 sz9 zo9 (h:=fun b2=>Zo (Z4 [0,1] rfl rfl rfl rfl ZoP rfl (Zrb _ _ _ _ _ _ ([[],[46],[97,46,46,98],[97,46,98,46,99,46,100],[97,46,98,46,99],[97,98,99,100,101,102,103,104,46,97,98,99,100,101,102,103,104,46,97,98,99],[97,98,99,100,101,102,103,104,46,97,98,99,100,101,102,103,104,46,97,98],[104,111,115,116,46],[72,111,115,116,46,111,114,103]]:List Str) oz (by decide) (by decide) hm _ hbm) ?_))))
 rintro _ B3 _ hle3 ⟨rfl,x3,hx3,rfl,rfl⟩
 replace hx3:=(show∀y∈( ([[],[46],[97,46,46,98],[97,46,98,46,99,46,100],[97,46,98,46,99],[97,98,99,100,101,102,103,104,46,97,98,99,100,101,102,103,104,46,97,98,99],[97,98,99,100,101,102,103,104,46,97,98,99,100,101,102,103,104,46,97,98],[104,111,115,116,46],[72,111,115,116,46,111,114,103]]:List Str):List Str),y.length≤40 from by decide) _ hx3
 refine xA (h:=Zv [_,_] rfl (Zh (Zs ?_)))
 exact ZiT .ret (.inl rfl) [_] 0 rfl t1 ⟨rfl,_,rfl,_,rfl,hx3,rfl⟩
 try simp only [sQ,ne_eq] at g1
 refine Zj (Zf (Za (xM (h:=xBs [(0,_),(1,_),(2,_),(3,_)] [_,_,_,_] Tryz.underlying39 sz9 zo9 (h:=fun b4=>Zo (Z4 [0,1] rfl rfl rfl rfl ZoP rfl (Zrb _ _ _ _ _ _ ([[104,111,115,116,46,111,114,103],[104,111,115,116],[97,46,98,46,99],[111,116,104,101,114,46,110,101,116]]:List Str) oz (by decide) (by decide) hm _ hbm) ?_))))))
 rintro _ B5 _ hle5 ⟨rfl,x5,hx5,rfl,rfl⟩
 replace hx5:=(show∀y∈( ([[104,111,115,116,46,111,114,103],[104,111,115,116],[97,46,98,46,99],[111,116,104,101,114,46,110,101,116]]:List Str):List Str),y.length≤40 from by decide) _ hx5
 refine xA (h:=Zv [_,_] rfl (Zh ?_))
 exact ZiT .ret (.inl rfl) [_] 0 rfl t1 ⟨rfl,_,rfl,_,rfl,hx5,rfl⟩

set_option maxHeartbeats 400000 in
theorem Zic (aa:Option Addr) (ca:Nat) (a:DQueue) (ab:Option Addr) (cb:Nat) (b:DQueue) (B:Kn) (ha:SlK B aa ca 4 Zi a.items) (hb:SlK B ab cb 4 Zi b.items):ZaL (pj J) 17 [.agg #[.int .i64 a.next,.slice aa a.items.length ca],.agg #[.int .i64 b.next,.slice ab b.items.length cb]] B (.bool (decide (a=b))):=by
 refine Zc 66 Tryz.func17 rfl rfl rfl (Nat.le_of_ble_eq_true rfl) ?_
 have han:=ha.len
 have hbn:=hb.len
 refine Za (xBx [_,_] (h:=fun b1=>xBx [_,_] (h:=fun b2=>xA (h:=Zv [_,_] rfl (Zl (Za (xW ZcF (h:=x1 lk3 0 (h:=xW ZcF (h:=x1 lk3 1 (h:=ZbR (h:=xM (h:=?_)))))))))))))
 refine Zt (d:=13) rfl (fun g1=>?_) (fun g1=>?_)
 try simp only [sQ,ne_eq] at g1
 refine xP (h:=xP (h:=xP (h:=xP (h:=xP (h:=xP (h:=xP (h:=xT (h:=Zd (t:=true) rfl (fun _=>Za (xA (h:=Zh (Zs ?_)))) (fun h=>Bool.noConfusion h)))))))))
 exact ZY .ret (.inl rfl) [_] t1 ⟨Zk (by symm;rw [decide_eq_false_iff_not];rintro rfl;exact g1 rfl),rfl,rfl⟩
 try simp only [sQ,ne_eq] at g1
 refine xW Zap (h:=x1 Zd7 0 (h:=xV Tryz.underlying25 (h:=xW Zap (h:=x1 Zd7 1 (h:=xV Tryz.underlying25 (h:=ZbR (h:=xF (h:=Zd rfl (fun g2=>?_) (fun g2=>?_)))))))))
 try simp only [sQ,ne_eq] at g2
 refine Za (xA (h:=Zh (Zs ?_)))
 exact ZY .ret (.inl rfl) [_] t1 ⟨Zk (by symm;rw [decide_eq_false_iff_not];rintro rfl;exact g2 rfl),rfl,rfl⟩
 try simp only [sQ,ne_eq] at g2
 refine Zj (Zf (Zl (Za (xA (h:=Zp (ZQ (α:=Nat) [0,1,2,3,21] (fun k=>[(5,.int .i64 k)]) [] (fun k=>[]) (fun k Bx=>Bx=B∧k≤a.items.length∧a.items.take k=b.items.take k) (fun k=>a.items.length - k) 0 t1 rfl (⟨rfl,Nat.zero_le _,by simp⟩) (fun k B3 hle3 hI=>?_)))))))
 obtain ⟨rfl,hk,he⟩:=hI
 refine ZO [(0,_),(1,_),(2,_),(3,_),(5,_),(21,_)] [_,_] t6 rfl (Zl (Za (xM (h:=xW Zap (h:=x1 Zd7 0 (h:=xV Tryz.underlying25 (h:=Zag (h:=Zd rfl (fun g3=>?_) (fun g3=>?_)))))))))
 try simp only [sQ,ne_eq] at g3
 refine Zj (Zf (Zl (Zp (Za (xW Zap (h:=x1 Zd7 0 (h:=xM (h:=?_))))))))
 obtain ⟨x,hx⟩:=Zaj (xs:=a.items) (i:=k) om
 obtain ⟨bb5,oo5,rfl⟩:=ha.base hx
 obtain ⟨_,⟨qi6,ci6,rfl,hi6,hb6,hb6b⟩,hc6⟩:=ha.elem hx
 have hi6n:=hi6.len
 refine xIx Tryz.underlying25 Zde (h:=yL [_,_,_,_] ZhB hc6 0 (h:=xAl [_,_,_,_] ZfD (h:=fun b7=>xS [_,_,_,_] 2 [_,_,_,_] Zde (h:=Zv [_,_,_] rfl (Za (xW Zap (h:=x1 Zd7 1 (h:=xM (h:=?_)))))))))
 obtain ⟨y,hy⟩:=Zaj (xs:=b.items) (i:=k) om
 obtain ⟨bb9,oo9,rfl⟩:=hb.base hy
 obtain ⟨_,⟨qi10,ci10,rfl,hi10,hb10,hb10b⟩,hc10⟩:=hb.elem hy
 have hi10n:=hi10.len
 refine xIx Tryz.underlying25 Zde (h:=yL [_,_,_,_] ZhB hc10 0 (h:=xAl [_,_,_,_] ZfD (h:=fun b11=>xS [_,_,_,_] 3 [_,_,_,_] Zde (h:=Zv [_,_,_,_] rfl (Za (xW Zel (h:=x1 lk3 2 (h:=xW Zel (h:=x1 lk3 3 (h:=ZbR (h:=xM (h:=Zt (d:=44) rfl (fun g4=>?_) (fun g4=>?_)))))))))))))
 try simp only [sQ,ne_eq] at g4
 refine xP (h:=xP (h:=xP (h:=xP (h:=xP (h:=xT (h:=xM (h:=xP (h:=xP (h:=xP (h:=xP (h:=xP (h:=xT (h:=?_)))))))))))))
 refine xM (h:=xP (h:=xP (h:=xP (h:=xP (h:=xP (h:=xP (h:=xT (h:=Zd (t:=true) rfl (fun _=>Za (xA (h:=Zh (ZE (Zs (Z0 (ZE (Zs ?_)))))))) (fun h=>Bool.noConfusion h)))))))))
 exact ZY .ret (.inl rfl) [_] t1 ⟨Zk (Zhx hx hy (fun e=>g4 (by rw [e]))),rfl,rfl⟩
 try simp only [sQ,ne_eq] at g4
 refine xW ZjQ (h:=x1 lk9 2 (h:=xW ZjQ (h:=x1 lk9 3 (h:=Zg0 (h:=xF (h:=xM (h:=Zt (d:=51) rfl (fun g5=>?_) (fun g5=>?_))))))))
 try simp only [sQ,ne_eq] at g5
 refine xP (h:=xP (h:=xP (h:=xP (h:=xP (h:=xT (h:=xM (h:=xP (h:=xP (h:=xP (h:=xP (h:=xP (h:=xP (h:=?_)))))))))))))
 refine xT (h:=Zd (t:=true) rfl (fun _=>Za (xA (h:=Zh (ZE (Zs (Z0 (ZE (Zs ?_)))))))) (fun h=>Bool.noConfusion h))
 exact ZY .ret (.inl rfl) [_] t1 ⟨Zk (Zhx hx hy (fun e=>g5 (by rw [e]))),rfl,rfl⟩
 try simp only [sQ,ne_eq] at g5
 refine xW ZlI (h:=x1 lk9 2 (h:=xW ZlI (h:=x1 lk9 3 (h:=Zg0 (h:=xF (h:=xM (h:=Zt (d:=58) rfl (fun g6=>?_) (fun g6=>?_))))))))
 try simp only [sQ,ne_eq] at g6
 refine xP (h:=xP (h:=xP (h:=xP (h:=xP (h:=xP (h:=xT (h:=Zd (t:=true) rfl (fun _=>Za (xA (h:=Zh (ZE (Zs (Z0 (ZE (Zs ?_)))))))) (fun h=>Bool.noConfusion h))))))))
 exact ZY .ret (.inl rfl) [_] t1 ⟨Zk (Zhx hx hy (fun e=>g6 (by rw [e]))),rfl,rfl⟩
 try simp only [sQ,ne_eq] at g6
 refine xW Zbo (h:=x1 ZfP 2 (h:=xW Zbo (h:=x1 ZfP 3 (h:=xR ZyF rfl (Zms _ _ _ _ _ _ _ hi6 hi10) (h:=xN (h:=xF (h:=Zd rfl (fun g7=>?_) (fun g7=>?_))))))))
 try simp only [sQ,ne_eq] at g7
 refine Za (xA (h:=Zh (ZE (Zs (Z0 (ZE (Zs ?_)))))))
 exact ZY .ret (.inl rfl) [_] t1 ⟨Zk (Zhx hx hy (fun e=>g7 (by rw [e]))),rfl,rfl⟩
 try simp only [sQ,ne_eq] at g7
 refine Zj (Zz (Zf (Ze (xM (h:=xD (h:=xA (h:=?_)))))))
 exact ZB (k+1) [0,1] so2 ⟨rfl,oz,Zcj hx hy (by cases x;cases y;simp_all) he⟩ t6 rfl
 try simp only [sQ,ne_eq] at g3
 refine ZT (Zah (ZZ (ZH (Zf (Za (xA (h:=Zh ?_)))))))
 exact ZY .ret (.inl rfl) [_] t1 ⟨Zk (by symm;rw [decide_eq_true_eq];cases a;cases b;rw [DQueue.mk.injEq];exact ⟨g1,by have:=eqT (inst:=Classical.propDecidable _) oz oz he;simpa using this.symm⟩),rfl,rfl⟩

set_option maxHeartbeats 400000 in
theorem ZfJ (aq:Option Addr) (cq:Nat) (q:DQueue) (B:Kn) (hq:SlK B aq cq 4 Zi q.items):ZaL (pj J) 62 [.agg #[.int .i64 q.next,.slice aq q.items.length cq]] B (.bool (Zai q)):=by
 refine Zc 48 Tryz.func62 rfl rfl rfl (Nat.le_of_ble_eq_true rfl) ?_
 have hqn:=hq.len
 refine Za (xBx [_,_] (h:=fun b1=>xA (h:=Zv [_] rfl (Za (xA (h:=Zl (Za (xA (h:=Zp (ZQ (α:=Nat × Int) [0,1] (fun p=>[(3,.int .i64 p.2),(4,.int .i64 p.1)]) [] (fun p=>[]) (fun p Bx=>Bx=B∧p.1≤q.items.length∧ZcU 0 q.items=ZcU p.2 (q.items.drop p.1)∧0≤p.2∧p.2≤99) (fun p=>q.items.length - p.1) (0,0) t2 rfl (⟨rfl,Nat.zero_le _,rfl,by decide,by decide⟩) (fun p B2 hle2 hI=>?_)))))))))))
 obtain ⟨rfl,hk,hs,hl0,hl1⟩:=hI
 refine ZO [(0,_),(1,_),(3,_),(4,_)] [_] t4 rfl (Zl (Za (xM (h:=xW Zap (h:=x1 Zd7 0 (h:=xV Tryz.underlying25 (h:=Zag (h:=Zd rfl (fun g1=>?_) (fun g1=>?_)))))))))
 try simp only [sQ,ne_eq] at g1
 refine Zj (Zf (Zl (Zp (Za (xW Zap (h:=x1 Zd7 0 (h:=xM (h:=?_))))))))
 obtain ⟨x,hx⟩:=Zaj (xs:=q.items) (i:=p.1) om
 obtain ⟨bb4,oo4,rfl⟩:=hq.base hx
 obtain ⟨_,⟨qi5,ci5,rfl,hi5,hb5,hb5b⟩,hc5⟩:=hq.elem hx
 have hi5n:=hi5.len
 refine xIx Tryz.underlying25 Zde (h:=?_)
 replace hs:=ZpD hs hx
 refine yL [_,_,_,_] ZhB hc5 0 (h:=xAl [_,_,_,_] ZfD (h:=fun b6=>xS [_,_,_,_] 1 [_,_,_,_] Zde (h:=Zv [_,_] rfl (Zl (Za (xW Zel (h:=x1 lk3 1 (h:=xM (h:=xD (h:=xR Zeo rfl (Zcl _ _ _ _) (h:=xN (h:=xM (h:=?_)))))))))))))
 refine Zt (d:=24) rfl (fun g2=>?_) (fun g2=>?_)
 try simp only [sQ,ne_eq] at g2
 refine xP (h:=xP (h:=xP (h:=xP (h:=xP (h:=xP (h:=xP (h:=xP (h:=xP (h:=xT (h:=Zd (t:=true) rfl (fun _=>Za (xA (h:=?_))) (fun h=>Bool.noConfusion h)))))))))))
 refine Zh (Zs (ZE (Zs (Z0 (ZE (Zs ?_))))))
 exact ZY .ret (.inl rfl) [_] t1 ⟨Zk (Znv (by rw [hs,if_neg];intro h;simp [h.1] at g2)),rfl,rfl⟩
 try simp only [sQ,ne_eq] at g2
 simp only [Bool.and_eq_true,decide_eq_true_eq] at g2
 refine xW ZjQ (h:=x1 lk9 1 (h:=xW Zbo (h:=x1 ZfP 1 (h:=xW ZlI (h:=x1 lk9 1 (h:=xB [(0,_),(1,_),(2,_)] [_,_,_] [_,_,_] ZvW Zrd (h:=xR ZwK rfl (ZeV _ _ ⟨x.fr,x.left,x.text⟩ _ hi5 oa oa) (h:=?_))))))))
 refine xN (h:=xF (h:=Zd rfl (fun g3=>?_) (fun g3=>?_)))
 try simp only [sQ,ne_eq] at g3
 refine Za (xA (h:=Zh (Zs (ZE (Zs (Z0 (ZE (Zs ?_))))))))
 exact ZY .ret (.inl rfl) [_] t1 ⟨Zk (Znv (by rw [hs,if_neg];intro h;rw [Zcw,g3] at h;cases h.2)),rfl,rfl⟩
 try simp only [sQ,ne_eq] at g3
 refine Zj (Zf (Ze (xW Zel (h:=x1 lk3 1 (h:=xA (h:=Zz (Zf (Ze (xM (h:=xD (h:=xA (h:=?_))))))))))))
 exact ZB (p.1+1,x.id) [0] so2 ⟨rfl,so,by rw [hs,if_pos ⟨g2,g3⟩],so,so⟩ t4 rfl
 try simp only [sQ,ne_eq] at g1
 rw [ZqI oz,ZcU] at hs
 refine ZT (Zah (ZZ (ZH (Zf (Za (xW ZcF (h:=x1 lk3 0 (h:=xM (h:=xD (h:=xR Zeo rfl (Zcl _ _ _ _) (h:=xM (h:=Zt (d:=42) rfl (fun g1=>?_) (fun g1=>?_)))))))))))))
 try simp only [sQ,ne_eq] at g1
 refine xW Zap (h:=x1 Zd7 0 (h:=xV Tryz.underlying25 (h:=ZcG (h:=xT (h:=xA (h:=Zh ?_))))))
 exact ZY .ret (.inl rfl) [_] t1 ⟨Zk (by rw [← Znu hs,Bool.eq_iff_iff];simp [g1,g1];try omega),rfl,rfl⟩
 try simp only [sQ,ne_eq] at g1
 refine xP (h:=xP (h:=xP (h:=xP (h:=xF (h:=xA (h:=Zh ?_))))))
 exact ZY .ret (.inl rfl) [_] t1 ⟨Zk (by rw [← Znu hs,Bool.eq_iff_iff];simp [g1,g1];try omega),rfl,rfl⟩

set_option maxHeartbeats 400000 in
theorem ZrS (l:Str) (n:Nat) (hl:l.length*n≤100000) (hn:n≤100000) (hl2:l.length≤100000) (B:Kn):ZaL (pj J) 117 [str l,.int .i64 n] B (str (rep l n)):=by
 refine Zc 20 Tryz.func117 rfl rfl rfl (Nat.le_of_ble_eq_true rfl) ?_
 refine Za (xA (h:=Za (xA (h:=Zl (Zp (ZQ (α:=Str × Str × Nat) [4] (fun p=>[(0,str p.1),(1,.int .i64 p.2.2),(5,str p.2.1)]) [] (fun p=>[]) (fun p Bx=>Bx=B∧rep l n=p.2.1 ++ rep p.1 p.2.2∧p.2.2≤n∧p.1.length≤200000∧p.2.1.length≤100000∧(0<p.2.2→p.1.length≤100000)) (fun p=>p.2.2) (l,[],n) t3 rfl (⟨rfl,rfl,Nat.le_refl _,so,by simp,fun _=>hl2⟩) (fun p B1 hle1 hI=>?_)))))))
 obtain ⟨rfl,hr,h1,h2,h3,h4⟩:=hI
 have hrl:=congrArg List.length hr
 rw [List.length_append,Zke,Zke,Nat.mul_comm] at hrl
 refine ZO [(0,_),(1,_),(4,_),(5,_)] [] t4 rfl (Zl (Za (xM (h:=ZbM (h:=Zd rfl (fun g1=>?_) (fun g1=>?_))))))
 try simp only [sQ,ne_eq] at g1
 have hp0:0<p.2.2:=by omega
 replace h4:=h4 hp0
 have hm1:=Nat.le_mul_of_pos_left p.1.length hp0
 have e1:Int.tdiv (p.2.2:Int) 2=((p.2.2 / 2:Nat):Int):=by rw [Int.tdiv_eq_ediv_of_nonneg oz];omega
 have e2:Int.tmod (p.2.2:Int) 2=((p.2.2 % 2:Nat):Int):=by rw [Int.tmod_eq_emod_of_nonneg oz];omega
 refine Zj (Zf (Zp (Zl (Za (xM (h:=Zo (Zhp rfl rfl rfl rfl oz rfl ?_)))))))
 refine ZI (h:=Zd rfl (fun g2=>?_) (fun g2=>?_))
 try simp only [sQ,ne_eq] at g2
 rw [e2] at g2
 have hro:=Ztq p.1 p.2.2 oz
 have hol:=Zke (p.1 ++ p.1) (p.2.2 / 2)
 refine Ze (xM (h:=xM (h:=Zo (Ztb rfl rfl rfl rfl (by first | omega | (simp;omega)) ?_))))
 refine xA (h:=Zf (Za (xM (h:=xM (h:=Zo (Ztb rfl rfl rfl rfl (by first | omega | (simp;omega)) ?_))))))
 refine xA (h:=Ze (xM (h:=Zo (ZhR rfl rfl rfl rfl oz (by first | exact ZaX om om | rfl) ?_))))
 refine xA (h:=Zz ?_)
 exact ZB (p.1 ++ p.1,p.2.1 ++ p.1,p.2.2 / 2) [] so2 ⟨rfl,by rw [hr,hro,List.append_assoc],so,by simp only [List.length_append];omega,by simp only [List.length_append];omega,fun h=>by simp only [List.length_append] at h ⊢;have:=Nat.mul_le_mul_right p.1.length (show 2≤p.2.2 by omega);omega⟩ t4 rfl
 try simp only [sQ,ne_eq] at g2
 rw [e2] at g2
 have hro:=Zrv p.1 p.2.2 oz
 refine Zj (Zf (Za (xM (h:=xM (h:=Zo (Ztb rfl rfl rfl rfl (by first | omega | (simp;omega)) ?_))))))
 refine xA (h:=Ze (xM (h:=Zo (ZhR rfl rfl rfl rfl oz (by first | exact ZaX om om | rfl) ?_))))
 refine xA (h:=Zz ?_)
 exact ZB (p.1 ++ p.1,p.2.1,p.2.2 / 2) [] so2 ⟨rfl,by rw [hr,hro],so,by simp only [List.length_append];omega,h3,fun h=>by simp only [List.length_append] at h ⊢;have:=Nat.mul_le_mul_right p.1.length (show 2≤p.2.2 by omega);omega⟩ t4 rfl
 try simp only [sQ,ne_eq] at g1
 refine ZT (Zah (ZZ (ZH (Zf (Za (xM (h:=xA (h:=Zh ?_))))))))
 exact ZY .ret (.inl rfl) [_] t1 ⟨Zu7 (by rw [hr,show p.2.2=0 from by omega];simp [rep]),rfl,rfl⟩

set_option maxHeartbeats 400000 in
theorem Ze2 (b:Nat) (q:Option Addr) (m cp p:Nat) (hp:p≤900000000000) (hm:m≤2000) (B:Kn) (hbm:Zat B q m):Ex1 (pj J) 71 [ptr ⟨b,0,none⟩] B (rd b q m cp p) (fun v s=>∃x:Str,v=str x∧x.length≤40∧s=rd b q m cp (p+2)):=by
 refine Zc 13 Tryz.func71 rfl rfl rfl (Nat.le_of_ble_eq_true rfl) ?_
 refine Za (xA (h:=Zl (Za (xM (h:=xX 0 rfl Za9 rfl (ZP _ _ _ _ _ _ oz oz oz hm _ hbm) (h:=?_))))))
 rintro _ _ ⟨r1,rfl,r1a,r1b,rfl⟩
 refine ZI (h:=Zv [_] rfl (Zd rfl (fun g1=>?_) (fun g1=>?_)))
 try simp only [sQ,ne_eq] at g1
 refine Za (xM (h:=xX 0 rfl Za9 rfl (ZP _ _ _ _ _ _ oz oz oz hm _ hbm) (h:=?_)))
 rintro _ _ ⟨ra,rfl,raa,rab,rfl⟩
 refine xD (h:=?_)
 obtain ⟨n3,hn3⟩:=Int.eq_ofNat_of_zero_le (show 0≤19+ra by omega)
 rw [hn3]
 refine xR Zxq rfl (ZrS [120] n3 (by simp;omega) oz (by decide) _) (h:=?_)
 refine xA (h:=Zv [_] rfl (Zh (Zs ?_)))
 exact ZiT .ret (.inl rfl) [_] 0 rfl t1 ⟨rfl,_,rfl,_,rfl,by rw [Zke];simp;omega,rfl⟩
 try simp only [sQ,ne_eq] at g1
 refine Zj (Zf (Za (xM (h:=xBs [(0,_),(1,_),(2,_),(3,_),(4,_),(5,_)] [_,_,_,_,_,_] Tryz.underlying39 sz9 zo9 (h:=fun b4=>Zo (Z4 [0,1] rfl rfl rfl rfl ZoP rfl (Zrb _ _ _ _ _ _ ([[],[104,101,108,108,111],[97,109,121,32,97,110,100,32,98,111,98],[120],[98,111,120,49,32,111,114,32,120],[116,111,32,98,111,98]]:List Str) oz (by decide) (by decide) hm _ hbm) ?_))))))
 rintro _ B5 _ hle5 ⟨rfl,x5,hx5,rfl,rfl⟩
 replace hx5:=(show∀y∈( ([[],[104,101,108,108,111],[97,109,121,32,97,110,100,32,98,111,98],[120],[98,111,120,49,32,111,114,32,120],[116,111,32,98,111,98]]:List Str):List Str),y.length≤40 from by decide) _ hx5
 refine xA (h:=Zv [_,_] rfl (Zh ?_))
 exact ZiT .ret (.inl rfl) [_] 0 rfl t1 ⟨rfl,_,rfl,_,rfl,hx5,rfl⟩

set_option maxHeartbeats 400000 in
theorem ZtF (b:Nat) (q:Option Addr) (m cp p:Nat) (hp:p≤900000000000) (hm:m≤2000) (B:Kn) (hbm:Zat B q m):ZA (pj J) 70 [ptr ⟨b,0,none⟩] B [rd b q m cp p] (fun v B' Ls=>∃q' cp' xs p',v = .slice q' xs.length cp'∧SlK B' q' cp' 1 Zaz xs∧xs.length≤6∧p'≤p+6∧Ls=[rd b q m cp p']):=by
 refine Zc 53 Tryz.func70 rfl rfl rfl (Nat.le_of_ble_eq_true rfl) ?_
 refine Za (xA (h:=Za (xBs [] [] Tryz.underlying39 sz9 zo9 (h:=fun b1=>xA (h:=Zv [_,_] rfl (Za (xBs [(0,_),(1,_),(2,_),(3,_)] [_,_,_,_] Tryz.underlying39 sz9 zo9 (h:=fun b2=>xA (h:=Zv [_,_,_] rfl (ZdK 2 rfl (Z2.strs (ls:=([[97,109,121],[98,111,98],[99,121,100],[100,97,110]]:List Str)) (by first | decide | (simp;done) | (simp;omega))) Zaz.mono om3 (fun B3 hle3 hr3=>?_)))))))))))
 replace hbm:=hbm.mono hle3
 have hr3n:=hr3.len
 refine Zl (Za (xA (h:=Zv [_,_,_] rfl (Zp (ZQ (α:=Gh Str) [0,2,4] (fun x=>[(3,.slice x.a x.xs.length x.c),(5,.int .i64 x.k)]) [0,1] (fun x=>[rd b q m cp x.p,x.l]) (fun x Bx=>Bx=B3∧x.k≤3∧x.xs.length≤x.k∧x.p≤p+x.k∧Z2 Bx x.l x.a x.c 9 1 Zaz x.xs) (fun x=>3 - x.k) ⟨0,p,_,_,_,[]⟩ t2 rfl (⟨rfl,Nat.zero_le _,Nat.le_refl _,Nat.le_refl _,.lit0⟩) (fun x B4 hle4 hI=>?_))))))
 obtain ⟨rfl,hk,hxk,hxp,hv⟩:=hI
 refine ZO [(0,_),(2,_),(3,_),(4,_),(5,_)] [_,_,_] t5 rfl (Zl (Za (xM (h:=Zag (h:=Zd rfl (fun g1=>?_) (fun g1=>?_))))))
 try simp only [sQ,ne_eq] at g1
 refine Zj (Zf (Zl (Zp (Za (xM (h:=xX 0 rfl Za9 rfl (ZP _ _ _ _ _ _ oz oz oz hm _ hbm) (h:=?_)))))))
 rintro _ _ ⟨r5,rfl,r5a,r5b,rfl⟩
 refine ZI (h:=Zv [_,_,_] rfl (Zd rfl (fun g2=>?_) (fun g2=>?_)))
 try simp only [sQ,ne_eq] at g2
 refine Ze (xM (h:=xM (h:=xM (h:=?_))))
 obtain ⟨y,hy⟩:=Zaj (xs:=([[97,109,121],[98,111,98],[99,121,100],[100,97,110]]:List Str)) (i:=x.k) om
 obtain ⟨_,⟨rfl,hb7⟩,hc7⟩:=hr3.elem hy
 refine xIx Tryz.underlying39 sz9 (h:=y1 lk9 hc7 0 (h:=xBs [(0,_)] [_] Tryz.underlying39 sz9 zo9 (h:=fun b8=>Zo (Zba (z:=y) (R:=Zaz) 1 rfl hv rfl rfl rfl ZnO Znk rfl rfl (ZaM.box 3 rfl) rfl rfl (⟨rfl,by first | assumption | omega | (simp;done) | (simp;omega)⟩) om (fun l9 p9 c9 hv9=>?_)))))
 refine xA (h:=Zz (Zf (Ze (xM (h:=xD (h:=xA (h:=?_)))))))
 exact ZB ⟨x.k+1,(x.p+1),l9,p9,c9,(x.xs ++ [y])⟩ [0,1,2] so2 ⟨rfl,so,by simp;omega,so,hv9⟩ t5 rfl
 try simp only [sQ,ne_eq] at g2
 refine Zj (Zz (Zf (Ze (xM (h:=xD (h:=xA (h:=?_)))))))
 exact ZB ⟨x.k+1,(x.p+1),x.l,x.a,x.c,x.xs⟩ [0,1,2] so2 ⟨rfl,so,so,so,hv⟩ t5 rfl
 try simp only [sQ,ne_eq] at g1
 refine ZT (Zah (ZZ (ZH (Zf (Zl (Za (xM (h:=xV Tryz.underlying39 (h:=ZI (h:=Zd rfl (fun g3=>?_) (fun g3=>?_)))))))))))
 try simp only [sQ,ne_eq] at g3
 refine Ze (xM (h:=xM (h:=xM (h:=xX 0 rfl Za9 rfl (ZP _ _ _ _ _ _ oz oz oz hm _ hbm) (h:=?_)))))
 rintro _ _ ⟨r10,rfl,r10a,r10b,rfl⟩
 obtain ⟨z,hz⟩:=ZeP (xs:=([[97,109,121],[98,111,98],[99,121,100],[100,97,110]]:List Str)) (i:=r10) om om
 obtain ⟨_,⟨rfl,hb12⟩,hc12⟩:=hr3.elem hz
 refine xIx Tryz.underlying39 sz9 (h:=y1 lk9 hc12 0 (h:=xBs [(0,_)] [_] Tryz.underlying39 sz9 zo9 (h:=fun b13=>Zo (Zba (z:=z) (R:=Zaz) 1 rfl hv rfl rfl rfl ZnO Znk rfl rfl (ZaM.box 3 rfl) rfl rfl (⟨rfl,by first | assumption | omega | (simp;done) | (simp;omega)⟩) om (fun l14 p14 c14 hv14=>?_)))))
 refine xA (h:=Zf (Zl (Za (xM (h:=xX 0 rfl Za9 rfl (ZP _ _ _ _ _ _ oz oz oz hm _ hbm) (h:=?_))))))
 rintro _ _ ⟨r15,rfl,r15a,r15b,rfl⟩
 refine Zv [_,_,_,_] rfl (Zp (Za (ZI (h:=xA (h:=Zd rfl (fun g4=>?_) (fun g4=>?_))))))
 try simp only [sQ,ne_eq] at g4
 refine Ze (xM (h:=xM (h:=?_)))
 obtain ⟨w,hw⟩:=Zaj (xs:=(x.xs ++ [z])) (i:=0) om
 obtain ⟨bb17,_,hp17,⟨rfl,hb17⟩,hw17,hc17⟩:=hv14.row hw
 refine xIp hp17 Tryz.underlying39 sz9 (h:=Zo (Zn rfl rfl lk9 rfl (hc17 _ 1 rfl 0 _ rfl) (xBs [(0,_)] [_] Tryz.underlying39 sz9 zo9 (h:=fun b18=>Zo (Zba (z:=w) (R:=Zaz) 1 rfl hv14 rfl rfl rfl ZnO Znk rfl rfl (ZaM.box 4 rfl) rfl rfl (⟨rfl,by first | assumption | omega | (simp;done) | (simp;omega)⟩) om (fun l19 p19 c19 hv19=>?_))))))
 refine xA (h:=Zz (Zf (ZdK 1 rfl hv19 Zaz.mono om3 (fun B20 hle20 hr20=>?_))))
 replace hr3:=hr3.mono Zaz.mono hle20
 replace hbm:=hbm.mono hle20
 have hr20n:=hr20.len
 refine Za (xM (h:=xA (h:=Zv [_,_,_,_,_] rfl (Zh ?_))))
 exact Zad .ret (.inl rfl) [_] [0] rfl t1 ⟨_,_,_,_,rfl,hr20,by first | omega | (simp;done) | (simp;omega),oz,rfl⟩
 try simp only [sQ,ne_eq] at g4
 refine Za (ZI (h:=xA (h:=Zd rfl (fun g5=>?_) (fun g5=>?_))))
 try simp only [sQ,ne_eq] at g5
 refine Ze (xM (h:=Zo (Zfh rfl rfl Tryz.underlying39 sz9 rfl (a:=0) (b:=0) rfl ⟨_,_,rfl,rfl⟩ oz oz ?_)))
 refine xA (h:=Zz (Zf (Za (xM (h:=xA (h:=Zh ?_))))))
 exact Zad .ret (.inl rfl) [_] [0] rfl t1 ⟨_,_,[],_,rfl,SlK.nil,Nat.zero_le _,oz,rfl⟩
 try simp only [sQ,ne_eq] at g5
 refine Za (ZI (h:=xA (h:=Zd rfl (fun g6=>?_) (fun g6=>?_))))
 try simp only [sQ,ne_eq] at g6
 refine Ze (xM (h:=xBs [(0,_),(1,_)] [_,_] Tryz.underlying39 sz9 zo9 (h:=fun b21=>Zo (Zne (rows:=(([[100,97,110],[101,118,101]]:List Str)).map fun x=>[str x]) (ys:=([[100,97,110],[101,118,101]]:List Str)) (R:=Zaz) 1 rfl hv14 rfl rfl rfl ZnO Znk rfl rfl rfl (ZaM.box 4 rfl) rfl ZuE (Zuq (by decide)) om (fun l22 p22 c22 hv22=>?_)))))
 refine xA (h:=Zz (Zf (ZdK 1 rfl hv22 Zaz.mono om3 (fun B23 hle23 hr23=>?_))))
 replace hr3:=hr3.mono Zaz.mono hle23
 replace hbm:=hbm.mono hle23
 have hr23n:=hr23.len
 refine Za (xM (h:=xA (h:=Zv [_,_,_,_,_] rfl (Zh ?_))))
 exact Zad .ret (.inl rfl) [_] [0] rfl t1 ⟨_,_,_,_,rfl,hr23,by first | omega | (simp;done) | (simp;omega),oz,rfl⟩
 try simp only [sQ,ne_eq] at g6
 refine Zj (Zz (Zf (ZdK 1 rfl hv14 Zaz.mono om3 (fun B24 hle24 hr24=>?_))))
 replace hr3:=hr3.mono Zaz.mono hle24
 replace hbm:=hbm.mono hle24
 have hr24n:=hr24.len
 refine Za (xM (h:=xA (h:=Zv [_,_,_,_] rfl (Zh ?_))))
 exact Zad .ret (.inl rfl) [_] [0] rfl t1 ⟨_,_,_,_,rfl,hr24,by first | omega | (simp;done) | (simp;omega),oz,rfl⟩
 try simp only [sQ,ne_eq] at g3
 refine Zj (Zf (Zl (Za (xM (h:=xX 0 rfl Za9 rfl (ZP _ _ _ _ _ _ oz oz oz hm _ hbm) (h:=?_))))))
 rintro _ _ ⟨r25,rfl,r25a,r25b,rfl⟩
 refine Zv [_,_,_] rfl (Zp (Za (ZI (h:=xA (h:=Zd rfl (fun g4=>?_) (fun g4=>?_))))))
 try simp only [sQ,ne_eq] at g4
 refine Ze (xM (h:=xM (h:=?_)))
 obtain ⟨w,hw⟩:=Zaj (xs:=x.xs) (i:=0) om
 obtain ⟨bb27,_,hp27,⟨rfl,hb27⟩,hw27,hc27⟩:=hv.row hw
 refine xIp hp27 Tryz.underlying39 sz9 (h:=Zo (Zn rfl rfl lk9 rfl (hc27 _ 1 rfl 0 _ rfl) (xBs [(0,_)] [_] Tryz.underlying39 sz9 zo9 (h:=fun b28=>Zo (Zba (z:=w) (R:=Zaz) 1 rfl hv rfl rfl rfl ZnO Znk rfl rfl (ZaM.box 3 rfl) rfl rfl (⟨rfl,by first | assumption | omega | (simp;done) | (simp;omega)⟩) om (fun l29 p29 c29 hv29=>?_))))))
 refine xA (h:=Zz (Zf (ZdK 1 rfl hv29 Zaz.mono om3 (fun B30 hle30 hr30=>?_))))
 replace hr3:=hr3.mono Zaz.mono hle30
 replace hbm:=hbm.mono hle30
 have hr30n:=hr30.len
 refine Za (xM (h:=xA (h:=Zv [_,_,_,_] rfl (Zh ?_))))
 exact Zad .ret (.inl rfl) [_] [0] rfl t1 ⟨_,_,_,_,rfl,hr30,by first | omega | (simp;done) | (simp;omega),oz,rfl⟩
 try simp only [sQ,ne_eq] at g4
 refine Za (ZI (h:=xA (h:=Zd rfl (fun g5=>?_) (fun g5=>?_))))
 try simp only [sQ,ne_eq] at g5
 refine Ze (xM (h:=Zo (Zfh rfl rfl Tryz.underlying39 sz9 rfl (a:=0) (b:=0) rfl ⟨_,_,rfl,rfl⟩ oz oz ?_)))
 refine xA (h:=Zz (Zf (Za (xM (h:=xA (h:=Zh ?_))))))
 exact Zad .ret (.inl rfl) [_] [0] rfl t1 ⟨_,_,[],_,rfl,SlK.nil,Nat.zero_le _,oz,rfl⟩
 try simp only [sQ,ne_eq] at g5
 refine Za (ZI (h:=xA (h:=Zd rfl (fun g6=>?_) (fun g6=>?_))))
 try simp only [sQ,ne_eq] at g6
 refine Ze (xM (h:=xBs [(0,_),(1,_)] [_,_] Tryz.underlying39 sz9 zo9 (h:=fun b31=>Zo (Zne (rows:=(([[100,97,110],[101,118,101]]:List Str)).map fun x=>[str x]) (ys:=([[100,97,110],[101,118,101]]:List Str)) (R:=Zaz) 1 rfl hv rfl rfl rfl ZnO Znk rfl rfl rfl (ZaM.box 3 rfl) rfl ZuE (Zuq (by decide)) om (fun l32 p32 c32 hv32=>?_)))))
 refine xA (h:=Zz (Zf (ZdK 1 rfl hv32 Zaz.mono om3 (fun B33 hle33 hr33=>?_))))
 replace hr3:=hr3.mono Zaz.mono hle33
 replace hbm:=hbm.mono hle33
 have hr33n:=hr33.len
 refine Za (xM (h:=xA (h:=Zv [_,_,_,_] rfl (Zh ?_))))
 exact Zad .ret (.inl rfl) [_] [0] rfl t1 ⟨_,_,_,_,rfl,hr33,by first | omega | (simp;done) | (simp;omega),oz,rfl⟩
 try simp only [sQ,ne_eq] at g6
 refine Zj (Zz (Zf (ZdK 1 rfl hv Zaz.mono om3 (fun B34 hle34 hr34=>?_))))
 replace hr3:=hr3.mono Zaz.mono hle34
 replace hbm:=hbm.mono hle34
 have hr34n:=hr34.len
 refine Za (xM (h:=xA (h:=Zv [_,_,_] rfl (Zh ?_))))
 exact Zad .ret (.inl rfl) [_] [0] rfl t1 ⟨_,_,_,_,rfl,hr34,by first | omega | (simp;done) | (simp;omega),oz,rfl⟩

set_option maxHeartbeats 400000 in
theorem ZaC (aq:Option Addr) (cq:Nat) (q:DQueue) (B:Kn) (hq:SlK B aq cq 4 Zi q.items):ZA (pj J) 77 [.agg #[.int .i64 q.next,.slice aq q.items.length cq]] B [] (fun v B' Ls=>∃l a cp,Ls=[l]∧v = .agg #[.int .i64 q.next,.slice a q.items.length cp]∧Z2 (B'.less B) l a cp 88 4 Zi q.items):=by
 refine Zc 34 Tryz.func77 rfl rfl rfl (Nat.le_of_ble_eq_true rfl) ?_
 have hqn:=hq.len
 refine Za (xBx [_,_] (h:=fun b1=>xAl [_,_] Zfr (h:=fun b2=>Zv [_,_] rfl (Za (xW ZcF (h:=x1 lk3 0 (h:=xBs [] [] Tryz.underlying25 Zde ZfD (h:=fun b3=>xB [(0,_),(1,_)] [_,_] [_,_] Zra Zfr (h:=xAl [_,_] Zfr (h:=fun b4=>xS [_,_] 3 [_,_] Zdo (h:=Zv [_,_,_,_] rfl (Zl ?_))))))))))))
 refine Za (xA (h:=Zp (ZQ (α:=Gh DItem) [0,1,2,3] (fun g=>[(4,.int .i64 g.k)]) [2,3] (fun g=>[g.l,ZaE b4 [.int .i64 q.next,.slice g.a g.xs.length g.c] 27]) (fun g Bx=>g.k≤q.items.length∧g.xs=q.items.take g.k∧Z2 (Bx.less B) g.l g.a g.c 88 4 Zi g.xs) (fun g=>q.items.length - g.k) ⟨0,0,_,_,_,[]⟩ t1 rfl (⟨Nat.zero_le _,rfl,.lit0⟩) (fun g B5 hle5 hI=>?_))))
 obtain ⟨hk,hxs,hv⟩:=hI
 have hxn:=congrArg List.length hxs
 rw [List.length_take] at hxn
 replace hq:=hq.mono Zi.mono hle5
 refine ZO [(0,_),(1,_),(2,_),(3,_),(4,_)] [_,_,_,_] t5 rfl (Zl (Za (xM (h:=xW Zap (h:=x1 Zd7 0 (h:=xV Tryz.underlying25 (h:=Zag (h:=Zd rfl (fun g1=>?_) (fun g1=>?_)))))))))
 try simp only [sQ,ne_eq] at g1
 refine Zj (Zf (Zl (Zp (Za (xW Zap (h:=x1 Zd7 0 (h:=xM (h:=?_))))))))
 obtain ⟨x,hx⟩:=Zaj (xs:=q.items) (i:=g.k) om
 obtain ⟨bb7,oo7,rfl⟩:=hq.base hx
 obtain ⟨_,⟨qi8,ci8,rfl,hi8,hb8,hb8b⟩,hc8⟩:=hq.elem hx
 have hi8n:=hi8.len
 refine xIx Tryz.underlying25 Zde (h:=yL [_,_,_,_] ZhB hc8 0 (h:=xAl [_,_,_,_] ZfD (h:=fun b9=>xS [_,_,_,_] 4 [_,_,_,_] Zde (h:=Zv [_,_,_,_,_] rfl (Za (xBs [] [] Tryz.underlying39 sz9 zo9 (h:=fun b10=>xW Zbo (h:=x1 ZfP 4 (h:=Zo (ZaN (R:=Zaz) 5 rfl (Z2.lit0 (R:=Zaz)) rfl rfl rfl ZnO Znk rfl rfl rfl hi8.rows Zaz.one rfl om (fun l11 p11 c11 hv11=>?_)))))))))))
 refine xW Zbo (h:=xS [_] 4 [_,_,_,_] Zuw (h:=Zv [_,_,_,_,_,_] rfl (Zo8 5 rfl hv11 Zaz.any om3 hle5 (fun B12 hle12 hr12f=>?_))))
 have hr12:=hr12f.mono Zaz.mono Kn.less_le
 replace hq:=hq.mono Zi.mono hle12
 replace hv:=hv.mono Zi.mono (Kn.less_mono hle12)
 have hr12n:=hr12.len
 refine Ze (xW Zap (h:=x1 Zd7 3 (h:=xL [_,_,_,_] ZhB 4 (h:=xBs [(0,_)] [_,_,_,_] Tryz.underlying25 Zde ZfD (h:=fun b13=>Zo (Zba (z:=⟨x.id,x.fr,x.text,x.left⟩) (R:=Zi) 2 rfl hv rfl rfl rfl Zt7 Ztm rfl rfl (ZaM.box 6 rfl) rfl rfl (⟨_,_,rfl,hr12f,by first | assumption | omega | (simp;done) | (simp;omega),by first | assumption | omega | (simp;done) | (simp;omega)⟩) om (fun l14 p14 c14 hv14=>?_)))))))
 refine xW Zap (h:=xS [_] 3 [_,_] Ztk (h:=Zz (Zf (Ze (xM (h:=xD (h:=xA (h:=?_))))))))
 exact ZB ⟨g.k+1,0,l14,p14,c14,(g.xs ++ [⟨x.id,x.fr,x.text,x.left⟩])⟩ [0,1,2,3] so2 ⟨so,by simp only [];rw [Zaw hx,hxs],hv14⟩ t5 rfl
 try simp only [sQ,ne_eq] at g1
 have hxe:g.xs=q.items:=by rw [hxs];exact List.take_of_length_le oz
 refine ZT (Zah (ZZ (ZH (Zf (Za (xL [_,_] Zb9 3 (h:=xS [_,_] 1 [_,_] Zdo (h:=Zv [_,_,_,_] rfl (Zh ?_)))))))))
 exact Zad .ret (.inl rfl) [_] [2] rfl ⟨⟨_,rfl,.inr ⟨[_,_],Zb9,Zaf 1 rfl rfl rfl,rfl⟩⟩,trivial⟩ ⟨_,_,_,rfl,by rw [← hxe];rfl,hxe ▸ hv⟩

set_option maxHeartbeats 400000 in
theorem Zge (aq:Option Addr) (cq:Nat) (q:DQueue) (qx:Option Addr) (cx:Nat) (x:DLetter) (B:Kn) (hq:SlK B aq cq 4 Zi q.items) (hx:SlK B qx cx 1 Zaz x.to_) (h1:x.fr.length≤2000000) (h2:x.text.length≤2000000):ZA (pj J) 39 [.agg #[.int .i64 q.next,.slice aq q.items.length cq],.agg #[str x.fr,.slice qx x.to_.length cx,str x.text]] B [] (fun v B' Ls=>(∃l a cp,Ls=[l]∧v = .tuple #[.agg #[.int .i64 (Zer q x).1.next,.slice a (Zer q x).1.items.length cp],.bool (Zer q x).2]∧Z2 (B'.less B) l a cp 88 4 Zi (Zer q x).1.items)):=by
 refine Zc 49 Tryz.func39 rfl rfl rfl (Nat.le_of_ble_eq_true rfl) ?_
 have hqn:=hq.len
 have hxn:=hx.len
 refine Za (xBx [_,_] (h:=fun b1=>xBx [_,_,_] (h:=fun b2=>xAl [_,_] Zfr (h:=fun b3=>xA (h:=Zv [_,_,_] rfl (Zl (Za (xL [_,_] Zb9 0 (h:=xR ZwJ rfl (ZfJ _ _ q _ hq) (h:=xN (h:=xM (h:=Zt (d:=10) rfl (fun g1=>?_) (fun g1=>?_)))))))))))))
 try simp only [sQ,ne_eq] at g1
 refine xP (h:=xP (h:=xP (h:=xT (h:=Zd (t:=true) rfl (fun _=>Za (xB [] [_,_] [_,_] Zra Zfr (h:=xS [_,_] 2 [_,_] Zdo (h:=xA (h:=Zv [_,_,_] rfl (Zh (Zs ?_))))))) (fun h=>Bool.noConfusion h)))))
 have he:=Zl4 (x:=x) g1
 exact Zsg .ret (.inl rfl) [_,_] ⟨⟨_,rfl,.inr ⟨[_,_],Zb9,Zaf 2 rfl rfl rfl,rfl⟩⟩,rfl,trivial⟩ ⟨_,none,0,rfl,by rw [he];rfl,by rw [he];exact Z2.nil⟩
 try simp only [sQ,ne_eq] at g1
 refine xL [_,_,_] Zmb 1 (h:=xR ZwK rfl (ZeV _ _ x _ hx oa oa) (h:=?_))
 refine xN (h:=xF (h:=Zd rfl (fun g2=>?_) (fun g2=>?_)))
 try simp only [sQ,ne_eq] at g2
 refine Za (xB [] [_,_] [_,_] Zra Zfr (h:=xS [_,_] 2 [_,_] Zdo (h:=xA (h:=Zv [_,_,_] rfl (Zh (Zs ?_))))))
 have he:=Zl3 (q:=q) g2
 exact Zsg .ret (.inl rfl) [_,_] ⟨⟨_,rfl,.inr ⟨[_,_],Zb9,Zaf 2 rfl rfl rfl,rfl⟩⟩,rfl,trivial⟩ ⟨_,none,0,rfl,by rw [he];rfl,by rw [he];exact Z2.nil⟩
 try simp only [sQ,ne_eq] at g2
 have hqb:=ZcW g1
 refine Zj (Zf (Za (xL [_,_] Zb9 0 (h:=Zo (Zaa rfl rfl ZjU rfl (ZaC _ _ q _ hq) ?_)))))
 rintro _ Bk _ hlek ⟨lk,ak,ck,rfl,rfl,hvk⟩
 replace hq:=hq.mono Zi.mono hlek
 replace hx:=hx.mono Zaz.mono hlek
 replace hvk:=hvk.mono Zi.mono (Kn.less_up (Kn.le.refl _) (Kn.le.refl _))
 refine xAl [_,_] Zfr (h:=fun b7=>xS [_,_] 4 [_,_] Zdo (h:=Zv [_,_,_,_,_] rfl (Zl (Za (xW Zap (h:=x1 Zd7 0 (h:=xV Tryz.underlying25 (h:=Zd8 (h:=xM (h:=Zt (d:=22) rfl (fun g3=>?_) (fun g3=>?_)))))))))))
 try simp only [sQ,ne_eq] at g3
 refine xP (h:=xP (h:=xP (h:=xT (h:=Zd (t:=true) rfl (fun _=>Za (xL [_,_] Zb9 4 (h:=xS [_,_] 2 [_,_] Zdo (h:=xA (h:=Zv [_,_,_,_,_] rfl (Zh (Zs ?_))))))) (fun h=>Bool.noConfusion h)))))
 have he:=Zgy g1 g2 (.inl oz)
 exact Zad .ret (.inl rfl) [_,_] [3] rfl ⟨⟨_,rfl,.inr ⟨[_,_],Zb9,Zaf 2 rfl rfl rfl,rfl⟩⟩,rfl,trivial⟩ ⟨_,_,_,rfl,by rw [he];rfl,by rw [he];exact hvk⟩
 try simp only [sQ,ne_eq] at g3
 refine xW ZcF (h:=x1 lk3 0 (h:=ZbM (h:=xF (h:=Zd rfl (fun g4=>?_) (fun g4=>?_)))))
 try simp only [sQ,ne_eq] at g4
 refine Za (xL [_,_] Zb9 4 (h:=xS [_,_] 2 [_,_] Zdo (h:=xA (h:=Zv [_,_,_,_,_] rfl (Zh (Zs ?_))))))
 have he:=Zgy g1 g2 (.inr oz)
 exact Zad .ret (.inl rfl) [_,_] [3] rfl ⟨⟨_,rfl,.inr ⟨[_,_],Zb9,Zaf 2 rfl rfl rfl,rfl⟩⟩,rfl,trivial⟩ ⟨_,_,_,rfl,by rw [he];rfl,by rw [he];exact hvk⟩
 try simp only [sQ,ne_eq] at g4
 refine Zj (Zf (Zl (Z8 (keeps _ [0,1,4] _) mo kr ⟨Kn.le.refl _,Zam.refl _ _⟩ (fun _ _=>?_))))
 refine aW 0 rfl Zap (h:=aT 1 rfl (ZG fun D B L hI=>Zn rfl rfl Zd7 rfl (atL 4 (hI.2.2.2.1.trans rfl) rfl rfl) r4) (h:=aW 2 rfl ZcF (h:=aT 3 rfl (ZG fun D B L hI=>Zn rfl rfl lk3 rfl (atL 0 (hI.2.1.trans rfl) rfl rfl) r4) (h:=aW 4 rfl Zhk (h:=aT 5 rfl (ZG fun D B L hI=>Zn rfl rfl lk9 rfl (atL 1 (hI.2.2.1.trans rfl) rfl rfl) r4) (h:=aW 6 rfl ZnL (h:=aT 7 rfl (ZG fun D B L hI=>Zn rfl rfl lk9 rfl (atL 1 (hI.2.2.1.trans rfl) rfl rfl) r4) (h:=aW 9 rfl Zgs (h:=aT 10 rfl (ZG fun D B L hI=>Zn rfl rfl ZfP rfl (atL 1 (hI.2.2.1.trans rfl) rfl rfl) r4) (h:=Zu 8 kr rfl kr (Zx (parts:=[]) [] rfl rfl Tryz.underlying39 sz9 zo9 rfl rfl rfl rfl rfl (fun b8=>?_))))))))))))
 refine ⟨⟨Kn.le.refl _,t3⟩,(Zu 11 kr rfl kr (ZaN (R:=Zaz) 5 rfl (Z2.lit0 (R:=Zaz)) rfl rfl rfl ZnO Znk rfl rfl rfl hx.rows Zaz.one rfl om (fun l9 p9 c9 hv9=>?_)))⟩
 refine ⟨⟨Kn.le.refl _,t3⟩,(ZvN 5 rfl hv9 Zaz.any om3 hlek (fun B' hle'=>⟨hle',t3⟩) (fun B10 hle10 hr10f=>?_))⟩
 have hr10:=hr10f.mono Zaz.mono Kn.less_le
 replace hq:=hq.mono Zi.mono hle10
 replace hx:=hx.mono Zaz.mono hle10
 replace hvk:=hvk.mono Zi.mono (Kn.less_mono hle10)
 have hr10n:=hr10.len
 refine aT 12 rfl (ZG fun D B L hI=>ZaH (parts:=[(0,_),(1,_),(2,_),(3,_)]) [_,_,_,_] [_,_,_,_] rfl rfl ZxI ZfD rfl rfl rfl r4) (h:=Zu 13 kr rfl kr (Zx (parts:=[(0,_)]) [_,_,_,_] rfl rfl Tryz.underlying25 Zde ZfD rfl rfl rfl rfl rfl (fun b11=>?_)))
 refine ⟨⟨hle10,t3⟩,(Zu 14 kr rfl kr (Zba (z:=⟨q.next,x.fr,x.text,x.to_⟩) (R:=Zi) 3 rfl hvk rfl rfl rfl Zt7 Ztm rfl rfl (ZaM.box 6 rfl) rfl rfl (⟨_,_,rfl,hr10f,by first | assumption | omega | (simp;done) | (simp;omega),by first | assumption | omega | (simp;done) | (simp;omega)⟩) om (fun l12 p12 c12 hv12=>?_)))⟩
 refine ⟨⟨hle10,t3⟩,(aW 15 rfl Zap (h:=ZV 16 kr rfl kr kr kr (ZN [_] 4 [_,_] rfl rfl Ztk rfl rfl rfl rfl rfl rfl rfl rfl ?_)))⟩
 refine Zf (Zv [_,_,_,_,_,_,_] rfl (Za (xW ZcF (h:=x1 lk3 0 (h:=xD (h:=xW ZcF (h:=xS [_] 4 [_,_] sz3 (h:=Zv [_,_,_,_,_,_,_] rfl (Za (xL [_,_] Zb9 4 (h:=xS [_,_] 2 [_,_] Zdo (h:=xA (h:=?_)))))))))))))
 refine Zv [_,_,_,_,_,_,_] rfl (Zh ?_)
 have he:=ZqX g1 g2 oz oz
 exact Zad .ret (.inl rfl) [_,_] [3] rfl ⟨⟨_,rfl,.inr ⟨[_,_],Zb9,Zaf 2 rfl rfl rfl,rfl⟩⟩,rfl,trivial⟩ ⟨_,_,_,rfl,by rw [he];rfl,by rw [he];exact hv12⟩

set_option maxHeartbeats 400000 in
theorem Zlv (q:Option Addr) (cp:Nat) (xs:List Str) (u:Str) (B:Kn) (ha:SlK B q cp 1 Zaz xs):ZA (pj J) 185 [.slice q xs.length cp,str u] B [] (fun v B' Ls=>Ls=[]∧∃a cp,v = .slice a (without xs u).length cp∧SlK (B'.less B) a cp 1 Zaz (without xs u)):=by
 refine Zc 28 Tryz.func185 rfl rfl rfl (Nat.le_of_ble_eq_true rfl) ?_
 have han:=ha.len
 refine Za (xA (h:=Za (xBs [] [] Tryz.underlying39 sz9 zo9 (h:=fun b1=>xA (h:=Zv [_] rfl (Zl (Za (xA (h:=Zp (ZQ (α:=Gh Str) [0,1,4] (fun g=>[(5,.slice g.a g.xs.length g.c),(6,.int .i64 g.k)]) [0] (fun g=>[g.l]) (fun g Bx=>Bx=B∧g.k≤xs.length∧g.xs=without (xs.take g.k) u∧g.xs.length≤g.k∧Z2 Bx g.l g.a g.c 9 1 Zaz g.xs) (fun g=>xs.length - g.k) ⟨0,0,_,_,_,[]⟩ t2 rfl (⟨rfl,Nat.zero_le _,rfl,Nat.le_refl _,.lit0⟩) (fun g B2 hle2 hI=>?_)))))))))))
 obtain ⟨rfl,hk,hxs,hgl,hv⟩:=hI
 refine ZO [(0,_),(1,_),(4,_),(5,_),(6,_)] [_] t5 rfl (Zl (Za (xM (h:=xM (h:=xV Tryz.underlying39 (h:=Zag (h:=Zd rfl (fun g1=>?_) (fun g1=>?_))))))))
 try simp only [sQ,ne_eq] at g1
 refine Zj (Zf (Zl (Zp (Za (xM (h:=xM (h:=?_)))))))
 obtain ⟨x,hx⟩:=Zaj (xs:=xs) (i:=g.k) om
 obtain ⟨bb4,oo4,rfl⟩:=ha.base hx
 obtain ⟨_,⟨rfl,hb5⟩,hc5⟩:=ha.elem hx
 refine xIx Tryz.underlying39 sz9 (h:=y1 lk9 hc5 0 (h:=xM (h:=Zg0 (h:=Zd rfl (fun g2=>?_) (fun g2=>?_)))))
 try simp only [sQ,ne_eq] at g2
 refine Ze (xM (h:=xM (h:=xM (h:=xIx Tryz.underlying39 sz9 (h:=y1 lk9 hc5 0 (h:=xBs [(0,_)] [_] Tryz.underlying39 sz9 zo9 (h:=fun b6=>Zo (Zba (z:=x) (R:=Zaz) 0 rfl hv rfl rfl rfl ZnO Znk rfl rfl (ZaM.box 1 rfl) rfl rfl (⟨rfl,by first | assumption | omega | (simp;done) | (simp;omega)⟩) om (fun l7 p7 c7 hv7=>?_)))))))))
 refine xA (h:=Zz (Zf (Ze (xM (h:=xD (h:=xA (h:=?_)))))))
 exact ZB ⟨g.k+1,0,l7,p7,c7,(g.xs ++ [x])⟩ [0] so2 ⟨rfl,so,by simp only [];rw [ZkM hx g2,hxs],by simp;omega,hv7⟩ t5 rfl
 try simp only [sQ,ne_eq] at g2
 refine Zj (Zz (Zf (Ze (xM (h:=xD (h:=xA (h:=?_)))))))
 exact ZB ⟨g.k+1,0,g.l,g.a,g.c,g.xs⟩ [0] so2 ⟨rfl,so,by simp only [];rw [ZkL hx g2,hxs],so,hv⟩ t5 rfl
 try simp only [sQ,ne_eq] at g1
 have hxe:g.xs=without xs u:=by rw [hxs,List.take_of_length_le oz]
 refine ZT (Zah (ZZ (ZH (Zf (Zo8 0 rfl hv Zaz.any om3 (Kn.le.refl _) (fun B8 hle8 hr8f=>?_))))))
 have hr8:=hr8f.mono Zaz.mono Kn.less_le
 replace ha:=ha.mono Zaz.mono hle8
 have hr8n:=hr8.len
 refine Za (xM (h:=xA (h:=Zv [_] rfl (Zh ?_))))
 exact Zad .ret (.inl rfl) [_] [] rfl t1 ⟨rfl,_,_,by rw [← hxe];rfl,hxe ▸ hr8f⟩

set_option maxHeartbeats 400000 in
theorem Zlw (aq:Option Addr) (cq:Nat) (q:DQueue) (id:Int) (u:Str) (B:Kn) (hq:SlK B aq cq 4 Zi q.items):ZA (pj J) 177 [.agg #[.int .i64 q.next,.slice aq q.items.length cq],.int .i64 id,str u] B [] (fun v B' Ls=>(∃l a cp,Ls=[l]∧v = .tuple #[.agg #[.int .i64 (Zb6 q id u).1.next,.slice a (Zb6 q id u).1.items.length cp],str (Zb6 q id u).2.1,.bool (Zb6 q id u).2.2]∧Z2 (B'.less B) l a cp 88 4 Zi (Zb6 q id u).1.items∧(Zb6 q id u).2.1.length≤2000000)):=by
 refine Zc 65 Tryz.func177 rfl rfl rfl (Nat.le_of_ble_eq_true rfl) ?_
 have hqn:=hq.len
 refine Za (xBx [_,_] (h:=fun b1=>xAl [_,_] Zfr (h:=fun b2=>xA (h:=xA (h:=Zv [_,_] rfl (Za (xW ZcF (h:=x1 lk3 0 (h:=xBs [] [] Tryz.underlying25 Zde ZfD (h:=fun b3=>xB [(0,_),(1,_)] [_,_] [_,_] Zra Zfr (h:=xAl [_,_] Zfr (h:=fun b4=>xS [_,_] 3 [_,_] Zdo (h:=?_)))))))))))))
 refine Zv [_,_,_,_] rfl (Za (xA (h:=Za (xA (h:=Zl (Za (xA (h:=Zp (ZQ (α:=Gh2 DItem (Str × Bool)) [0,1,2,3,6,7,8,9] (fun g=>[(10,str g.e.1),(11,.bool g.e.2),(12,.int .i64 g.k)]) [2,3] (fun g=>[g.l,ZaE b4 [.int .i64 q.next,.slice g.a g.xs.length g.c] 27]) (fun g Bx=>g.k≤q.items.length∧g.e=ZfH id u (q.items.take g.k)∧g.e.1.length≤2000000∧g.xs=ZeN id u (q.items.take g.k)∧Z2 (Bx.less B) g.l g.a g.c 88 4 Zi g.xs) (fun g=>q.items.length - g.k) ⟨0,0,_,_,_,[],([],false)⟩ t3 rfl (⟨Nat.zero_le _,rfl,Nat.zero_le _,rfl,.lit0⟩) (fun g B5 hle5 hI=>?_))))))))))
 obtain ⟨hk,he,htl,hxs,hv⟩:=hI
 have hxn:g.xs.length≤g.k:=by rw [hxs];exact Nat.le_trans (Zh1 _ _ _) (by rw [List.length_take];omega)
 replace hq:=hq.mono Zi.mono hle5
 refine ZO [(0,_),(1,_),(2,_),(3,_),(6,_),(7,_),(8,_),(9,_),(10,_),(11,_),(12,_)] [_,_,_,_] t11 rfl (Zl (Za (xM (h:=xW Zap (h:=x1 Zd7 0 (h:=xV Tryz.underlying25 (h:=Zag (h:=Zd rfl (fun g1=>?_) (fun g1=>?_)))))))))
 try simp only [sQ,ne_eq] at g1
 refine Zj (Zf (Zl (Zp (Za (xW Zap (h:=x1 Zd7 0 (h:=xM (h:=?_))))))))
 obtain ⟨x,hx⟩:=Zaj (xs:=q.items) (i:=g.k) om
 obtain ⟨bb7,oo7,rfl⟩:=hq.base hx
 obtain ⟨_,⟨qi8,ci8,rfl,hi8,hb8,hb8b⟩,hc8⟩:=hq.elem hx
 have hi8n:=hi8.len
 refine xIx Tryz.underlying25 Zde (h:=yL [_,_,_,_] ZhB hc8 0 (h:=xAl [_,_,_,_] ZfD (h:=fun b9=>xS [_,_,_,_] 4 [_,_,_,_] Zde (h:=Zv [_,_,_,_,_] rfl (Za (xBs [] [] Tryz.underlying39 sz9 zo9 (h:=fun b10=>xW Zbo (h:=x1 ZfP 4 (h:=Zo (ZaN (R:=Zaz) 5 rfl (Z2.lit0 (R:=Zaz)) rfl rfl rfl ZnO Znk rfl rfl rfl hi8.rows Zaz.one rfl om (fun l11 p11 c11 hv11=>?_)))))))))))
 refine xW Zbo (h:=xS [_] 4 [_,_,_,_] Zuw (h:=Zv [_,_,_,_,_,_] rfl (Zl (Zo8 5 rfl hv11 Zaz.any om3 hle5 (fun B12 hle12 hr12f=>?_)))))
 have hr12:=hr12f.mono Zaz.mono Kn.less_le
 replace hq:=hq.mono Zi.mono hle12
 replace hv:=hv.mono Zi.mono (Kn.less_mono hle12)
 have hr12n:=hr12.len
 refine Za (xW Zel (h:=x1 lk3 4 (h:=xM (h:=ZI (h:=xM (h:=Zt (d:=39) rfl (fun g2=>?_) (fun g2=>?_)))))))
 try simp only [sQ,ne_eq] at g2
 refine xW Zbo (h:=x1 ZfP 4 (h:=xM (h:=xR ZvB rfl (ZnG _ _ _ _ _ hr12) (h:=xT (h:=Zv [_,_,_,_,_,_] rfl (Zd rfl (fun g3=>?_) (fun g3=>?_)))))))
 try simp only [sQ,ne_eq] at g3
 have hwl:=ZhO x.left u
 refine Za (xA (h:=Za (xW ZlI (h:=x1 lk9 4 (h:=xA (h:=Ze (xW Zbo (h:=x1 ZfP 4 (h:=xM (h:=Zo (ZaG rfl rfl ZwT rfl (Zlv _ _ _ _ _ hr12) ?_)))))))))))
 intro v14 B14 hle14
 rintro ⟨a14,c14,rfl,hw14f⟩
 replace hq:=hq.mono Zi.mono hle14
 replace hr12:=hr12.mono Zaz.mono hle14
 replace hr12f:=hr12f.mono Zaz.mono (Kn.less_mono hle14)
 replace hv:=hv.mono Zi.mono (Kn.less_mono hle14)
 replace hw14f:=hw14f.mono Zaz.mono (Kn.less_up (hle5.trans hle12) (Kn.le.refl _))
 have hw14:=hw14f.mono Zaz.mono Kn.less_le
 refine xW Zbo (h:=xS [_] 4 [_,_,_,_] Zuw (h:=Zf (Za (xW Zbo (h:=x1 ZfP 4 (h:=xV Tryz.underlying39 (h:=ZbM (h:=Zv [_,_,_,_,_,_] rfl (Zd rfl (fun g4=>?_) (fun g4=>?_))))))))))
 try simp only [sQ,ne_eq] at g4
 refine Ze (xW Zap (h:=x1 Zd7 3 (h:=xL [_,_,_,_] ZhB 4 (h:=xBs [(0,_)] [_,_,_,_] Tryz.underlying25 Zde ZfD (h:=fun b15=>Zo (Zba (z:=⟨x.id,x.fr,x.text,(without x.left u)⟩) (R:=Zi) 2 rfl hv rfl rfl rfl Zt7 Ztm rfl rfl (ZaM.box 6 rfl) rfl rfl (⟨_,_,rfl,hw14f,by first | assumption | omega | (simp;done) | (simp;omega),by first | assumption | omega | (simp;done) | (simp;omega)⟩) om (fun l16 p16 c16 hv16=>?_)))))))
 refine xW Zap (h:=xS [_] 3 [_,_] Ztk (h:=Zz (Zf (Ze (xM (h:=xD (h:=xA (h:=?_))))))))
 exact ZB ⟨g.k+1,0,l16,p16,c16,(g.xs ++ [⟨x.id,x.fr,x.text,(without x.left u)⟩]),(x.text,true)⟩ [0,1,2,3] so2 ⟨so,by simp only [];rw [Zk5 hx g2 g3],by simp only [];first | assumption | omega,by simp only [];rw [hxs,Zh2 hx (ZeS g2 g3) (by simpa using g4)],hv16⟩ t11 rfl
 try simp only [sQ,ne_eq] at g4
 refine Zj (Zz (Zf (Ze (xM (h:=xD (h:=xA (h:=?_)))))))
 exact ZB ⟨g.k+1,0,g.l,g.a,g.c,g.xs,(x.text,true)⟩ [0,1,2,3] so2 ⟨so,by simp only [];rw [Zk5 hx g2 g3],by simp only [];first | assumption | omega,by simp only [];rw [hxs,ZgC hx (ZeS g2 g3) (by simpa using g4)],hv⟩ t11 rfl
 try simp only [sQ,ne_eq] at g3
 refine Zj (Zf (Za (xW Zbo (h:=x1 ZfP 4 (h:=xV Tryz.underlying39 (h:=ZbM (h:=Zd rfl (fun g4=>?_) (fun g4=>?_))))))))
 try simp only [sQ,ne_eq] at g4
 refine Ze (xW Zap (h:=x1 Zd7 3 (h:=xL [_,_,_,_] ZhB 4 (h:=xBs [(0,_)] [_,_,_,_] Tryz.underlying25 Zde ZfD (h:=fun b17=>Zo (Zba (z:=⟨x.id,x.fr,x.text,x.left⟩) (R:=Zi) 2 rfl hv rfl rfl rfl Zt7 Ztm rfl rfl (ZaM.box 6 rfl) rfl rfl (⟨_,_,rfl,hr12f,by first | assumption | omega | (simp;done) | (simp;omega),by first | assumption | omega | (simp;done) | (simp;omega)⟩) om (fun l18 p18 c18 hv18=>?_)))))))
 refine xW Zap (h:=xS [_] 3 [_,_] Ztk (h:=Zz (Zf (Ze (xM (h:=xD (h:=xA (h:=?_))))))))
 exact ZB ⟨g.k+1,0,l18,p18,c18,(g.xs ++ [⟨x.id,x.fr,x.text,x.left⟩]),g.e⟩ [0,1,2,3] so2 ⟨so,by simp only [];rw [Zk3 hx g3];exact he,by simp only [];first | assumption | omega,by simp only [];rw [hxs,Zh2 hx (Zg6 g3) (by simpa using g4)],hv18⟩ t11 rfl
 try simp only [sQ,ne_eq] at g4
 refine Zj (Zz (Zf (Ze (xM (h:=xD (h:=xA (h:=?_)))))))
 exact ZB ⟨g.k+1,0,g.l,g.a,g.c,g.xs,g.e⟩ [0,1,2,3] so2 ⟨so,by simp only [];rw [Zk3 hx g3];exact he,by simp only [];first | assumption | omega,by simp only [];rw [hxs,ZgC hx (Zg6 g3) (by simpa using g4)],hv⟩ t11 rfl
 try simp only [sQ,ne_eq] at g2
 refine xP (h:=xP (h:=xP (h:=xP (h:=xF (h:=Zv [_,_,_,_,_,_] rfl (Zd (t:=false) rfl (fun h=>Bool.noConfusion h) (fun _=>Zj (Zf (Za (xW Zbo (h:=x1 ZfP 4 (h:=xV Tryz.underlying39 (h:=?_)))))))))))))
 refine ZbM (h:=Zd rfl (fun g3=>?_) (fun g3=>?_))
 try simp only [sQ,ne_eq] at g3
 refine Ze (xW Zap (h:=x1 Zd7 3 (h:=xL [_,_,_,_] ZhB 4 (h:=xBs [(0,_)] [_,_,_,_] Tryz.underlying25 Zde ZfD (h:=fun b19=>Zo (Zba (z:=⟨x.id,x.fr,x.text,x.left⟩) (R:=Zi) 2 rfl hv rfl rfl rfl Zt7 Ztm rfl rfl (ZaM.box 6 rfl) rfl rfl (⟨_,_,rfl,hr12f,by first | assumption | omega | (simp;done) | (simp;omega),by first | assumption | omega | (simp;done) | (simp;omega)⟩) om (fun l20 p20 c20 hv20=>?_)))))))
 refine xW Zap (h:=xS [_] 3 [_,_] Ztk (h:=Zz (Zf (Ze (xM (h:=xD (h:=xA (h:=?_))))))))
 exact ZB ⟨g.k+1,0,l20,p20,c20,(g.xs ++ [⟨x.id,x.fr,x.text,x.left⟩]),g.e⟩ [0,1,2,3] so2 ⟨so,by simp only [];rw [Zk4 hx g2];exact he,by simp only [];first | assumption | omega,by simp only [];rw [hxs,Zh2 hx (Zg7 g2) (by simpa using g3)],hv20⟩ t11 rfl
 try simp only [sQ,ne_eq] at g3
 refine Zj (Zz (Zf (Ze (xM (h:=xD (h:=xA (h:=?_)))))))
 exact ZB ⟨g.k+1,0,g.l,g.a,g.c,g.xs,g.e⟩ [0,1,2,3] so2 ⟨so,by simp only [];rw [Zk4 hx g2];exact he,by simp only [];first | assumption | omega,by simp only [];rw [hxs,ZgC hx (Zg7 g2) (by simpa using g3)],hv⟩ t11 rfl
 try simp only [sQ,ne_eq] at g1
 have hkl:q.items.take g.k=q.items:=List.take_of_length_le oz
 rw [hkl] at he hxs
 refine ZT (Zah (ZZ (ZH (Zf (Za (xL [_,_] Zb9 3 (h:=xM (h:=xM (h:=xS [_,_] 1 [_,_] Zdo (h:=xA (h:=xA (h:=Zv [_,_,_,_] rfl (Zh ?_)))))))))))))
 exact Zad .ret (.inl rfl) [_,_,_] [2] rfl ⟨⟨_,rfl,.inr ⟨[_,_],Zb9,Zaf 1 rfl rfl rfl,rfl⟩⟩,rfl,rfl,trivial⟩ ⟨_,_,_,rfl,by simp only [Zb6,← he,← hxs];rfl,by simp only [Zb6,← hxs];exact hv,by simp only [Zb6,← he];exact htl⟩

set_option maxHeartbeats 400000 in
theorem Zjt (aq:Option Addr) (cq:Nat) (q:DQueue) (id:Int) (u:Str) (B:Kn) (hq:SlK B aq cq 4 Zi q.items):ZA (pj J) 155 [.agg #[.int .i64 q.next,.slice aq q.items.length cq],.int .i64 id,str u] B [] (fun v B' Ls=>(∃l a cp,Ls=[l]∧v = .tuple #[.agg #[.int .i64 (Zc2 q id u).1.next,.slice a (Zc2 q id u).1.items.length cp],str (Zc2 q id u).2.1,.bool (Zc2 q id u).2.2]∧Z2 (B'.less B) l a cp 88 4 Zi (Zc2 q id u).1.items∧(Zc2 q id u).2.1.length≤2000000)):=by
 refine Zc 20 Tryz.func155 rfl rfl rfl (Nat.le_of_ble_eq_true rfl) ?_
 refine Za (xBx [_,_] (h:=fun b1=>xAl [_,_] Zfr (h:=fun b2=>xA (h:=xA (h:=Zv [_,_] rfl (Zl (Za (xL [_,_] Zb9 0 (h:=xR ZwJ rfl (ZfJ _ _ q _ hq) (h:=xN (h:=Zd rfl (fun g1=>?_) (fun g1=>?_))))))))))))
 try simp only [sQ,ne_eq] at g1
 refine Za (xB [] [_,_] [_,_] Zra Zfr (h:=xS [_,_] 1 [_,_] Zdo (h:=xA (h:=xA (h:=Zv [_,_] rfl (Zh (Zs ?_)))))))
 have he:Zc2 q id u=(⟨0,[]⟩,[],false):=by simp [Zc2,g1]
 exact Zsg .ret (.inl rfl) [_,_,_] ⟨⟨_,rfl,.inr ⟨[_,_],Zb9,Zaf 1 rfl rfl rfl,rfl⟩⟩,rfl,rfl,trivial⟩ ⟨_,none,0,rfl,by rw [he];rfl,by rw [he];exact Z2.nil,by rw [he];exact Nat.zero_le _⟩
 try simp only [sQ,ne_eq] at g1
 refine Zj (Zf (Za (xL [_,_] Zb9 0 (h:=xM (h:=xM (h:=Zo (Zaa rfl rfl Zvw rfl (Zlw _ _ q id u _ hq) ?_)))))))
 rintro _ Bk _ hlek ⟨lk,ak,ck,rfl,rfl,hvk,htk⟩
 replace hq:=hq.mono Zi.mono hlek
 replace hvk:=hvk.mono Zi.mono (Kn.less_up (Kn.le.refl _) (Kn.le.refl _))
 refine xE (h:=xE (h:=xE (h:=xS [_,_] 1 [_,_] Zdo (h:=xA (h:=xA (h:=Zv [_,_,_] rfl (Zh ?_)))))))
 have he:Zc2 q id u=Zb6 q id u:=by simp [Zc2,g1]
 exact Zad .ret (.inl rfl) [_,_,_] [2] rfl ⟨⟨_,rfl,.inr ⟨[_,_],Zb9,Zaf 1 rfl rfl rfl,rfl⟩⟩,rfl,rfl,trivial⟩ ⟨_,_,_,rfl,by rw [he];rfl,by rw [he];exact hvk,by rw [he];exact htk⟩

set_option maxHeartbeats 400000 in
theorem ZfQ (b:Nat) (q:Option Addr) (m cp p:Nat) (hp:p≤850000000000) (hm:m≤2000) (B:Kn) (hbm:Zat B q m):ZA (pj J) 30 [ptr ⟨b,0,none⟩] B [rd b q m cp p] (fun v B' Ls=>∃(qx:Option Addr) (cx:Nat) (x:DLetter) (p':Nat),v = .agg #[str x.fr,.slice qx x.to_.length cx,str x.text]∧SlK B' qx cx 1 Zaz x.to_∧x.fr.length≤40∧x.text.length≤40∧x.to_.length≤6∧p'≤p+20∧Ls=[rd b q m cp p']):=by
 refine Zc 19 Tryz.func30 rfl rfl rfl (Nat.le_of_ble_eq_true rfl) ?_
 refine Za (xAl [_,_,_] Zrd (h:=fun b1=>Zv [_,_] rfl (Za (xM (h:=xBs [(0,_),(1,_),(2,_)] [_,_,_] Tryz.underlying39 sz9 zo9 (h:=fun b2=>Zo (Z4 [0,2] rfl rfl rfl rfl ZoP rfl (Zrb _ _ _ _ _ _ ([[97,109,121],[98,111,98],[99,121,100]]:List Str) oz (by decide) (by decide) hm _ hbm) ?_)))))))
 rintro _ B3 _ hle3 ⟨rfl,x3,hx3,rfl,rfl⟩
 replace hx3:=(show∀y∈( ([[97,109,121],[98,111,98],[99,121,100]]:List Str):List Str),y.length≤40 from by decide) _ hx3
 refine xM (h:=Zo (Z4 [0] rfl rfl rfl rfl Zys rfl (ZtF _ _ _ _ _ oz hm _ hbm) ?_))
 rintro _ B4 _ hle4 ⟨q4,cp4,xs4,p4,rfl,ht4,htn4,hp4,rfl⟩
 replace hbm:=hbm.mono hle4
 refine xM (h:=xX 0 rfl Zvt rfl (Ze2 _ _ _ _ _ oz hm _ hbm) (h:=?_))
 rintro _ _ ⟨x5,rfl,hx5,rfl⟩
 refine xB [(0,_),(1,_),(2,_)] [_,_,_] [_,_,_] ZvW Zrd (h:=xAl [_,_,_] Zrd (h:=fun b6=>xS [_,_,_] 3 [_,_,_] Zuv (h:=Zv [_,_,_,_] rfl (Zl (Za (xM (h:=xX 0 rfl Za9 rfl (ZP _ _ _ _ _ _ oz oz oz hm _ hbm) (h:=?_))))))))
 rintro _ _ ⟨r7,rfl,r7a,r7b,rfl⟩
 refine ZI (h:=Zv [_,_,_,_] rfl (Zd rfl (fun g1=>?_) (fun g1=>?_)))
 try simp only [sQ,ne_eq] at g1
 refine Ze (xM (h:=xX 0 rfl Zuz rfl (Zeh _ _ _ _ _ oz hm _ hbm) (h:=?_)))
 rintro _ _ ⟨x8,rfl,hx8,rfl⟩
 refine xW Zhk (h:=xS [_] 3 [_,_,_] sz9 (h:=Zf (Za (xL [_,_,_] Zmb 3 (h:=xS [_,_,_] 1 [_,_,_] Zuv (h:=Zv [_,_,_,_] rfl (Zh ?_)))))))
 exact Zad .ret (.inl rfl) [_] [0] rfl ⟨⟨_,rfl,.inr ⟨[_,_,_],Zmb,Zaf 1 rfl rfl rfl,rfl⟩⟩,trivial⟩ ⟨_,_,⟨x8,xs4,x5⟩,_,rfl,ht4,so2,so2,so2,oz,rfl⟩
 try simp only [sQ,ne_eq] at g1
 refine Zj (Zf (Za (xL [_,_,_] Zmb 3 (h:=xS [_,_,_] 1 [_,_,_] Zuv (h:=Zv [_,_,_,_] rfl (Zh ?_))))))
 exact Zad .ret (.inl rfl) [_] [0] rfl ⟨⟨_,rfl,.inr ⟨[_,_,_],Zmb,Zaf 1 rfl rfl rfl,rfl⟩⟩,trivial⟩ ⟨_,_,⟨x3,xs4,x5⟩,_,rfl,ht4,so2,so2,so2,oz,rfl⟩

set_option maxHeartbeats 400000 in
theorem Zot (b:Nat) (q:Option Addr) (m cp p:Nat) (hp:p≤800000000000) (hm:m≤2000) (B:Kn) (hbm:Zat B q m):ZA (pj J) 99 [ptr ⟨b,0,none⟩] B [rd b q m cp p] (fun v B' Ls=>∃(aq:Option Addr) (cq:Nat) (qq:DQueue) (p':Nat),v = .agg #[.int .i64 qq.next,.slice aq qq.items.length cq]∧SlK B' aq cq 4 Zi qq.items∧p'≤p+1000∧Ls=[rd b q m cp p']):=by
 refine Zc 84 Tryz.func99 rfl rfl rfl (Nat.le_of_ble_eq_true rfl) ?_
 refine Za (xAl [_,_] Zfr (h:=fun b1=>Zv [_,_] rfl (Za (xM (h:=xX 0 rfl Za9 rfl (ZP _ _ _ _ _ _ oz oz oz hm _ hbm) (h:=?_))))))
 rintro _ _ ⟨ra,rfl,raa,rab,rfl⟩
 refine xD (h:=xBs [] [] Tryz.underlying25 Zde ZfD (h:=fun b3=>xB [(0,_),(1,_)] [_,_] [_,_] Zra Zfr (h:=xAl [_,_] Zfr (h:=fun b4=>xS [_,_] 3 [_,_] Zdo (h:=Zv [_,_,_,_] rfl (Za (xM (h:=xX 0 rfl Za9 rfl (ZP _ _ _ _ _ _ oz oz oz hm _ hbm) (h:=?_)))))))))
 rintro _ _ ⟨rb,rfl,rba,rbb,rfl⟩
 refine xA (h:=Zv [_,_,_,_] rfl (Zl (Za (xA (h:=Zp (ZQ (α:=GQ) [0,2,3,4] (fun g=>[(5,.int .i64 g.k)]) [0,2,3] (fun g=>[rd b q m cp g.p,g.l,ZaE b4 [.int .i64 g.q.next,.slice g.a g.q.items.length g.c] 27]) (fun g Bx=>g.k≤8∧g.p≤p+2+40*g.k∧g.q.items.length≤2000000 - 8+g.k∧Z2 Bx g.l g.a g.c 88 4 Zi g.q.items) (fun g=>8 - g.k) ⟨0,p+2,_,_,_,⟨_,[]⟩⟩ t1 rfl (⟨Nat.zero_le _,Nat.le_refl _,Nat.zero_le _,.lit0⟩) (fun g B6 hle6 hI=>?_)))))))
 obtain ⟨hk,hgp,hgn,hv⟩:=hI
 replace hbm:=hbm.mono hle6
 refine ZO [(0,_),(2,_),(3,_),(4,_),(5,_)] [_,_,_,_] t5 rfl (Zl (Za (xM (h:=xM (h:=Zag (h:=Zd rfl (fun g1=>?_) (fun g1=>?_)))))))
 try simp only [sQ,ne_eq] at g1
 refine Zj (Zf (Zl (Zp (ZkO (α:=GM) [0,2,3,4,5,17] (fun h=>[(6,ptr ⟨h.b,0,none⟩),(7,.bool h.f)]) [0] (fun h=>[rd b q m cp h.p]) (fun h=>[ZaE h.b [.int .i64 h.q.next,.slice h.a h.q.items.length h.c] 27,h.l]) (fun h Bx=>h.p≤g.p+20∧h.q.items.length≤g.q.items.length+1∧Z2 Bx h.l h.a h.c 88 4 Zi h.q.items) ?_ (fun h B7 hle7 hF=>?_)))))
 refine Z8 (keeps _ [3] _) mo kr ⟨Kn.le.refl _,Zam.refl _ _⟩ (fun _ _=>?_)
 refine aT 0 rfl (ZG fun D B L hI=>Z6 [_,_] rfl rfl Zb9 rfl (Zaf 3 (hI.2.1.trans rfl) rfl rfl) r4) (h:=aM 1 rfl (h:=Zaq [2,7] kr kr kr ⟨?_,?_⟩))
 refine (Z4 [0] rfl rfl rfl rfl ZwM rfl (ZfQ _ _ _ _ _ oz hm _ hbm) ?_)
 rintro _ Bu _ hleu ⟨qxu,cxu,xu,pu,rfl,htu,hfu,hwu,htnu,hpu,rfl⟩
 replace hv:=hv.mono Zi.mono hleu
 replace hbm:=hbm.mono hleu
 refine ⟨⟨hleu,t1⟩,(Zaq [3,7] kr kr kr ⟨?_,?_⟩)⟩
 refine (Z4 [2] rfl rfl rfl rfl Zv2 rfl (ZA.borrow fun hmv=>Zge _ _ g.q _ _ xu _ (hv.lend Zi.mono hmv om) (htu.mono Zaz.mono (Kn.le_add _ _)) (by first | assumption | omega | (simp;omega)) (by first | assumption | omega | (simp;omega))) ?_)
 rintro _ Bv _ hlev ⟨BBv,_,rfl,hBv,_,hmv,_,lv,av,cv,rfl,rfl,hvv⟩
 replace htu:=htu.mono Zaz.mono hlev
 replace hv:=hv.mono Zi.mono hlev
 replace hbm:=hbm.mono hlev
 replace hvv:=hvv.mono Zi.mono (Kn.less_minus' hmv hBv)
 refine ⟨⟨(hleu.trans hlev),t1⟩,(aM 4 rfl (h:=aE 5 rfl (h:=aE 6 rfl (h:=Zu 7 kr rfl kr (Zao (l:=[_,_]) rfl rfl Zfr rfl (fun b10=>?_))))))⟩
 refine ⟨⟨(hleu.trans hlev),t1⟩,(Zbb 8 kr rfl kr kr (ZN [_,_] 5 [_,_] rfl rfl Zdo rfl rfl rfl rfl rfl rfl rfl rfl ?_))⟩
 refine aA 9 rfl (h:=ZC kr kr ?_)
 exact ZK ⟨_,pu,lv,av,cv,(Zer g.q xu).1,_⟩ [0,1,2,3,5,4] ⟨hpu,Zfp _ _,hvv⟩ t8 rfl
 refine (Zao (l:=[_,_]) rfl rfl Zfr rfl (fun b11=>⟨⟨hleu,t1⟩,(Zu 3 kr rfl kr (Z4 [2] rfl rfl rfl rfl Zv2 rfl (ZA.borrow fun hmv=>Zge _ _ g.q _ _ xu _ (hv.lend Zi.mono hmv om) (htu.mono Zaz.mono (Kn.le_add _ _)) (by first | assumption | omega | (simp;omega)) (by first | assumption | omega | (simp;omega))) ?_))⟩))
 rintro _ Bv _ hlev ⟨BBv,_,rfl,hBv,_,hmv,_,lv,av,cv,rfl,rfl,hvv⟩
 replace htu:=htu.mono Zaz.mono hlev
 replace hv:=hv.mono Zi.mono hlev
 replace hbm:=hbm.mono hlev
 replace hvv:=hvv.mono Zi.mono (Kn.less_minus' hmv hBv)
 refine ⟨⟨(hleu.trans hlev),t1⟩,(aM 4 rfl (h:=aE 5 rfl (h:=aE 6 rfl (h:=Zbb 8 kr rfl kr kr (ZN [_,_] 4 [_,_] rfl rfl Zdo rfl rfl rfl rfl rfl rfl rfl rfl ?_)))))⟩
 refine aA 9 rfl (h:=ZC kr kr ?_)
 exact ZK ⟨_,pu,lv,av,cv,(Zer g.q xu).1,_⟩ [0,1,2,3,4,5] ⟨hpu,Zfp _ _,hvv⟩ t8 rfl
 refine (Zao (l:=[_,_]) rfl rfl Zfr rfl (fun b13=>⟨⟨Kn.le.refl _,t1⟩,(Zu 2 kr rfl kr (Z4 [0] rfl rfl rfl rfl ZwM rfl (ZfQ _ _ _ _ _ oz hm _ hbm) ?_))⟩))
 rintro _ Bu _ hleu ⟨qxu,cxu,xu,pu,rfl,htu,hfu,hwu,htnu,hpu,rfl⟩
 replace hv:=hv.mono Zi.mono hleu
 replace hbm:=hbm.mono hleu
 refine ⟨⟨hleu,t1⟩,(Zu 3 kr rfl kr (Z4 [2] rfl rfl rfl rfl Zv2 rfl (ZA.borrow fun hmv=>Zge _ _ g.q _ _ xu _ (hv.lend Zi.mono hmv om) (htu.mono Zaz.mono (Kn.le_add _ _)) (by first | assumption | omega | (simp;omega)) (by first | assumption | omega | (simp;omega))) ?_))⟩
 rintro _ Bv _ hlev ⟨BBv,_,rfl,hBv,_,hmv,_,lv,av,cv,rfl,rfl,hvv⟩
 replace htu:=htu.mono Zaz.mono hlev
 replace hv:=hv.mono Zi.mono hlev
 replace hbm:=hbm.mono hlev
 replace hvv:=hvv.mono Zi.mono (Kn.less_minus' hmv hBv)
 refine ⟨⟨(hleu.trans hlev),t1⟩,(aM 4 rfl (h:=aE 5 rfl (h:=aE 6 rfl (h:=Zbb 8 kr rfl kr kr (ZN [_,_] 4 [_,_] rfl rfl Zdo rfl rfl rfl rfl rfl rfl rfl rfl ?_)))))⟩
 refine aA 9 rfl (h:=ZC kr kr ?_)
 exact ZK ⟨_,pu,lv,av,cv,(Zer g.q xu).1,_⟩ [0,1,2,3,4,5] ⟨hpu,Zfp _ _,hvv⟩ t8 rfl
 obtain ⟨hhp,hhn,hw⟩:=hF
 replace hv:=hv.mono Zi.mono hle7
 replace hbm:=hbm.mono hle7
 refine ZO [(0,_),(2,_),(3,_),(4,_),(5,_),(6,_),(7,_),(17,_)] [_,_,_,_,_,_] t8 rfl (Zpc (α:=GQ) [0,2,3,4,5,6,7,17] (fun o=>[]) (fun o=>[rd b q m cp o.p,ZaE b1 [.int .i64 0,.slice none 0 0] 27,o.l,ZaE b4 [.int .i64 o.q.next,.slice o.a o.q.items.length o.c] 27]) (fun o Bx=>o.p≤g.p+20∧o.q.items.length≤g.q.items.length+1∧Z2 Bx o.l o.a o.c 88 4 Zi o.q.items) ?_ (fun o B16 hle16 hF=>?_))
 refine Za (xM (h:=Zd rfl (fun g2=>?_) (fun g2=>?_)))
 try simp only [sQ,ne_eq] at g2
 refine Ze (xL [_,_] Zb9 4 (h:=xS [_,_] 3 [_,_] Zdo (h:=?_)))
 exact ZK ⟨0,h.p,h.l,h.a,h.c,h.q⟩ [0,1,5,3] ⟨hhp,hhn,hw⟩ t8 rfl
 try simp only [sQ,ne_eq] at g2
 refine Zj ?_
 exact ZK ⟨0,h.p,g.l,g.a,g.c,g.q⟩ [0,1,2,3] ⟨hhp,so,hv⟩ t8 rfl
 clear hv
 obtain ⟨hop,hon,hv⟩:=hF
 replace hbm:=hbm.mono hle16
 refine ZO [(0,_),(2,_),(3,_),(4,_),(5,_),(6,_),(7,_),(17,_)] [_,_,_,_] t8 rfl (Za (xW Zap (h:=x1 Zd7 3 (h:=xV Tryz.underlying25 (h:=ZbM (h:=xM (h:=Zt (d:=33) rfl (fun g3=>?_) (fun g3=>?_))))))))
 try simp only [sQ,ne_eq] at g3
 refine xM (h:=xX 0 rfl Za9 rfl (ZP _ _ _ _ _ _ oz oz oz hm _ hbm) (h:=?_))
 rintro _ _ ⟨r17,rfl,r17a,r17b,rfl⟩
 refine ZI (h:=xT (h:=Zv [_,_,_,_] rfl (Zd rfl (fun g4=>?_) (fun g4=>?_))))
 try simp only [sQ,ne_eq] at g4
 refine Z8 (keeps _ [2,3] _) mo kr ⟨Kn.le.refl _,Zam.refl _ _⟩ (fun _ _=>?_)
 refine aT 0 rfl (ZG fun D B L hI=>Z6 [_,_] rfl rfl Zb9 rfl (Zaf 3 (hI.2.2.1.trans rfl) rfl rfl) r4) (h:=aW 1 rfl Zap (h:=aT 2 rfl (ZG fun D B L hI=>Zn rfl rfl Zd7 rfl (atL 3 (hI.2.2.1.trans rfl) rfl rfl) r4) (h:=aM 3 rfl (h:=aW 4 rfl Zap (h:=aT 5 rfl (ZG fun D B L hI=>Zn rfl rfl Zd7 rfl (atL 3 (hI.2.2.1.trans rfl) rfl rfl) r4) (h:=aV 6 rfl Tryz.underlying25 (h:=aM 11 rfl (h:=Zaq [7,12] kr kr kr ⟨?_,?_⟩))))))))
 refine (ZcH 0 rfl rfl rfl Za9 rfl (ZP _ _ _ _ _ _ oz oz oz hm _ hbm) ?_)
 rintro _ _ ⟨r18,rfl,r18a,r18b,rfl⟩
 refine ⟨⟨Kn.le.refl _,t2⟩,?_⟩
 obtain ⟨z19,hz19⟩:=ZeP (xs:=o.q.items) (i:=r18) om om
 obtain ⟨bb20,_,hp20,⟨qi20,ci20,rfl,hi20,hb20,hb20b⟩,hw20,hc20⟩:=hv.row hz19
 have hi20n:=hi20.len
 refine aT 8 rfl (ZG fun D B L hI=>Zf8 hp20 rfl rfl Tryz.underlying25 Zde rfl rfl om om r4) (h:=?_)
 refine aW 9 rfl Zel (h:=aT 10 rfl (ZG fun D B L hI=>Zn rfl rfl lk3 rfl (hc20 _ 2 (hI.2.1.trans rfl) 0 _ rfl) r4) (h:=Zu 12 kr rfl kr (Zx (parts:=[(0,_),(1,_),(2,_)]) [_,_,_] rfl rfl Tryz.underlying39 sz9 zo9 rfl rfl rfl rfl rfl (fun b21=>?_))))
 refine ⟨⟨Kn.le.refl _,t2⟩,(Zu 13 kr rfl kr (Z4 [0,4] rfl rfl rfl rfl ZoP rfl (Zrb _ _ _ _ _ _ ([[97,109,121],[98,111,98],[99,121,100]]:List Str) oz (by decide) (by decide) hm _ hbm) ?_))⟩
 rintro _ Bw _ hlew ⟨rfl,xw,hxw,rfl,rfl⟩
 replace hxw:=(show∀y∈( ([[97,109,121],[98,111,98],[99,121,100]]:List Str):List Str),y.length≤40 from by decide) _ hxw
 refine ⟨⟨Kn.le.refl _,t2⟩,(Zu 14 kr rfl kr (Z4 [2] rfl rfl rfl rfl ZvA rfl (ZA.borrow fun hm23=>Zjt _ _ o.q z19.id xw _ (hv.lend Zi.mono hm23 om)) ?_))⟩
 rintro _ B23 _ hle23 ⟨BB23,_,rfl,hB23,_,hm23,_,l23,a23,c23,rfl,rfl,hv23,ht23⟩
 replace hi20:=hi20.mono Zaz.mono hle23
 replace hv:=hv.mono Zi.mono hle23
 replace hbm:=hbm.mono hle23
 replace hv23:=hv23.mono Zi.mono (Kn.less_minus' hm23 hB23)
 refine ⟨⟨hle23,t2⟩,(aM 15 rfl (h:=aE 16 rfl (h:=aE 17 rfl (h:=aE 18 rfl (h:=Zbb 19 kr rfl kr kr (ZN [_,_] 3 [_,_] rfl rfl Zdo rfl rfl rfl rfl rfl rfl rfl rfl ?_))))))⟩
 refine ZC kr kr ?_
 refine Zz (Zf (Ze (xM (h:=xD (h:=xA (h:=?_))))))
 exact ZB ⟨g.k+1,(((o.p+1)+1)+1),l23,a23,c23,((Zc2 o.q z19.id xw).1)⟩ [0,1,5,3] so2 ⟨so,so,Nat.le_trans (Zlg _ _ _) (so),hv23⟩ t5 rfl
 refine (Zx (parts:=[(0,_),(1,_),(2,_)]) [_,_,_] rfl rfl Tryz.underlying39 sz9 zo9 rfl rfl rfl rfl rfl (fun b24=>⟨⟨Kn.le.refl _,t2⟩,(Zu 7 kr rfl kr (ZcH 0 rfl rfl rfl Za9 rfl (ZP _ _ _ _ _ _ oz oz oz hm _ hbm) ?_))⟩))
 rintro _ _ ⟨r25,rfl,r25a,r25b,rfl⟩
 refine ⟨⟨Kn.le.refl _,t2⟩,?_⟩
 obtain ⟨z26,hz26⟩:=ZeP (xs:=o.q.items) (i:=r25) om om
 obtain ⟨bb27,_,hp27,⟨qi27,ci27,rfl,hi27,hb27,hb27b⟩,hw27,hc27⟩:=hv.row hz26
 have hi27n:=hi27.len
 refine aT 8 rfl (ZG fun D B L hI=>Zf8 hp27 rfl rfl Tryz.underlying25 Zde rfl rfl om om r4) (h:=?_)
 refine aW 9 rfl Zel (h:=aT 10 rfl (ZG fun D B L hI=>Zn rfl rfl lk3 rfl (hc27 _ 2 (hI.2.1.trans rfl) 0 _ rfl) r4) (h:=Zu 13 kr rfl kr (Z4 [0,4] rfl rfl rfl rfl ZoP rfl (Zrb _ _ _ _ _ _ ([[97,109,121],[98,111,98],[99,121,100]]:List Str) oz (by decide) (by decide) hm _ hbm) ?_)))
 rintro _ Bw _ hlew ⟨rfl,xw,hxw,rfl,rfl⟩
 replace hxw:=(show∀y∈( ([[97,109,121],[98,111,98],[99,121,100]]:List Str):List Str),y.length≤40 from by decide) _ hxw
 refine ⟨⟨Kn.le.refl _,t2⟩,(Zu 14 kr rfl kr (Z4 [2] rfl rfl rfl rfl ZvA rfl (ZA.borrow fun hm29=>Zjt _ _ o.q z26.id xw _ (hv.lend Zi.mono hm29 om)) ?_))⟩
 rintro _ B29 _ hle29 ⟨BB29,_,rfl,hB29,_,hm29,_,l29,a29,c29,rfl,rfl,hv29,ht29⟩
 replace hi27:=hi27.mono Zaz.mono hle29
 replace hv:=hv.mono Zi.mono hle29
 replace hbm:=hbm.mono hle29
 replace hv29:=hv29.mono Zi.mono (Kn.less_minus' hm29 hB29)
 refine ⟨⟨hle29,t2⟩,(aM 15 rfl (h:=aE 16 rfl (h:=aE 17 rfl (h:=aE 18 rfl (h:=Zbb 19 kr rfl kr kr (ZN [_,_] 3 [_,_] rfl rfl Zdo rfl rfl rfl rfl rfl rfl rfl rfl ?_))))))⟩
 refine ZC kr kr ?_
 refine Zz (Zf (Ze (xM (h:=xD (h:=xA (h:=?_))))))
 exact ZB ⟨g.k+1,(((o.p+1)+1)+1),l29,a29,c29,((Zc2 o.q z26.id xw).1)⟩ [0,1,5,3] so2 ⟨so,so,Nat.le_trans (Zlg _ _ _) (so),hv29⟩ t5 rfl
 try simp only [sQ,ne_eq] at g4
 refine Zj (Zz (Zf (Ze (xM (h:=xD (h:=xA (h:=?_)))))))
 exact ZB ⟨g.k+1,(o.p+1),o.l,o.a,o.c,o.q⟩ [0,1,2,3] so2 ⟨so,so,so,hv⟩ t5 rfl
 try simp only [sQ,ne_eq] at g3
 refine xP (h:=xP (h:=xP (h:=xF (h:=Zd (t:=false) rfl (fun h=>Bool.noConfusion h) (fun _=>Zj (Zz (Zf (Ze (xM (h:=xD (h:=xA (h:=?_))))))))))))
 exact ZB ⟨g.k+1,o.p,o.l,o.a,o.c,o.q⟩ [0,1,2,3] so2 ⟨so,so,so,hv⟩ t5 rfl
 try simp only [sQ,ne_eq] at g1
 refine ZT (Zah (ZZ (ZH (Zf (Zl (Za (xM (h:=xX 0 rfl Za9 rfl (ZP _ _ _ _ _ _ oz oz oz hm _ hbm) (h:=?_)))))))))
 rintro _ _ ⟨r30,rfl,r30a,r30b,rfl⟩
 refine Zv [_,_,_,_] rfl (Zp (Za (ZI (h:=xA (h:=Zd rfl (fun g2=>?_) (fun g2=>?_))))))
 try simp only [sQ,ne_eq] at g2
 refine Ze (xBs [(0,_),(1,_),(2,_),(3,_),(4,_)] [_,_,_,_,_] Tryz.underlying171 sz3 zo3 (h:=fun b31=>Z5 4 rfl (Z2.ints (ls:=([0,1,99,100,101]:List Int))) Zbz.mono om3 (fun B32 hle32 hr32=>?_)))
 replace hv:=hv.mono Zi.mono hle32
 replace hbm:=hbm.mono hle32
 have hr32n:=hr32.len
 refine xM (h:=xX 0 rfl Za9 rfl (ZP _ _ _ _ _ _ oz oz oz hm _ hbm) (h:=?_))
 rintro _ _ ⟨r33,rfl,r33a,r33b,rfl⟩
 obtain ⟨z34,hz34⟩:=ZeP (xs:=([0,1,99,100,101]:List Int)) (i:=r33) om om
 obtain ⟨_,rfl,hc35⟩:=hr32.elem hz34
 refine xIx Tryz.underlying171 sz3 (h:=y1 lk3 hc35 0 (h:=xW ZcF (h:=xS [_] 3 [_,_] sz3 (h:=Zz (Zf (ZdK 2 rfl hv Zi.mono om3 (fun B36 hle36 hr36=>?_)))))))
 replace hr32:=hr32.mono Zbz.mono hle36
 replace hc35:=hc35.mono hle36
 replace hbm:=hbm.mono hle36
 have hr36n:=hr36.len
 refine Za (xL [_,_] Zb9 3 (h:=xS [_,_] 1 [_,_] Zdo (h:=Zv [_,_,_,_,_] rfl (Zh ?_))))
 exact Zad .ret (.inl rfl) [_] [0] rfl ⟨⟨_,rfl,.inr ⟨[_,_],Zb9,Zaf 1 rfl rfl rfl,rfl⟩⟩,trivial⟩ ⟨_,_,⟨z34,g.q.items⟩,_,(ol),hr36,oz,rfl⟩
 try simp only [sQ,ne_eq] at g2
 refine Za (ZI (h:=xA (h:=Zd rfl (fun g3=>?_) (fun g3=>?_))))
 try simp only [sQ,ne_eq] at g3
 refine Za (xW Zap (h:=x1 Zd7 3 (h:=xV Tryz.underlying25 (h:=ZbM (h:=Zd rfl (fun g4=>?_) (fun g4=>?_))))))
 try simp only [sQ,ne_eq] at g4
 refine Z8 (keeps _ [2,3] _) mo kr ⟨Kn.le.refl _,Zam.refl _ _⟩ (fun _ _=>?_)
 refine aW 0 rfl Zap (h:=aT 1 rfl (ZG fun D B L hI=>Zn rfl rfl Zd7 rfl (atL 3 (hI.2.2.1.trans rfl) rfl rfl) r4) (h:=aM 2 rfl (h:=aW 3 rfl Zap (h:=aT 4 rfl (ZG fun D B L hI=>Zn rfl rfl Zd7 rfl (atL 3 (hI.2.2.1.trans rfl) rfl rfl) r4) (h:=aV 5 rfl Tryz.underlying25 (h:=Zaq [6,7] kr kr kr ⟨?_,?_⟩))))))
 refine (ZcH 0 rfl rfl rfl Za9 rfl (ZP _ _ _ _ _ _ oz oz oz hm _ hbm) ?_)
 rintro _ _ ⟨r37,rfl,r37a,r37b,rfl⟩
 refine ⟨⟨Kn.le.refl _,t2⟩,(Zu 7 kr rfl kr (Zx (parts:=[]) [] rfl rfl Tryz.underlying39 sz9 zo9 rfl rfl rfl rfl rfl (fun b38=>?_)))⟩
 refine ⟨⟨Kn.le.refl _,t2⟩,?_⟩
 obtain ⟨z39,hz39⟩:=ZeP (xs:=g.q.items) (i:=r37) om om
 obtain ⟨bb40,_,hp40,⟨qi40,ci40,rfl,hi40,hb40,hb40b⟩,hw40,hc40⟩:=hv.row hz39
 have hi40n:=hi40.len
 refine aT 8 rfl (ZG fun D B L hI=>Zf8 hp40 rfl rfl Tryz.underlying25 Zde rfl rfl om om r4) (h:=?_)
 refine aW 9 rfl Zbo (h:=ZV 10 kr rfl kr kr kr (Zes (k:=(r37).toNat) (off:=3) (⟨z39.id,z39.fr,z39.text,[]⟩) [_] 2 hv hp40 hz39 rfl rfl Zuw rfl rfl rfl rfl rfl rfl (by rintro _ ⟨_,_,rfl,_,e1,e2⟩;exact ⟨_,_,rfl,SlK.nil,e1,e2⟩) (fun l41 hv41=>?_)))
 refine Zz (Zf (ZdK 2 rfl hv41 Zi.mono om3 (fun B42 hle42 hr42=>?_)))
 replace hi40:=hi40.mono Zaz.mono hle42
 replace hbm:=hbm.mono hle42
 have hr42n:=hr42.len
 refine Za (xL [_,_] Zb9 3 (h:=xS [_,_] 1 [_,_] Zdo (h:=Zv [_,_,_,_,_] rfl (Zh ?_))))
 exact Zad .ret (.inl rfl) [_] [0] rfl ⟨⟨_,rfl,.inr ⟨[_,_],Zb9,Zaf 1 rfl rfl rfl,rfl⟩⟩,trivial⟩ ⟨_,_,⟨g.q.next,(g.q.items.set ((r37).toNat) (⟨z39.id,z39.fr,z39.text,[]⟩))⟩,_,(ol),hr42,oz,rfl⟩
 refine (Zx (parts:=[]) [] rfl rfl Tryz.underlying39 sz9 zo9 rfl rfl rfl rfl rfl (fun b43=>⟨⟨Kn.le.refl _,t2⟩,(Zu 6 kr rfl kr (ZcH 0 rfl rfl rfl Za9 rfl (ZP _ _ _ _ _ _ oz oz oz hm _ hbm) ?_))⟩))
 rintro _ _ ⟨r44,rfl,r44a,r44b,rfl⟩
 refine ⟨⟨Kn.le.refl _,t2⟩,?_⟩
 obtain ⟨z45,hz45⟩:=ZeP (xs:=g.q.items) (i:=r44) om om
 obtain ⟨bb46,_,hp46,⟨qi46,ci46,rfl,hi46,hb46,hb46b⟩,hw46,hc46⟩:=hv.row hz45
 have hi46n:=hi46.len
 refine aT 8 rfl (ZG fun D B L hI=>Zf8 hp46 rfl rfl Tryz.underlying25 Zde rfl rfl om om r4) (h:=?_)
 refine aW 9 rfl Zbo (h:=ZV 10 kr rfl kr kr kr (Zes (k:=(r44).toNat) (off:=3) (⟨z45.id,z45.fr,z45.text,[]⟩) [_] 2 hv hp46 hz45 rfl rfl Zuw rfl rfl rfl rfl rfl rfl (by rintro _ ⟨_,_,rfl,_,e1,e2⟩;exact ⟨_,_,rfl,SlK.nil,e1,e2⟩) (fun l47 hv47=>?_)))
 refine Zz (Zf (ZdK 2 rfl hv47 Zi.mono om3 (fun B48 hle48 hr48=>?_)))
 replace hi46:=hi46.mono Zaz.mono hle48
 replace hbm:=hbm.mono hle48
 have hr48n:=hr48.len
 refine Za (xL [_,_] Zb9 3 (h:=xS [_,_] 1 [_,_] Zdo (h:=Zv [_,_,_,_,_] rfl (Zh ?_))))
 exact Zad .ret (.inl rfl) [_] [0] rfl ⟨⟨_,rfl,.inr ⟨[_,_],Zb9,Zaf 1 rfl rfl rfl,rfl⟩⟩,trivial⟩ ⟨_,_,⟨g.q.next,(g.q.items.set ((r44).toNat) (⟨z45.id,z45.fr,z45.text,[]⟩))⟩,_,(ol),hr48,oz,rfl⟩
 try simp only [sQ,ne_eq] at g4
 refine Zj (Zz (Zf (ZdK 2 rfl hv Zi.mono om3 (fun B49 hle49 hr49=>?_))))
 replace hbm:=hbm.mono hle49
 have hr49n:=hr49.len
 refine Za (xL [_,_] Zb9 3 (h:=xS [_,_] 1 [_,_] Zdo (h:=Zv [_,_,_,_] rfl (Zh ?_))))
 exact Zad .ret (.inl rfl) [_] [0] rfl ⟨⟨_,rfl,.inr ⟨[_,_],Zb9,Zaf 1 rfl rfl rfl,rfl⟩⟩,trivial⟩ ⟨_,_,g.q,_,(ol),hr49,oz,rfl⟩
 try simp only [sQ,ne_eq] at g3
 refine Zj (Zz (Zf (ZdK 2 rfl hv Zi.mono om3 (fun B50 hle50 hr50=>?_))))
 replace hbm:=hbm.mono hle50
 have hr50n:=hr50.len
 refine Za (xL [_,_] Zb9 3 (h:=xS [_,_] 1 [_,_] Zdo (h:=Zv [_,_,_,_] rfl (Zh ?_))))
 exact Zad .ret (.inl rfl) [_] [0] rfl ⟨⟨_,rfl,.inr ⟨[_,_],Zb9,Zaf 1 rfl rfl rfl,rfl⟩⟩,trivial⟩ ⟨_,_,g.q,_,(ol),hr50,oz,rfl⟩

set_option maxHeartbeats 400000 in
theorem Ziu (q:Option Addr) (cp:Nat) (x:DItem) (B:Kn) (hx:SlK B q cp 1 Zaz x.left):ZA (pj J) 44 [.agg #[.int .i64 x.id,str x.fr,str x.text,.slice q x.left.length cp]] B [] (fun v B' Ls=>B'=B∧∃ins a c,Ls=[ins]∧v = .agg #[.int .i64 x.id,str x.fr,str x.text,.slice a x.left.length c]∧Zq2 9 ins a c x.left):=by
 refine Zc 9 Tryz.func44 rfl rfl rfl (Nat.le_of_ble_eq_true rfl) ?_
 have hxn:=hx.len
 refine Za (xBx [_,_,_,_] (h:=fun b1=>xAl [_,_,_,_] ZfD (h:=fun b2=>Zv [_,_] rfl (Za (xBs [] [] Tryz.underlying39 sz9 zo9 (h:=fun b3=>xW Zbo (h:=x1 ZfP 0 (h:=Zo (ZaN (R:=Zaz) 2 rfl (Z2.lit0 (R:=Zaz)) rfl rfl rfl ZnO Znk rfl rfl rfl hx.rows Zaz.one rfl om (fun l4 p4 c4 hv4=>?_))))))))))
 refine xW Zbo (h:=xS [_] 0 [_,_,_,_] Zuw (h:=Zv [_,_,_] rfl (Za (xL [_,_,_,_] ZhB 0 (h:=xS [_,_,_,_] 1 [_,_,_,_] Zde (h:=Zv [_,_,_] rfl (Zh ?_)))))))
 exact Zad .ret (.inl rfl) [_] [2] rfl ⟨⟨_,rfl,.inr ⟨[_,_,_,_],ZhB,Zaf 1 rfl rfl rfl,rfl⟩⟩,trivial⟩ ⟨rfl,_,_,_,rfl,rfl,(hv4).anyK Zaz.any⟩

set_option maxHeartbeats 400000 in
theorem ZoV (q:Option Addr) (m cp:Nat) (B:Kn):ZA (pj J) 128 [.slice q m cp] B [] (fun v B' Ls=>B'=B∧∃b,Ls=[ZaE b [.slice q m cp] 25]∧v = .func (.func 165) #[] #[ptr ⟨b,0,none⟩]):=by
 refine Zc 4 Tryz.func128 rfl rfl rfl (Nat.le_of_ble_eq_true rfl) ?_
 refine Za (xBx [_] (h:=fun b1=>xA (h:=Zv [_] rfl (Za (Zo (Zd9 (xs:=[]) (ys:=[_]) rfl rfl rfl rfl (xA (h:=Zh ?_))))))))
 exact Zad .ret (.inl rfl) [_] [0] rfl t1 ⟨rfl,_,rfl,rfl⟩

set_option maxHeartbeats 400000 in
theorem Zup (l bc:Nat) (q:Option Addr) (cp:Nat) (xs:List DItem) (Inv:Nat→Kn→Cells→Prop) (s0:Cells) (B:Kn) (hq:SlK B q cp 4 Zi xs) (hcc:Za7 B bc 0 [.slice q xs.length cp]) (h0:Inv xs.length B s0) (hround :∀(j:Nat) (i:Int) (x:DItem) (row:List Value) (B':Kn) (s:Cells),B.le B'→Inv (j+1) B' s→xs[j]? = some x→Zi B' row x→∃lp,(l,Obj.loop lp)∈s∧lp.params.size=2∧Zq3 (pj J) l lp.fn (Zl0 lp.params lp.tmps [.int .i64 i,.agg row.toArray]) lp.assign lp.body B' s (fun B'' s'=>Inv j B'' s')):ZA (pj J) 165 [.func (.yield l) #[] #[],ptr ⟨bc,0,none⟩] B [s0] (fun v B' Ls=>∃s,Ls=[s]∧Inv 0 B' s):=by
 refine Zc 19 Tryz.func165 rfl rfl rfl (Nat.le_of_ble_eq_true rfl) ?_
 have hqn:=hq.len
 refine Za (Zo (Zn rfl rfl Zd7 rfl (hcc _ 0 _ rfl) (xV Tryz.underlying25 (h:=xU (h:=xA (h:=Zp (ZQ (α:=Int × Cells) [0,1] (fun g=>[(3,.int .i64 g.1)]) [0] (fun g=>[g.2]) (fun g Bx=>-1≤g.1∧g.1<xs.length∧Inv (g.1+1).toNat Bx g.2) (fun g=>(g.1+1).toNat) ((xs.length:Int) - 1,s0) t1 rfl (⟨so,so,by rw [show ((xs.length:Int) - 1+1).toNat=xs.length from by omega];exact h0⟩) (fun g B1 hle1 hI=>?_))))))))
 obtain ⟨hk1,hk,hI⟩:=hI
 replace hq:=hq.mono Zi.mono hle1
 replace hcc:=hcc.mono hle1
 refine ZO [(0,_),(1,_),(3,_)] [_] t3 rfl (Zl (Za (xM (h:=Zd8 (h:=Zd rfl (fun g1=>?_) (fun g1=>?_))))))
 try simp only [sQ,ne_eq] at g1
 refine Zj (Zf (Zl (Zp (Za (xM (h:=xM (h:=Zo (Zn rfl rfl Zd7 rfl (hcc _ 0 _ rfl) (xM (h:=?_))))))))))
 obtain ⟨x,hx⟩:=ZeP (xs:=xs) (i:=g.1) om om
 obtain ⟨bb3,oo3,rfl⟩:=hq.base hx
 obtain ⟨_,⟨qi4,ci4,rfl,hi4,hb4,hb4b⟩,hc4⟩:=hq.elem hx
 have hi4n:=hi4.len
 refine xIx Tryz.underlying25 Zde (h:=?_)
 obtain ⟨lp,hl,hs,hr⟩:=hround g.1.toNat g.1 x _ _ g.2 (oy) (by rw [show g.1.toNat+1=(g.1+1).toNat from by omega];exact hI) hx ⟨_,_,rfl,oy,oy,oy⟩
 refine yL [_,_,_,_] ZhB hc4 0 (h:=Zo (Ztc (j:=0) rfl hl rfl rfl rfl rfl hs.symm hr (fun Bc sc hlec hIc=>?_)))
 replace hq:=hq.mono Zi.mono hlec
 replace hcc:=hcc.mono hlec
 replace hi4:=hi4.mono Zaz.mono hlec
 replace hc4:=hc4.mono hlec
 refine xN (h:=Zv [_] rfl (Zd rfl (fun g2=>by cases g2) (fun g2=>?_)))
 try simp only [sQ,ne_eq] at g2
 refine Zj (Zz (Zf (Ze (xM (h:=xU (h:=xA (h:=?_)))))))
 exact ZB (g.1 - 1,sc) [0] so2 ⟨so,so,by simp only [];rw [show (g.1 - 1+1).toNat=g.1.toNat from by omega];exact hIc⟩ t3 rfl
 try simp only [sQ,ne_eq] at g1
 refine ZT (Zah (ZZ (ZH ?_)))
 exact Zad .normal (.inr rfl) [] [0] rfl trivial ⟨_,rfl,by rw [show (g.1+1).toNat=0 from by omega] at hI;exact hI⟩

set_option maxHeartbeats 400000 in
theorem Zmy (q:Option Addr) (cp:Nat) (x:DQueue) (B:Kn) (hx:SlK B q cp 4 Zi x.items):ZA (pj J) 82 [.agg #[.int .i64 x.next,.slice q x.items.length cp]] B [] (fun v B' Ls=>∃s,Ls=[s]∧Zf2 9 176 v x.items s):=by
 refine ZlV 17 Tryz.func82 rfl rfl rfl (Nat.le_of_ble_eq_true rfl) ?_
 refine ZeT (xBx [_,_] (h:=fun b1=>xA (h:=Zps [(0,_),(1,_),(2,_)] [_] t3 rfl (ZeT (xAl [_] Zwd (h:=fun b2=>Zps [(0,_),(1,_),(2,_),(3,_)] [_,_] t4 rfl (ZuX (ZeT (xW Zap (h:=x1 Zd7 0 (h:=Zo (Zaa rfl rfl Zxh rfl (ZoV _ _ _ _) ?_))))))))))))
 rintro _ B3 _ hle3 ⟨rfl,b3,rfl,rfl⟩
 refine Zps [(0,_),(1,_),(2,_),(3,_),(8,_)] [_,_,_] t5 rfl (Ztj (Zwq 2 rfl (fun B4 hle4 hm4=>?_)))
 replace hx:=hx.mono Zi.mono hle4
 have hcc:=ZcV hm4
 refine Zwp [1] rfl (Zro (J:=fun B' L'=>∃v s,L'=[ZaE b2 [v] 117,s]∧Zf2 9 176 v x.items s) (cap:=[_]) rfl Zw3 (fun lp l hTn hTS hps hasg hbd hst hlp=>?_) (fun r B9 L9 hle9 hJ=>?_))
 refine ZA.mono (Zup l _ _ _ x.items (fun j B9 s9=>∃v cells,s9.Perm ((l,Obj.loop lp) :: (ZaE b2 [v] 117 ++ cells))∧Zf2 9 176 v (x.items.drop j) cells) _ _ hx hcc ⟨.pointer none,[],by simp,by rw [List.drop_length];exact ⟨rfl,rfl⟩⟩ ?_) ?_
 rintro j i y row B9 s9 hle9 ⟨v,cells,hp,hl⟩ hy hrow
 obtain ⟨qy,cy,rfl,hy5,hy6,hy7⟩:=hrow
 have hy5n:=hy5.len
 obtain ⟨p9,rfl⟩:=hl.ptr
 obtain ⟨hA,hN⟩:=Zsx (a:=9) (b:=10) (x:=.int .i64 i) (y:=.agg #[.int .i64 y.id,str y.fr,str y.text,.slice qy y.left.length cy]) hTS hTn rfl rfl
 refine ⟨lp,hp.mem_iff.2 (List.mem_cons_self ..),by rw [hps];rfl,?_⟩
 rw [hps,hasg,hbd]
 refine ZpH (L:=[ZaE b2 [.pointer p9] 117,cells]) (lp:=lp) hN [(3,_),(9,_),(10,_)] (hA.sub t3) (by simpa using hp) hst ?_
 refine Ze (xAl [_,_,_,_] ZfD (h:=fun b4=>xS [_,_,_,_] 3 [_,_,_,_] Zde (h:=⟨rfl,rfl,rfl,(Zv [_,_,_,_] rfl (Zp (Z8 (keeps _ [1,3] _) mo kr ⟨Kn.le.refl _,Zam.refl _ _⟩ (fun _ _=>?_))))⟩)))
 refine aT 0 rfl (ZG fun D B L hI=>Z6 [_,_,_,_] rfl rfl ZhB rfl (Zaf 3 (hI.2.2.1.trans rfl) rfl rfl) r4) (h:=aT 2 rfl (ZG fun D B L hI=>Zn rfl rfl ZtE rfl (atL 1 (hI.2.1.trans rfl) rfl rfl) r4) (h:=Zu 1 kr rfl kr (Zaa rfl rfl ZxQ rfl (Ziu _ _ y _ hy5) ?_)))
 rintro _ B5 _ hle5 ⟨rfl,ins5,a5,c5,rfl,rfl,hs5⟩
 refine ⟨⟨Kn.le.refl _,t2⟩,(aT 3 rfl (ZG fun D B L hI=>ZaH (parts:=[(0,_),(1,_)]) [_,_,_,_,_] [_,_,_,_,_] rfl rfl Zwy Zwa rfl rfl rfl r4) (h:=Zu 4 kr rfl kr (ZuT (l:=[_,_,_,_,_]) rfl rfl rfl rfl (fun b6=>?_))))⟩
 refine ⟨⟨Kn.le.refl _,t2⟩,(ZV 5 kr rfl kr kr kr (ZN [_] 1 [_] rfl rfl Zwt rfl rfl rfl rfl rfl rfl rfl rfl ?_))⟩
 refine Zz (⟨rfl,rfl,(l,Obj.loop lp) :: (ZaE b2 [ptr ⟨b6,0,none⟩] 117 ++ (ZaE b6 ([.int .i64 y.id,str y.fr,str y.text,.slice a5 y.left.length c5] ++ [.pointer p9]) 176 ++ (ins5 ++ cells))),ZaE b4 [.int .i64 y.id,str y.fr,str y.text,.slice qy y.left.length cy] 88,?_,_,_,.refl _,?_⟩)
 refine (Za2 [0,1,5,4,2] _ _ _ rfl).trans ?_
 rw [hlp]
 simp [ZaE]
 rw [ZqH hy]
 exact ⟨_,_,_,_,_,rfl,.refl _,⟨_,_,rfl,hs5,oy,oy,oy⟩,hl⟩
 rintro _ B9 _ hle9 ⟨s9,rfl,v,cells,hp,hl⟩
 exact ⟨[ZaE b2 [v] 117,cells],_,rfl,by simpa using hp,v,cells,rfl,by simpa using hl⟩
 obtain ⟨v,s9,rfl,hl⟩:=hJ
 refine Zz (Zf (Za (x1 ZtE 0 (h:=xA (h:=Zv [_,_,_] rfl (Zh ?_))))))
 exact ⟨.inl rfl,r,2,rfl,rfl,[_],[_],t1,⟨_,List.perm_append_comm⟩,_,rfl,hl⟩

set_option maxHeartbeats 400000 in
theorem ZpK (nx:Int) (v:Value) (xs:List DItem) (cells:Cells) (B:Kn) (hn:xs.length≤2000000) (hv:Zf2 9 176 v xs cells):ZA (pj J) 81 [.int .i64 nx,v] B [cells] (fun v B' Ls=>B'=B∧∃l q c,Ls=[l]∧v = .agg #[.int .i64 nx,.slice q xs.length c]∧Zc1 l q c 88 4 (ZcC 9) xs):=by
 refine Zc 27 Tryz.func81 rfl rfl rfl (Nat.le_of_ble_eq_true rfl) ?_
 obtain ⟨p,rfl⟩:=hv.ptr
 refine Za (xAl [_,_] Zfr (h:=fun b1=>Zv [_,_] rfl (Za (xM (h:=xBs [] [] Tryz.underlying25 Zde ZfD (h:=fun b2=>xB [(0,_),(1,_)] [_,_] [_,_] Zra Zfr (h:=xAl [_,_] Zfr (h:=fun b3=>xS [_,_] 3 [_,_] Zdo (h:=Zv [_,_,_,_] rfl (Zl (Za (xM (h:=?_)))))))))))))
 refine xA (h:=Zp (ZQ (α:=QOf) [0,1,4,5] (fun g=>[(6,.pointer g.p)]) [0,2,3] (fun g=>[g.cells,g.l,ZaE b3 [.int .i64 nx,.slice g.q g.ys.length g.c] 27]) (fun g Bx=>Bx=B∧g.ys ++ g.xs=xs∧Zc1 g.l g.q g.c 88 4 (ZcC 9) g.ys∧Zf2 9 176 (.pointer g.p) g.xs g.cells) (fun g=>g.xs.length) ⟨p,[],xs,_,_,_,_⟩ t1 rfl (⟨rfl,rfl,.lit0,hv⟩) (fun g B4 hle4 hI=>?_)))
 obtain ⟨rfl,hxs,hvd,hl⟩:=hI
 refine ZO [(0,_),(1,_),(4,_),(5,_),(6,_)] [_,_,_,_] t5 rfl (Zl (Za (xM (h:=Zo (ZuI rfl rfl rfl rfl rfl (Zsf Tryz.underlying117) (Zd rfl (fun g1=>?_) (fun g1=>?_)))))))
 try simp only [sQ,ne_eq] at g1
 obtain ⟨y,ys,b8,q8,c8,np,ins8,rest8,hp8,hrest,hperm,hy5,hy6,hy7,hy8,hl8⟩:=hl.more (by simpa using g1)
 rw [hp8]
 have hlen:=congrArg List.length hxs
 rw [List.length_append,hrest,List.length_cons] at hlen
 replace hlen:g.ys.length+1≤2000000:=by omega
 refine Zs9 0 rfl hperm (Zv [_,_,_,_,_,_] rfl (Zj (Zf (Zl (Zp (Z8 (keeps _ [0,3] _) mo kr ⟨Kn.le.refl _,Zam.refl _ _⟩ (fun _ _=>?_)))))))
 refine aW 0 rfl Zap (h:=aT 1 rfl (ZG fun D B L hI=>Zn rfl rfl Zd7 rfl (atL 3 (hI.2.2.1.trans rfl) rfl rfl) r4) (h:=aM 2 rfl (h:=aNc 3 rfl (h:=aW 4 rfl ZtW (h:=aT 5 rfl (ZG fun D B L hI=>Z6 [_,_,_,_] rfl rfl ZhB rfl (Zaf 0 (hI.2.1.trans rfl) rfl rfl) r4) (h:=Zu 6 kr rfl kr (Zx (parts:=[(0,_)]) [_,_,_,_] rfl rfl Tryz.underlying25 Zde ZfD rfl rfl rfl rfl rfl (fun b5=>?_))))))))
 refine ⟨⟨Kn.le.refl _,t2⟩,(Zu 7 kr rfl kr (ZsR (R:=ZcC 9) (z:=y) 2 4 rfl rfl rfl hvd rfl rfl rfl Zt7 Ztm rfl rfl (ZaM.box 6 rfl) rfl rfl ⟨_,_,rfl,hy5,hy6,hy7,hy8⟩ oz (fun l9 q9 c9 hv9=>?_)))⟩
 refine ⟨⟨Kn.le.refl _,t2⟩,(aW 8 rfl Zap (h:=ZV 9 kr rfl kr kr kr (ZN [_] 3 [_,_] rfl rfl Ztk rfl rfl rfl rfl rfl rfl rfl rfl ?_)))⟩
 refine Zz (Zf (Ze (xM (h:=xNc (h:=xW ZtV (h:=x1 ZtE 0 (h:=xA (h:=?_))))))))
 exact ZB ⟨np,g.ys ++ [y],ys,l9,q9,c9,rest8⟩ [5,1,2,3] (by rw [hrest];simp) ⟨rfl,by rw [← hxs,hrest];simp,hv9,hl8⟩ t5 rfl
 try simp only [sQ,ne_eq] at g1
 rw [hl.done (by simpa using g1),List.append_nil] at hxs
 subst hxs
 refine ZT (Zah (ZZ (ZH (Zf (Za (xL [_,_] Zb9 3 (h:=xS [_,_] 1 [_,_] Zdo (h:=Zv [_,_,_,_] rfl (Zh ?_)))))))))
 exact Zad .ret (.inl rfl) [_] [2] rfl ⟨⟨_,rfl,.inr ⟨[_,_],Zb9,Zaf 1 rfl rfl rfl,rfl⟩⟩,trivial⟩ ⟨rfl,_,_,_,rfl,rfl,hvd⟩

set_option maxHeartbeats 400000 in
theorem Zha (q:Option Addr) (cp:Nat) (x:DQueue) (B:Kn) (hx:SlK B q cp 4 Zi x.items):ZA (pj J) 43 [.agg #[.int .i64 x.next,.slice q x.items.length cp]] B [] (fun v B' Ls=>∃l q c,Ls=[l]∧v = .agg #[.int .i64 x.next,.slice q x.items.length c]∧Zc1 l q c 88 4 (ZcC 9) x.items):=by
 refine Zc 8 Tryz.func43 rfl rfl rfl (Nat.le_of_ble_eq_true rfl) ?_
 have hxn:=hx.len
 refine Za (xBx [_,_] (h:=fun b1=>xAl [_,_] Zfr (h:=fun b2=>Zv [_,_] rfl (Zl (Z8 (keeps _ [0] _) mo kr ⟨Kn.le.refl _,Zam.refl _ _⟩ (fun _ _=>?_))))))
 refine aW 0 rfl ZcF (h:=aT 1 rfl (ZG fun D B L hI=>Zn rfl rfl lk3 rfl (atL 0 (hI.2.1.trans rfl) rfl rfl) r4) (h:=aT 2 rfl (ZG fun D B L hI=>Z6 [_,_] rfl rfl Zb9 rfl (Zaf 0 (hI.2.1.trans rfl) rfl rfl) r4) (h:=Zu 3 kr rfl kr (Zaa rfl rfl Zyk rfl (Zmy _ _ x _ hx) ?_))))
 rintro _ B3 _ hle3 ⟨sl3,rfl,hl3⟩
 replace hx:=hx.mono Zi.mono hle3
 refine ⟨⟨hle3,t1⟩,(Zu 4 kr rfl kr (Z4 [2] rfl rfl rfl rfl Zyl rfl (ZpK _ _ _ _ _ oa hl3) ?_))⟩
 rintro _ B4 _ hle4 ⟨rfl,ld4,ad4,cd4,rfl,rfl,hd4⟩
 refine ⟨⟨hle3,t1⟩,(ZV 5 kr rfl kr kr kr (ZN [_,_] 1 [_,_] rfl rfl Zdo rfl rfl rfl rfl rfl rfl rfl rfl ?_))⟩
 refine Zf (Zv [_,_,_] rfl (Zh ?_))
 exact Zad .ret (.inl rfl) [_] [2] rfl ⟨⟨_,rfl,.inr ⟨[_,_],Zb9,Zaf 1 rfl rfl rfl,rfl⟩⟩,trivial⟩ ⟨_,_,_,rfl,rfl,hd4⟩

set_option maxHeartbeats 400000 in
theorem Zqd (q:Option Addr) (m cp:Nat) (B:Kn):ZaL (pj J) 213 [.slice q m cp] B (.int .i64 m):=by
 refine Zc 5 Tryz.func213 rfl rfl rfl (Nat.le_of_ble_eq_true rfl) ?_
 refine Za (xA (h:=Za (xM (h:=xV Tryz.underlying172 (h:=xA (h:=Zh ?_))))))
 exact ZY .ret (.inl rfl) [_] t1 ⟨rfl,rfl,rfl⟩

set_option maxHeartbeats 400000 in
theorem Zgo (q:Option Addr) (cp:Nat) (xs:List Int) (i j:Nat) (a b:Int) (hi:xs[i]? = some a) (hj:xs[j]? = some b) (B:Kn) (hx:SlK B q cp 1 Zbz xs):ZaL (pj J) 214 [.slice q xs.length cp,.int .i64 i,.int .i64 j] B (.bool (decide (a<b))):=by
 refine Zc 16 Tryz.func214 rfl rfl rfl (Nat.le_of_ble_eq_true rfl) ?_
 have hil:=Zb8 hi
 have hjl:=Zb8 hj
 refine Za (xA (h:=Zl (Z8 (same _ _) mo kr ⟨rfl,rfl⟩ (fun _ _=>?_))))
 refine aM 0 rfl (h:=aM 1 rfl (h:=?_))
 obtain ⟨z,hz⟩:=Zaj (xs:=xs) (i:=i) om
 obtain ⟨bb2,oo2,rfl⟩:=hx.base hz
 obtain ⟨_,rfl,hc3⟩:=hx.elem hz
 refine aIx 2 rfl Tryz.underlying171 sz3 (h:=aT 3 rfl (Zan fun D=>Zn rfl rfl lk3 rfl (hc3 _ 0 _ rfl) r4) (h:=aM 4 rfl (h:=aM 5 rfl (h:=?_))))
 obtain ⟨w,hw⟩:=Zaj (xs:=xs) (i:=j) om
 obtain ⟨_,rfl,hc5⟩:=hx.elem hw
 refine aIx 6 rfl Tryz.underlying171 sz3 (h:=?_)
 rw [hi] at hz
 cases hz
 rw [hj] at hw
 cases hw
 refine aT 7 rfl (Zan fun D=>Zn rfl rfl lk3 rfl (hc5 _ 0 _ rfl) r4) (h:=ZqZ 8 rfl (h:=aA 9 rfl (h:=ZC kr kr ?_)))
 refine Zf (Zh ?_)
 exact ZY .ret (.inl rfl) [_] t1 ⟨rfl,rfl,rfl⟩

set_option maxHeartbeats 400000 in
theorem Zr0 (b:Nat) (q:Option Addr) (cp:Nat) (xs:List Int) (l:Cells) (z:Int) (hn:xs.length≤2000000) (B:Kn) (hv:Z2 B l q cp 3 1 Zbz xs):ZA (pj J) 216 [ptr ⟨b,0,none⟩,.iface 3 (.int .i64 z)] B [ZaE b [.slice q xs.length cp] 172,l] (fun v B' Ls=>B'=B∧∃q' c' l',Ls=[ZaE b [.slice q' (xs ++ [z]).length c'] 172,l']∧Z2 B l' q' c' 3 1 Zbz (xs ++ [z])):=by
 refine Zc 13 Tryz.func216 rfl rfl rfl (Nat.le_of_ble_eq_true rfl) ?_
 refine Z8 (keeps _ [0] _) mo kr ⟨Kn.le.refl _,Zam.refl _ _⟩ (fun _ _=>?_)
 refine aM 0 rfl (h:=aM 1 rfl (h:=aNc 2 rfl (h:=aT 3 rfl (ZG fun D B L hI=>Zn rfl rfl Zfs rfl (atL 0 (hI.2.1.trans rfl) rfl rfl) r4) (h:=aM 4 rfl (h:=aT 5 rfl (ZG fun D B L hI=>ZkR rfl rfl Tryz.underlying3 rfl rfl r4) (h:=Zu 6 kr rfl kr (Zx (parts:=[(0,_)]) [_] rfl rfl Tryz.underlying171 sz3 zo3 rfl rfl rfl rfl rfl (fun b1=>?_))))))))
 refine ⟨⟨Kn.le.refl _,t1⟩,(Zu 7 kr rfl kr (Zba (z:=z) (R:=Zbz) 1 rfl hv rfl rfl rfl ZwH Zwu rfl rfl (ZaM.box 2 rfl) rfl rfl (rfl) om (fun l2 p2 c2 hv2=>?_)))⟩
 refine ⟨⟨Kn.le.refl _,t1⟩,(aNc 8 rfl (h:=ZV 9 kr rfl kr kr kr (ZN [_] 0 [_] rfl rfl Zu1 rfl rfl rfl rfl rfl rfl rfl rfl ?_)))⟩
 exact Zad .normal (.inr rfl) [] [0,1] rfl trivial ⟨rfl,_,_,_,rfl,hv2⟩

set_option maxHeartbeats 400000 in
theorem ZtP (b:Nat) (q:Option Addr) (cp:Nat) (xs:List Int) (l:Cells) (z:Int) (hz:xs[xs.length - 1]? = some z) (hn:xs.length≤2000000) (B:Kn) (hv:Z2 B l q cp 3 1 Zbz xs):ZA (pj J) 215 [ptr ⟨b,0,none⟩] B [ZaE b [.slice q xs.length cp] 172,l] (fun v B' Ls=>B'=B∧v = .iface 3 (.int .i64 z)∧Ls=[ZaE b [.slice q (xs.length - 1) cp] 172,l]∧Z2 B l q cp 3 1 Zbz (xs.take (xs.length - 1))):=by
 refine Zc 25 Tryz.func215 rfl rfl rfl (Nat.le_of_ble_eq_true rfl) ?_
 have hl1:=Zb8 hz
 have hcp:=hv.cap
 have hv9:=hv.take (k:=xs.length - 1) oz
 have hs0:=hv.slice0 (sz:=1)
 refine Za (xA (h:=Za (xM (h:=xNc (h:=x1 Zfs 0 (h:=xV Tryz.underlying172 (h:=Zo (Zjc (r:=((xs.length - 1:Nat):Int)) rfl rfl rfl rfl (by rw [show ((xs.length:Int) - 1)=((xs.length - 1:Nat):Int) from by omega];exact ZaX oz oz) ?_))))))))
 refine xA (h:=Za (xM (h:=xNc (h:=x1 Zfs 0 (h:=xM (h:=?_))))))
 obtain ⟨w,hw⟩:=Zaj (xs:=xs) (i:=(xs.length - 1)) om
 obtain ⟨bb2,_,hp2,rfl,hw2,hc2⟩:=hv.row hw
 refine xIp hp2 Tryz.underlying171 sz3 (h:=?_)
 rw [hz] at hw
 cases hw
 refine Zo (Zn rfl rfl lk3 rfl (hc2 _ 1 rfl 0 _ rfl) (xA (h:=Za (xM (h:=xM (h:=xNc (h:=x1 Zfs 0 (h:=xM (h:=Zo (Zfh rfl rfl Tryz.underlying171 sz3 rfl (a:=0) (b:=xs.length - 1) rfl ⟨_,_,rfl,rfl⟩ oz oz ?_))))))))))
 rw [hs0]
 refine xNc (h:=xS [_] 0 [_] Zu1 (h:=Zv [_,_] rfl (Za (xM (h:=Zo (Zet rfl rfl Tryz.underlying3 rfl rfl (xA (h:=Zh ?_))))))))
 exact Zad .ret (.inl rfl) [_] [0,1] rfl t1 ⟨rfl,rfl,rfl,hv9⟩

set_option maxHeartbeats 400000 in
theorem Zgn (q:Option Addr) (cp:Nat) (xs:List Int) (l:Cells) (i j:Nat) (a b:Int) (hi:xs[i]? = some a) (hj:xs[j]? = some b) (hn:xs.length≤2000000) (B:Kn) (hv:Z2 B l q cp 3 1 Zbz xs):ZA (pj J) 217 [.slice q xs.length cp,.int .i64 i,.int .i64 j] B [l] (fun v B' Ls=>B'=B∧∃l',Ls=[l']∧Z2 B l' q cp 3 1 Zbz ((xs.set i b).set j a)):=by
 refine Zc 20 Tryz.func217 rfl rfl rfl (Nat.le_of_ble_eq_true rfl) ?_
 have hil:=Zb8 hi
 have hjl:=Zb8 hj
 refine Z8 (keeps _ [0] _) mo kr ⟨Kn.le.refl _,Zam.refl _ _⟩ (fun _ _=>?_)
 refine aM 0 rfl (h:=aM 1 rfl (h:=aM 2 rfl (h:=aM 3 rfl (h:=aM 4 rfl (h:=aM 5 rfl (h:=?_))))))
 obtain ⟨y,hy⟩:=Zaj (xs:=xs) (i:=j) om
 obtain ⟨bb2,_,hp2,rfl,hw2,hc2⟩:=hv.row hy
 refine aT 6 rfl (ZG fun D B L hI=>Zf8 hp2 rfl rfl Tryz.underlying171 sz3 rfl rfl om om r4) (h:=?_)
 refine aT 7 rfl (ZG fun D B L hI=>Zn rfl rfl lk3 rfl (hc2 _ 0 (hI.2.1.trans rfl) 0 _ rfl) r4) (h:=aM 8 rfl (h:=aM 9 rfl (h:=?_)))
 obtain ⟨x,hx⟩:=Zaj (xs:=xs) (i:=i) om
 obtain ⟨bb4,_,hp4,rfl,hw4,hc4⟩:=hv.row hx
 refine aT 10 rfl (ZG fun D B L hI=>Zf8 hp4 rfl rfl Tryz.underlying171 sz3 rfl rfl om om r4) (h:=?_)
 refine aT 11 rfl (ZG fun D B L hI=>Zn rfl rfl lk3 rfl (hc4 _ 0 (hI.2.1.trans rfl) 0 _ rfl) r4) (h:=?_)
 obtain ⟨bb5,_,hp5,rfl,hw5,hc5⟩:=hv.row hx
 refine aT 12 rfl (ZG fun D B L hI=>Zf8 hp5 rfl rfl Tryz.underlying171 sz3 rfl rfl om om r4) (h:=?_)
 refine Zbb 13 kr rfl kr kr (Zes (k:=i) (off:=0) (y) [_] 0 hv hp5 hx rfl rfl sz3 rfl rfl rfl rfl rfl rfl ((fun row h=>by cases h;rfl)) (fun l6 hv6=>?_))
 obtain ⟨w,hw⟩:=Zaj (xs:=(xs.set i (y))) (i:=j) om
 obtain ⟨bb8,_,hp8,rfl,hw8,hc8⟩:=hv6.row hw
 refine aT 14 rfl (ZG fun D B L hI=>Zf8 hp8 rfl rfl Tryz.underlying171 sz3 rfl rfl om om r4) (h:=?_)
 refine ZV 15 kr rfl kr kr kr (Zes (k:=j) (off:=0) (x) [_] 0 hv6 hp8 hw rfl rfl sz3 rfl rfl rfl rfl rfl rfl ((fun row h=>by cases h;rfl)) (fun l9 hv9=>?_))
 rw [hi] at hx
 cases hx
 rw [hj] at hy
 cases hy
 exact Zad .normal (.inr rfl) [] [0] rfl trivial ⟨rfl,_,rfl,hv9⟩

set_option maxHeartbeats 400000 in
theorem Zr3 (b:Nat) (q:Option Addr) (cp:Nat) (xs:List Int) (l:Cells) (j:Nat) (hj:j<xs.length) (hn:xs.length≤2000000) (hh:Zf3 xs j) (B:Kn) (hv:Z2 B l q cp 3 1 Zbz xs):ZA (pj J) 163 [.iface 170 (ptr ⟨b,0,none⟩),.int .i64 j] B [ZaE b [.slice q xs.length cp] 172,l] (fun v B' Ls=>B'=B∧∃ys l',Ls=[ZaE b [.slice q ys.length cp] 172,l']∧Z2 B l' q cp 3 1 Zbz ys∧ys.Perm xs∧ZdH ys):=by
 refine Zc 23 Tryz.func163 rfl rfl rfl (Nat.le_of_ble_eq_true rfl) ?_
 refine Zp (ZQ (α:=Nat × List Int × Cells) [0] (fun g=>[(1,.int .i64 g.1)]) [0,1] (fun g=>[ZaE b [.slice q g.2.1.length cp] 172,g.2.2]) (fun g Bx=>Bx=B∧g.1<g.2.1.length∧g.2.1.Perm xs∧Zf3 g.2.1 g.1∧Z2 B g.2.2 q cp 3 1 Zbz g.2.1) (fun g=>g.1) (j,xs,l) t1 rfl (⟨rfl,hj,.refl _,hh,hv⟩) (fun g B1 hle1 hI=>?_))
 obtain ⟨rfl,hk,hp,hb,hv⟩:=hI
 have hpl:=hp.length_eq
 refine ZO [(0,_),(1,_)] [_,_] t2 rfl (Zp (Za (xM (h:=Zo (Zjc rfl rfl rfl rfl (ZaX oz oz) ?_)))))
 refine Zo (ZhR (r:=(((g.1 - 1) / 2:Nat):Int)) rfl rfl rfl rfl oz (by rw [show Int.tdiv ((g.1:Int) - 1) 2=(((g.1 - 1) / 2:Nat):Int) from Zwm g.1];exact ZaX oz oz) ?_)
 refine xA (h:=Zl (Za (xM (h:=xM (h:=ZI (h:=xM (h:=Zt (d:=11) rfl (fun g1=>?_) (fun g1=>?_))))))))
 try simp only [sQ,ne_eq] at g1
 refine xP (h:=xP (h:=xP (h:=xP (h:=xP (h:=xT (h:=Zd (t:=true) rfl (fun _=>ZT (Zah (Zfl rfl (ZZ (ZH ?_))))) (fun h=>Bool.noConfusion h)))))))
 exact Zad .normal (.inr rfl) [] [0,1] rfl trivial ⟨rfl,_,_,rfl,hv,hp,Ztf (by rw [show g.1=0 from by omega] at hb;exact hb)⟩
 try simp only [sQ,ne_eq] at g1
 refine xM (h:=xM (h:=xM (h:=Zo (ZfE 1 rfl rfl rfl ZqE rfl rfl (ZbC Zef Tryz.underlying170 Zfs (atL 0 rfl rfl rfl)) (ZaL.borrow fun hm2=>Zgo _ _ _ _ _ _ _ (Za5 oz) (Za5 oz) _ (hv.lend Zbz.mono hm2 om)) ?_))))
 refine xN (h:=xF (h:=Zd rfl (fun g2=>?_) (fun g2=>?_)))
 try simp only [sQ,ne_eq] at g2
 refine ZT (Zah (Zfl rfl (ZZ (ZH ?_))))
 exact Zad .normal (.inr rfl) [] [0,1] rfl trivial ⟨rfl,_,_,rfl,hv,hp,Zth hb (by simpa using g2)⟩
 try simp only [sQ,ne_eq] at g2
 refine Zj (Zf (Za (xM (h:=xM (h:=xM (h:=Zo (Zg3 [1] rfl rfl rfl rfl ZqD rfl rfl (ZbC Zee Tryz.underlying170 Zfs (atL 0 rfl rfl rfl)) (Zgn _ _ _ _ _ _ _ _ (Za5 oz) (Za5 oz) oz _ hv) ?_)))))))
 rintro _ B3 _ hle3 ⟨rfl,l3,rfl,hv3⟩
 refine Zv [_,_] rfl (Ze (xM (h:=xA (h:=Zz ?_))))
 rw [← Zdp g.2.1 ((g.1 - 1) / 2) g.1]
 exact ZB ((g.1 - 1) / 2,(swp g.2.1 ((g.1 - 1) / 2) g.1),l3) [0,1] (so) ⟨rfl,by have:=Zdp g.2.1 ((g.1 - 1) / 2) g.1;simp only [];omega,(Zgb oz oz).trans hp,Ztg oz oz hb (by simpa using g2),hv3⟩ t2 rfl

end Go.Proofs.YtpgdailphhongaaGreatDoor
