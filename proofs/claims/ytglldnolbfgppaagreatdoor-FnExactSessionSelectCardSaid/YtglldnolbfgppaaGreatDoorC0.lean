/-
  WHAT THE FUNCTIONS THAT THE LAWS REACH COMPUTE: each function's contract, proved off its printed body (the text is written by program). No condition beyond those that each theorem states.
-/
import Derived.Test.YtglldnolbfgppaaGreatDoorRows
import Derived.Test.YtglldnolbfgppaaGreatDoorL0
import Derived.KernelRfl
namespace Go.Proofs.YtglldnolbfgppaaGreatDoor
open Go Go.BL
set_option linter.unusedVariables false
set_option linter.unusedSimpArgs false
noncomputable abbrev pj (J : JoinT) : PJ := ⟨Tryz.prog, J⟩
noncomputable abbrev wgL : Go.Conc.Lib.WgLink := { add := 75, done := 77, wait := 82, relMerge := 108, disable := 109, enable := 110, inBubble := 111, associate := 112, fatal := 113, uOr := 114, uAdd := 115, raceRead := 116, uLoad := 117, uStore := 118, disassociate := 119, semrelease := 120, acquire := 124, isAssociated := 125, uCas := 126, raceWrite := 127, semacquire := 128, orU64 := 143, addU64 := 144, loadU64 := 145, storeU64 := 146, casU64 := 151, tWg := 137, tUP := 174, tAssoc := 175, tAU := 134, tU64 := 132, tUint := 179, tU32 := 135, tNoCopy := 129, tANoCopy := 130, tAlign64 := 131, tWgP := 172, tPU32 := 180, tPAU := 222, tPU64 := 224 }
theorem Ziq : Go.Conc.Lib.WgLib Tryz.prog wgL :=
  ⟨Tryz.func75, Tryz.func77, Tryz.func82, Tryz.func108, Tryz.func109, Tryz.func110, Tryz.func111, Tryz.func112, Tryz.func113, Tryz.func114, Tryz.func115, Tryz.func116, Tryz.func117, Tryz.func118, Tryz.func119, Tryz.func120, Tryz.func124, Tryz.func125, Tryz.func126, Tryz.func127, Tryz.func128, Tryz.func143, Tryz.func144, Tryz.func145, Tryz.func146, Tryz.func151, Tryz.underlying172, Tryz.runUnderlying172, Tryz.sizeOf172, Tryz.isAgg172, Tryz.zeroValue172, Tryz.underlying174, Tryz.runUnderlying174, Tryz.sizeOf174, Tryz.isAgg174, Tryz.zeroValue174, Tryz.underlying175, Tryz.runUnderlying175, Tryz.sizeOf175, Tryz.isAgg175, Tryz.zeroValue175, Tryz.underlying137, Tryz.runUnderlying137, Tryz.sizeOf137, Tryz.isAgg137, Tryz.zeroValue137, Tryz.underlying134, Tryz.runUnderlying134, Tryz.sizeOf134, Tryz.isAgg134, Tryz.zeroValue134, Tryz.underlying132, Tryz.runUnderlying132, Tryz.sizeOf132, Tryz.isAgg132, Tryz.zeroValue132, Tryz.underlying179, Tryz.runUnderlying179, Tryz.sizeOf179, Tryz.isAgg179, Tryz.zeroValue179, Tryz.underlying135, Tryz.runUnderlying135, Tryz.sizeOf135, Tryz.isAgg135, Tryz.zeroValue135, Tryz.underlying180, Tryz.runUnderlying180, Tryz.sizeOf180, Tryz.isAgg180, Tryz.zeroValue180, Tryz.underlying222, Tryz.runUnderlying222, Tryz.sizeOf222, Tryz.isAgg222, Tryz.zeroValue222, Tryz.underlying224, Tryz.runUnderlying224, Tryz.sizeOf224, Tryz.isAgg224, Tryz.zeroValue224, Tryz.underlying0, Tryz.runUnderlying0, Tryz.sizeOf0, Tryz.isAgg0, Tryz.zeroValue0, Tryz.underlying3, Tryz.runUnderlying3, Tryz.sizeOf3, Tryz.isAgg3, Tryz.zeroValue3, Tryz.underlying4, Tryz.runUnderlying4, Tryz.sizeOf4, Tryz.isAgg4, Tryz.zeroValue4, Tryz.underlying9, Tryz.runUnderlying9, Tryz.sizeOf9, Tryz.isAgg9, Tryz.zeroValue9, Tryz.underlying20, Tryz.runUnderlying20, Tryz.sizeOf20, Tryz.isAgg20, Tryz.zeroValue20, Tryz.underlying21, Tryz.runUnderlying21, Tryz.sizeOf21, Tryz.isAgg21, Tryz.zeroValue21, (by kernel_rfl), (by kernel_rfl)⟩
theorem ZnX : enters Tryz.prog 59 = true := by kernel_rfl
theorem mo : Tryz.prog.follows .mixedOrders = true := by kernel_rfl
theorem Za6 : Zx Tryz.prog 122 1 = some 1 := by kernel_rfl
theorem lk3 : lk Tryz.prog 3 = some none := by kernel_rfl
theorem ZeH : Zx Tryz.prog 122 0 = some 0 := by kernel_rfl
theorem lk9 : lk Tryz.prog 9 = some none := by kernel_rfl
theorem Zro : enters Tryz.prog 70 = true := by kernel_rfl
theorem sz3 : ZN Tryz.prog 3 = some 1 := by kernel_rfl
theorem Zr9 : enters Tryz.prog 138 = true := by kernel_rfl
theorem ZpR : enters Tryz.prog 102 = true := by kernel_rfl
theorem Zso : enters Tryz.prog 103 = true := by kernel_rfl
theorem ZqE : ZcS Tryz.prog 122 = some [(0, 1), (1, 1)] := by kernel_rfl
theorem ZmV : Z8 Tryz.prog 122 = some (.agg #[.string ⟨#[]⟩, .int .i64 0]) := by kernel_rfl
theorem ZqB : ZN Tryz.prog 122 = some 2 := by kernel_rfl
theorem sz9 : ZN Tryz.prog 9 = some 1 := by kernel_rfl
theorem zo9 : Z8 Tryz.prog 9 = some (.string ⟨#[]⟩) := by kernel_rfl
theorem ZrT : ZcE Tryz.prog 81 9 1 16 = true := by kernel_rfl
theorem ZsA : (match Program.underlying Tryz.prog 81 with | some (.slice _) => true | _ => false) = true := by kernel_rfl
theorem ZtH : enters Tryz.prog 57 = true := by kernel_rfl
theorem ZpQ : enters Tryz.prog 58 = true := by kernel_rfl
theorem Zfc : ZN Tryz.prog 79 = some 3 := by kernel_rfl
theorem ZbC : Zx Tryz.prog 79 0 = some 0 := by kernel_rfl
theorem Zsc : enters Tryz.prog 135 = true := by kernel_rfl
theorem Zmf : Zx Tryz.prog 113 0 = some 0 := by kernel_rfl
theorem Zi4 : Zx Tryz.prog 113 1 = some 1 := by kernel_rfl
theorem ZlO : lk Tryz.prog 81 = some none := by kernel_rfl
theorem Zte : enters Tryz.prog 96 = true := by kernel_rfl
theorem Zme : Zx Tryz.prog 113 2 = some 2 := by kernel_rfl
theorem ZrZ : enters Tryz.prog 154 = true := by kernel_rfl
theorem ZoM : enters Tryz.prog 79 = true := by kernel_rfl
theorem Zr8 : enters Tryz.prog 139 = true := by kernel_rfl
theorem Zsn : enters Tryz.prog 104 = true := by kernel_rfl
theorem Zc4 : Zx Tryz.prog 40 1 = some 1 := by kernel_rfl
theorem ZlP : lk Tryz.prog 38 = some none := by kernel_rfl
theorem ZhF : ZN Tryz.prog 83 = some 4 := by kernel_rfl
theorem ZmS : lk Tryz.prog 83 = some (some 4) := by kernel_rfl
theorem ZmT : Z8 Tryz.prog 83 = some (.agg #[.int .i64 0, .string ⟨#[]⟩, .string ⟨#[]⟩, .slice none 0 0]) := by kernel_rfl
theorem ZfW : Zx Tryz.prog 83 0 = some 0 := by kernel_rfl
theorem ZfV : Zx Tryz.prog 83 1 = some 1 := by kernel_rfl
theorem ZfU : Zx Tryz.prog 83 3 = some 3 := by kernel_rfl
theorem Zh7 : Zx Tryz.prog 83 2 = some 2 := by kernel_rfl
theorem ZqF : ZcS Tryz.prog 113 = some [(0, 1), (1, 1), (2, 1)] := by kernel_rfl
theorem Zp8 : Z8 Tryz.prog 113 = some (.agg #[.string ⟨#[]⟩, .slice none 0 0, .string ⟨#[]⟩]) := by kernel_rfl
theorem ZtG : enters Tryz.prog 60 = true := by kernel_rfl
theorem ZfX : Zx Tryz.prog 40 0 = some 0 := by kernel_rfl
theorem ZdA : lk Tryz.prog 169 = some none := by kernel_rfl
theorem zo3 : Z8 Tryz.prog 3 = some (.int .i64 0) := by kernel_rfl
theorem ZrU : ZcE Tryz.prog 169 3 1 8 = true := by kernel_rfl
theorem ZrL : (match Program.underlying Tryz.prog 169 with | some (.slice _) => true | _ => false) = true := by kernel_rfl
theorem Zqz : ZN Tryz.prog 169 = some 1 := by kernel_rfl
theorem Zcw : Zg3 Tryz.prog 167 "Less" 172 false = true := by kernel_rfl
theorem Zmw : enters Tryz.prog 172 = true := by kernel_rfl
theorem Zcv : Zg3 Tryz.prog 167 "Swap" 175 false = true := by kernel_rfl
theorem Zmv : enters Tryz.prog 175 = true := by kernel_rfl
theorem Zkl : Zg3 Tryz.prog 167 "Push" 174 true = true := by kernel_rfl
theorem ZrX : enters Tryz.prog 174 = true := by kernel_rfl
theorem ZhS : Zg3 Tryz.prog 167 "Len" 171 false = true := by kernel_rfl
theorem Zq3 : enters Tryz.prog 171 = true := by kernel_rfl
theorem Zr7 : enters Tryz.prog 140 = true := by kernel_rfl
theorem Zr6 : enters Tryz.prog 141 = true := by kernel_rfl
theorem ZlI : Zg3 Tryz.prog 167 "Pop" 173 true = true := by kernel_rfl
theorem ZrY : enters Tryz.prog 173 = true := by kernel_rfl
theorem Zsm : enters Tryz.prog 105 = true := by kernel_rfl
theorem Zsl : enters Tryz.prog 106 = true := by kernel_rfl
theorem Ztv : enters Tryz.prog 72 = true := by kernel_rfl
theorem Ztu : enters Tryz.prog 73 = true := by kernel_rfl
theorem Zcg : Zx Tryz.prog 160 0 = some 0 := by kernel_rfl
theorem ZfZ : Zx Tryz.prog 160 1 = some 1 := by kernel_rfl
theorem Zsb : enters Tryz.prog 136 = true := by kernel_rfl
theorem ZdY : Zx Tryz.prog 160 2 = some 2 := by kernel_rfl
theorem Zr2 : enters Tryz.prog 150 = true := by kernel_rfl
theorem Zcy : Zx Tryz.prog 90 1 = some 1 := by kernel_rfl
theorem ZkN : lk Tryz.prog 88 = some none := by kernel_rfl
theorem Zex : ZN Tryz.prog 160 = some 3 := by kernel_rfl
theorem ZhV : lk Tryz.prog 160 = some (some 3) := by kernel_rfl
theorem Ztd : enters Tryz.prog 97 = true := by kernel_rfl
theorem ZgK : Zx Tryz.prog 90 0 = some 0 := by kernel_rfl
theorem ZkQ : Z8 Tryz.prog 160 = some (.agg #[.int .i64 0, .int .i64 0, .string ⟨#[]⟩]) := by kernel_rfl
theorem Zsj : enters Tryz.prog 123 = true := by kernel_rfl
theorem ZnA : lk Tryz.prog 90 = some (some 2) := by kernel_rfl
theorem ZsL : enters Tryz.prog 81 = true := by kernel_rfl
theorem Zh8 : Zx Tryz.prog 79 1 = some 1 := by kernel_rfl
theorem Ze4 : Zx Tryz.prog 79 2 = some 2 := by kernel_rfl
theorem Zio : lk Tryz.prog 79 = some (some 3) := by kernel_rfl
theorem ZjY : Z8 Tryz.prog 79 = some (.agg #[.string ⟨#[]⟩, .string ⟨#[]⟩, .int .i64 0]) := by kernel_rfl
theorem Ztw : enters Tryz.prog 71 = true := by kernel_rfl
theorem ZsP : enters Tryz.prog 42 = true := by kernel_rfl
theorem Zs1 : ZcS Tryz.prog 79 = some [(0, 1), (1, 1), (2, 1)] := by kernel_rfl
theorem Zr5 : enters Tryz.prog 147 = true := by kernel_rfl
theorem Zr4 : enters Tryz.prog 148 = true := by kernel_rfl
theorem ZbK : Zx Tryz.prog 42 1 = some 1 := by kernel_rfl
theorem ZiS : lk Tryz.prog 36 = some none := by kernel_rfl
theorem Zq5 : enters Tryz.prog 121 = true := by kernel_rfl
theorem ZaA : Zx Tryz.prog 42 2 = some 2 := by kernel_rfl
theorem Zfh : lk Tryz.prog 37 = some none := by kernel_rfl
theorem ZeU : ZN Tryz.prog 92 = some 5 := by kernel_rfl
theorem ZbB : Zx Tryz.prog 92 0 = some 0 := by kernel_rfl
theorem Zdh : Zx Tryz.prog 92 1 = some 1 := by kernel_rfl
theorem ZiR : lk Tryz.prog 92 = some (some 5) := by kernel_rfl
theorem Zto : enters Tryz.prog 85 = true := by kernel_rfl
theorem Ztn : enters Tryz.prog 86 = true := by kernel_rfl
theorem Ze5 : Zx Tryz.prog 42 3 = some 3 := by kernel_rfl
theorem Zrn : enters Tryz.prog 78 = true := by kernel_rfl
theorem ZdO : ZN Tryz.prog 157 = some 2 := by kernel_rfl
theorem ZbH : Zx Tryz.prog 157 0 = some 0 := by kernel_rfl
theorem ZcY : Zx Tryz.prog 157 1 = some 1 := by kernel_rfl
theorem Zrq : enters Tryz.prog 35 = true := by kernel_rfl
theorem ZfS : Zx Tryz.prog 92 3 = some 3 := by kernel_rfl
theorem ZtC : enters Tryz.prog 64 = true := by kernel_rfl
theorem Zoi : Z8 Tryz.prog 92 = some (.agg #[.string ⟨#[]⟩, .string ⟨#[]⟩, .slice none 0 0, .int .i64 0, .slice none 0 0]) := by kernel_rfl
theorem ZfT : Zx Tryz.prog 92 2 = some 2 := by kernel_rfl
theorem Zp5 : lk Tryz.prog 87 = some none := by kernel_rfl
theorem ZtF : enters Tryz.prog 61 = true := by kernel_rfl
theorem ZtE : enters Tryz.prog 62 = true := by kernel_rfl
theorem ZtD : enters Tryz.prog 63 = true := by kernel_rfl
theorem Zh9 : Zx Tryz.prog 42 0 = some 0 := by kernel_rfl
theorem Zt2 : enters Tryz.prog 30 = true := by kernel_rfl
theorem Zt1 : enters Tryz.prog 31 = true := by kernel_rfl
theorem Zp6 : lk Tryz.prog 40 = some (some 2) := by kernel_rfl
theorem Zt0 : enters Tryz.prog 32 = true := by kernel_rfl
theorem Zfg : lk Tryz.prog 42 = some (some 5) := by kernel_rfl
theorem ZtZ : enters Tryz.prog 33 = true := by kernel_rfl
theorem ZsR : enters Tryz.prog 17 = true := by kernel_rfl
theorem ZtY : enters Tryz.prog 34 = true := by kernel_rfl
theorem ZtX : enters Tryz.prog 36 = true := by kernel_rfl
theorem ZlQ : lk Tryz.prog 157 = some (some 2) := by kernel_rfl
theorem ZmU : Z8 Tryz.prog 157 = some (.agg #[.string ⟨#[]⟩, .int .i64 0]) := by kernel_rfl
theorem Zr3 : enters Tryz.prog 149 = true := by kernel_rfl
theorem Zq4 : enters Tryz.prog 122 = true := by kernel_rfl
theorem ZqW : Extern.findNext Tryz.f142 = none := by kernel_rfl
theorem ZqX : Extern.find Tryz.f142 = some Extern.BytealgCompare.compare := by kernel_rfl
theorem Zsk : enters Tryz.prog 107 = true := by kernel_rfl
theorem ZsM : enters Tryz.prog 74 = true := by kernel_rfl
theorem Zr1 : enters Tryz.prog 152 = true := by kernel_rfl
theorem Zsh : enters Tryz.prog 130 = true := by kernel_rfl
theorem ZsO : enters Tryz.prog 48 = true := by kernel_rfl
theorem Ztp : enters Tryz.prog 84 = true := by kernel_rfl
theorem sz4 : ZN Tryz.prog 4 = some 1 := by kernel_rfl
theorem lk4 : lk Tryz.prog 4 = some none := by kernel_rfl
theorem Zsi : enters Tryz.prog 129 = true := by kernel_rfl
theorem Ztx : enters Tryz.prog 69 = true := by kernel_rfl
theorem ZqN : lk Tryz.prog 127 = some none := by kernel_rfl
theorem ZrO : lk Tryz.prog 98 = some none := by kernel_rfl
theorem Zts : enters Tryz.prog 80 = true := by kernel_rfl
theorem Zrv : Z8 Tryz.prog 137 = some (.agg #[.int .u64 0, .int .u32 0]) := by kernel_rfl
theorem ZrV : ZcE Tryz.prog 127 4 1 1 = true := by kernel_rfl
theorem zo4 : Z8 Tryz.prog 4 = some (.bool false) := by kernel_rfl
theorem Zrw : Z8 Tryz.prog 127 = some (.slice none 0 0) := by kernel_rfl
theorem ZrK : ZN Tryz.prog 127 = some 1 := by kernel_rfl
theorem Ztt : enters Tryz.prog 75 = true := by kernel_rfl
theorem Ztr : enters Tryz.prog 82 = true := by kernel_rfl
theorem Ztq : enters Tryz.prog 83 = true := by kernel_rfl
theorem ZtT : enters Tryz.prog 41 = true := by kernel_rfl
theorem ZtS : enters Tryz.prog 43 = true := by kernel_rfl
theorem ZtR : enters Tryz.prog 44 = true := by kernel_rfl
theorem ZtQ : enters Tryz.prog 45 = true := by kernel_rfl
theorem ZtP : enters Tryz.prog 46 = true := by kernel_rfl
theorem ZtO : enters Tryz.prog 47 = true := by kernel_rfl
theorem ZoC : Zx Tryz.prog 67 0 = some 0 := by kernel_rfl
theorem ZoB : Zx Tryz.prog 67 1 = some 1 := by kernel_rfl
theorem Zmd : Zx Tryz.prog 153 0 = some 0 := by kernel_rfl
theorem Zmc : Zx Tryz.prog 210 2 = some 2 := by kernel_rfl
theorem Zsy : ZN Tryz.prog 67 = some 3 := by kernel_rfl
theorem ZsF : lk Tryz.prog 67 = some (some 3) := by kernel_rfl
theorem Zt5 : enters Tryz.prog 27 = true := by kernel_rfl
theorem ZqA : ZN Tryz.prog 153 = some 2 := by kernel_rfl
theorem ZqM : lk Tryz.prog 153 = some (some 2) := by kernel_rfl
theorem Zth : enters Tryz.prog 93 = true := by kernel_rfl
theorem Zqy : ZN Tryz.prog 210 = some 3 := by kernel_rfl
theorem ZqL : lk Tryz.prog 210 = some (some 3) := by kernel_rfl
theorem Zsd : enters Tryz.prog 134 = true := by kernel_rfl
theorem Zmi : Zx Tryz.prog 108 1 = some 1 := by kernel_rfl
theorem Zmh : Zx Tryz.prog 108 2 = some 2 := by kernel_rfl
theorem Zmg : Zx Tryz.prog 108 3 = some 3 := by kernel_rfl
theorem Ztf : enters Tryz.prog 95 = true := by kernel_rfl
theorem ZqC : ZN Tryz.prog 108 = some 4 := by kernel_rfl
theorem ZqO : lk Tryz.prog 108 = some (some 4) := by kernel_rfl
theorem ZtI : enters Tryz.prog 56 = true := by kernel_rfl
theorem ZoA : Zx Tryz.prog 72 1 = some 1 := by kernel_rfl
theorem ZsD : lk Tryz.prog 70 = some none := by kernel_rfl
theorem Ztg : enters Tryz.prog 94 = true := by kernel_rfl
theorem ZoK : Zx Tryz.prog 26 1 = some 1 := by kernel_rfl
theorem ZsH : lk Tryz.prog 24 = some none := by kernel_rfl
theorem Zt3 : enters Tryz.prog 29 = true := by kernel_rfl
theorem Zoz : Zx Tryz.prog 74 0 = some 0 := by kernel_rfl
theorem Zoy : Zx Tryz.prog 74 1 = some 1 := by kernel_rfl
theorem Zox : Zx Tryz.prog 74 2 = some 2 := by kernel_rfl
theorem ZsE : lk Tryz.prog 69 = some none := by kernel_rfl
theorem ZtK : enters Tryz.prog 54 = true := by kernel_rfl
theorem Zow : Zx Tryz.prog 74 3 = some 3 := by kernel_rfl
theorem ZsC : lk Tryz.prog 72 = some (some 2) := by kernel_rfl
theorem ZtJ : enters Tryz.prog 55 = true := by kernel_rfl
theorem Zsx : ZN Tryz.prog 74 = some 5 := by kernel_rfl
theorem ZsB : lk Tryz.prog 74 = some (some 5) := by kernel_rfl
theorem Zt4 : enters Tryz.prog 28 = true := by kernel_rfl
theorem ZoJ : Zx Tryz.prog 28 0 = some 0 := by kernel_rfl
theorem ZoI : Zx Tryz.prog 28 1 = some 1 := by kernel_rfl
theorem ZsJ : lk Tryz.prog 22 = some none := by kernel_rfl
theorem Zuj : enters Tryz.prog 12 = true := by kernel_rfl
theorem ZoH : Zx Tryz.prog 28 2 = some 2 := by kernel_rfl
theorem ZsI : lk Tryz.prog 23 = some none := by kernel_rfl
theorem Zui : enters Tryz.prog 13 = true := by kernel_rfl
theorem ZoG : Zx Tryz.prog 28 3 = some 3 := by kernel_rfl
theorem ZsG : lk Tryz.prog 26 = some (some 2) := by kernel_rfl
theorem Zuh : enters Tryz.prog 14 = true := by kernel_rfl
theorem ZqU : Zx Tryz.prog 67 2 = some 2 := by kernel_rfl
theorem ZpE : Zx Tryz.prog 153 1 = some 1 := by kernel_rfl
theorem ZpD : Zx Tryz.prog 210 0 = some 0 := by kernel_rfl
theorem ZpC : Zx Tryz.prog 210 1 = some 1 := by kernel_rfl
theorem Zta : ZcE Tryz.prog 36 79 3 40 = true := by kernel_rfl
theorem ZtW : enters Tryz.prog 38 = true := by kernel_rfl
theorem Zs7 : ZcE Tryz.prog 87 157 2 24 = true := by kernel_rfl
theorem Ztc : enters Tryz.prog 99 = true := by kernel_rfl
theorem Zs6 : ZcE Tryz.prog 88 160 3 32 = true := by kernel_rfl
theorem Zsa : enters Tryz.prog 137 = true := by kernel_rfl
theorem ZpF : Zx Tryz.prog 108 0 = some 0 := by kernel_rfl
theorem Zsp : enters Tryz.prog 101 = true := by kernel_rfl
theorem ZsX : ZN Tryz.prog 81 = some 1 := by kernel_rfl
theorem Zs8 : ZcE Tryz.prog 38 83 4 64 = true := by kernel_rfl
theorem Zty : enters Tryz.prog 68 = true := by kernel_rfl
theorem Zsu : Z8 Tryz.prog 40 = some (.agg #[.int .i64 0, .slice none 0 0]) := by kernel_rfl
theorem ZqV : Zx Tryz.prog 26 0 = some 0 := by kernel_rfl
theorem ZtU : enters Tryz.prog 40 = true := by kernel_rfl
theorem ZsY : ZN Tryz.prog 38 = some 1 := by kernel_rfl
theorem Zsz : ZN Tryz.prog 40 = some 2 := by kernel_rfl
theorem Zst : Z8 Tryz.prog 90 = some (.agg #[.int .i64 0, .slice none 0 0]) := by kernel_rfl
theorem ZqT : Zx Tryz.prog 72 0 = some 0 := by kernel_rfl
theorem Zsq : enters Tryz.prog 100 = true := by kernel_rfl
theorem ZsV : ZN Tryz.prog 88 = some 1 := by kernel_rfl
theorem Zsw : ZN Tryz.prog 90 = some 2 := by kernel_rfl
theorem ZtA : enters Tryz.prog 66 = true := by kernel_rfl
theorem ZsW : ZN Tryz.prog 87 = some 1 := by kernel_rfl
theorem Ztz : enters Tryz.prog 67 = true := by kernel_rfl
theorem Zs9 : ZcE Tryz.prog 37 92 5 88 = true := by kernel_rfl
theorem ZtV : enters Tryz.prog 39 = true := by kernel_rfl
theorem Zp4 : Z8 Tryz.prog 42 = some (.agg #[.string ⟨#[]⟩, .slice none 0 0, .slice none 0 0, .int .i64 0, .slice none 0 0]) := by kernel_rfl
theorem Zue : enters Tryz.prog 18 = true := by kernel_rfl
theorem Zs0 : ZN Tryz.prog 36 = some 1 := by kernel_rfl
theorem Zud : enters Tryz.prog 19 = true := by kernel_rfl
theorem ZsZ : ZN Tryz.prog 37 = some 1 := by kernel_rfl
theorem Zuc : enters Tryz.prog 20 = true := by kernel_rfl
theorem Zqw : ZN Tryz.prog 42 = some 5 := by kernel_rfl
theorem ZtN : enters Tryz.prog 51 = true := by kernel_rfl
theorem Zsg : enters Tryz.prog 131 = true := by kernel_rfl
theorem Zr0 : enters Tryz.prog 153 = true := by kernel_rfl
theorem Zse : enters Tryz.prog 133 = true := by kernel_rfl
theorem Zti : enters Tryz.prog 92 = true := by kernel_rfl
theorem ZtL : enters Tryz.prog 53 = true := by kernel_rfl
theorem Zsf : enters Tryz.prog 132 = true := by kernel_rfl
theorem Ztk : enters Tryz.prog 90 = true := by kernel_rfl
theorem Ztj : enters Tryz.prog 91 = true := by kernel_rfl
theorem ZtM : enters Tryz.prog 52 = true := by kernel_rfl
theorem Zt8 : enters Tryz.prog 24 = true := by kernel_rfl
theorem Zt7 : enters Tryz.prog 25 = true := by kernel_rfl
theorem Zt6 : enters Tryz.prog 26 = true := by kernel_rfl
theorem ZrW : enters Tryz.prog 98 = true := by kernel_rfl
theorem ZtB : enters Tryz.prog 65 = true := by kernel_rfl
theorem ZsQ : enters Tryz.prog 37 = true := by kernel_rfl
theorem Ztm : enters Tryz.prog 87 = true := by kernel_rfl
theorem ZoF : Zx Tryz.prog 30 0 = some 0 := by kernel_rfl
theorem ZoE : Zx Tryz.prog 30 1 = some 1 := by kernel_rfl
theorem ZoD : Zx Tryz.prog 30 2 = some 2 := by kernel_rfl
theorem Zgr : Z8 Tryz.prog 33 = some (.agg #[.string ⟨#[]⟩, .string ⟨#[]⟩, .string ⟨#[]⟩]) := by kernel_rfl
theorem ZfY : Zx Tryz.prog 33 0 = some 0 := by kernel_rfl
theorem Zmb : Zx Tryz.prog 33 1 = some 1 := by kernel_rfl
theorem Zma : Zx Tryz.prog 33 2 = some 2 := by kernel_rfl
theorem Ze0 : lk Tryz.prog 33 = some (some 3) := by kernel_rfl
theorem ZgV : ZN Tryz.prog 33 = some 3 := by kernel_rfl
theorem ZsS : (Tryz.prog.info? 232).map (·.comparable) = some true := by kernel_rfl
theorem Zqx : ZN Tryz.prog 256 = some 1 := by kernel_rfl
theorem Zru : Z8 Tryz.prog 198 = some (.nilIface) := by kernel_rfl
theorem Zrt : Z8 Tryz.prog 201 = some (.nilIface) := by kernel_rfl
theorem Zrs : Z8 Tryz.prog 203 = some (.nilIface) := by kernel_rfl
theorem Ztl : enters Tryz.prog 89 = true := by kernel_rfl
theorem Zpp : lk Tryz.prog 58 = some none := by kernel_rfl
theorem Zrp : enters Tryz.prog 50 = true := by kernel_rfl
theorem ZsN : enters Tryz.prog 49 = true := by kernel_rfl
theorem Zub : enters Tryz.prog 21 = true := by kernel_rfl
theorem Zrm : ZcS Tryz.prog 33 = some [(0, 1), (1, 1), (2, 1)] := by kernel_rfl
theorem Zua : enters Tryz.prog 22 = true := by kernel_rfl
theorem Zt9 : enters Tryz.prog 23 = true := by kernel_rfl
theorem Zug : enters Tryz.prog 15 = true := by kernel_rfl
theorem Zuf : enters Tryz.prog 16 = true := by kernel_rfl
theorem ZjK : lk Tryz.prog 28 = some (some 5) := by kernel_rfl
theorem en4 : enters Tryz.prog 4 = true := by kernel_rfl
theorem Zp7 : lk Tryz.prog 30 = some (some 3) := by kernel_rfl
theorem en5 : enters Tryz.prog 5 = true := by kernel_rfl
theorem en7 : enters Tryz.prog 7 = true := by kernel_rfl
theorem en8 : enters Tryz.prog 8 = true := by kernel_rfl
theorem en6 : enters Tryz.prog 6 = true := by kernel_rfl
theorem en9 : enters Tryz.prog 9 = true := by kernel_rfl
theorem ZoO : enters Tryz.prog 10 = true := by kernel_rfl
theorem ZoN : enters Tryz.prog 11 = true := by kernel_rfl
set_option maxRecDepth 4000
variable {J : JoinT}
abbrev cur (b : Nat) (l : List UInt8) (i : Nat) : Cells := ZaJ b [str l, .int .i64 i] 122
set_option maxHeartbeats 400000 in
theorem Zej (n lo hi:Int) (B:Kn):Z3 (pj J) 59 [.int .i64 n,.int .i64 lo,.int .i64 hi] B (.bool (decide (lo≤n) && decide (n≤hi))):=by
 refine Zb 15 Tryz.func59 rfl rfl rfl (Nat.le_of_ble_eq_true rfl) ?_
 refine Za (xA (h:=ZP [(0,_),(1,_),(2,_),(6,_)] t4 (Za (xM (h:=xM (h:=Zdz (h:=xM (h:=Zv (d:=10) rfl (fun g1=>?_) (fun g1=>?_)))))))))
 try simp only [sQ,ne_eq] at g1
 refine xM (h:=xM (h:=Zbx (h:=xT (h:=xA (h:=ZP [(0,_),(1,_),(2,_),(6,_)] t4 (Zg ?_))))))
 exact Zy .ret (.inl rfl) [_] t1 ⟨by exact Zd (by rw [Bool.eq_iff_iff];simp [];omega),rfl,rfl⟩
 try simp only [sQ,ne_eq] at g1
 refine xP (h:=xP (h:=xP (h:=xF (h:=xA (h:=ZP [(0,_),(1,_),(2,_),(6,_)] t4 (Zg ?_))))))
 exact Zy .ret (.inl rfl) [_] t1 ⟨by exact Zd (by rw [Bool.eq_iff_iff];simp [];omega),rfl,rfl⟩

set_option maxHeartbeats 400000 in
theorem Zkk (c:UInt8) (B:Kn):Z3 (pj J) 138 [.int .u8 c.toNat] B (.bool (ZaE c)):=by
 refine Zb 17 Tryz.func138 rfl rfl rfl (Nat.le_of_ble_eq_true rfl) ?_
 refine Za (xA (h:=ZP [(0,_),(2,_)] t2 (Za (xM (h:=Zdz (h:=xM (h:=Zv (d:=5) rfl (fun g1=>?_) (fun g1=>?_))))))))
 try simp only [sQ,ne_eq] at g1
 refine xM (h:=Zbx (h:=xT (h:=xM (h:=Zv (d:=9) rfl (fun g2=>?_) (fun g2=>?_)))))
 try simp only [sQ,ne_eq] at g2
 refine xP (h:=xP (h:=xP (h:=xP (h:=xP (h:=xP (h:=xT (h:=xA (h:=ZP [(0,_),(2,_)] t2 (Zg ?_)))))))))
 exact Zy .ret (.inl rfl) [_] t1 ⟨by exact Zd (by rw [Bool.eq_iff_iff];simp [ZaE];omega),rfl,rfl⟩
 try simp only [sQ,ne_eq] at g2
 refine xM (h:=Zdz (h:=xM (h:=Zv (d:=12) rfl (fun g3=>?_) (fun g3=>?_))))
 try simp only [sQ,ne_eq] at g3
 refine xM (h:=Zbx (h:=xT (h:=xF (h:=xA (h:=ZP [(0,_),(2,_)] t2 (Zg ?_))))))
 exact Zy .ret (.inl rfl) [_] t1 ⟨by exact Zd (by rw [Bool.eq_iff_iff];simp [ZaE];omega),rfl,rfl⟩
 try simp only [sQ,ne_eq] at g3
 refine xP (h:=xP (h:=xF (h:=xF (h:=xA (h:=ZP [(0,_),(2,_)] t2 (Zg ?_))))))
 exact Zy .ret (.inl rfl) [_] t1 ⟨by exact Zd (by rw [Bool.eq_iff_iff];simp [ZaE];omega),rfl,rfl⟩
 try simp only [sQ,ne_eq] at g1
 refine xP (h:=xP (h:=xF (h:=xM (h:=xM (h:=Zdz (h:=xM (h:=Zv (d:=12) rfl (fun g4=>?_) (fun g4=>?_))))))))
 try simp only [sQ,ne_eq] at g4
 refine xM (h:=Zbx (h:=xT (h:=xF (h:=xA (h:=ZP [(0,_),(2,_)] t2 (Zg ?_))))))
 exact Zy .ret (.inl rfl) [_] t1 ⟨by exact Zd (by rw [Bool.eq_iff_iff];simp [ZaE];omega),rfl,rfl⟩
 try simp only [sQ,ne_eq] at g4
 refine xP (h:=xP (h:=xF (h:=xF (h:=xA (h:=ZP [(0,_),(2,_)] t2 (Zg ?_))))))
 exact Zy .ret (.inl rfl) [_] t1 ⟨by exact Zd (by rw [Bool.eq_iff_iff];simp [ZaE];omega),rfl,rfl⟩

set_option maxHeartbeats 400000 in
theorem Zbp (l:List UInt8) (hl:l.length≤2000000) (B:Kn):Z3 (pj J) 58 [str l] B (.bool (Z4 l)):=by
 refine Zb 37 Tryz.func58 rfl rfl rfl (Nat.le_of_ble_eq_true rfl) ?_
 refine Za (xA (h:=ZP [(0,_),(2,_)] t2 (Zi (Za (xA (h:=ZP [(0,_),(2,_),(3,_)] t3 (Zn (Zhs (α:=Nat) (fun k=>[(0,str l),(3,.int .i64 k)]) (fun k=>[]) (fun k Bx=>Bx=B∧k≤l.length∧(l.take k).all ZaE=true) (fun k=>l.length - k) 0 t2 rfl (⟨rfl,Nat.zero_le _,by simp⟩) (fun k B1 hle1 hI=>?_)))))))))
 obtain ⟨rfl,hk,ha⟩:=hI
 refine Zi (Za (xM (h:=xM (h:=xVs Tryz.underlying9 (h:=ZF (h:=ZP [(0,_),(3,_),(7,_)] t3 (Zc rfl (fun g1=>?_) (fun g1=>?_))))))))
 try simp only [sQ,ne_eq] at g1
 obtain ⟨c,hc⟩ :∃c,l[k]? = some c:=⟨_,List.getElem?_eq_getElem oz⟩
 refine Zh (Ze (Zi (Zn (ZjZ 33 (!(ZaE c)) [0,3,7] ?_ ?_))))
 refine xM (h:=xM (h:=Zr (ZcJ rfl rfl Tryz.underlying9 rfl rfl oz (by simpa using hc) ?_)))
 refine Zdz (h:=xM (h:=Zv (d:=14) rfl (fun g1=>?_) (fun g1=>?_)))
 try simp only [sQ,ne_eq] at g1
 refine xM (h:=xM (h:=Zr (ZcJ rfl rfl Tryz.underlying9 rfl rfl oz (by simpa using hc) ?_)))
 refine Zbx (h:=xT (h:=xN (h:=xM (h:=Zv (d:=21) rfl (fun g2=>?_) (fun g2=>?_)))))
 try simp only [sQ,ne_eq] at g2
 refine xM (h:=xM (h:=Zr (ZcJ rfl rfl Tryz.underlying9 rfl rfl oz (by simpa using hc) ?_)))
 refine Zdz (h:=xM (h:=Zv (d:=26) rfl (fun g3=>?_) (fun g3=>?_)))
 try simp only [sQ,ne_eq] at g3
 refine xM (h:=xM (h:=Zr (ZcJ rfl rfl Tryz.underlying9 rfl rfl oz (by simpa using hc) ?_)))
 refine Zbx (h:=xT (h:=xN (h:=xT (h:=?_))))
 exact ⟨rfl,rfl,rfl,Zg6 rfl (by rw [Bool.eq_iff_iff];simp [ZaE,];omega),t3⟩
 try simp only [sQ,ne_eq] at g3
 refine xP (h:=xP (h:=xP (h:=xP (h:=xF (h:=xN (h:=xT (h:=?_)))))))
 exact ⟨rfl,rfl,rfl,Zg6 rfl (by rw [Bool.eq_iff_iff];simp [ZaE,];omega),t3⟩
 try simp only [sQ,ne_eq] at g2
 refine xP (h:=xP (h:=xP (h:=xP (h:=xP (h:=xP (h:=xP (h:=xP (h:=xP (h:=xP (h:=xP (h:=xF (h:=?_))))))))))))
 exact ⟨rfl,rfl,rfl,Zg6 rfl (by rw [Bool.eq_iff_iff];simp [ZaE,];omega),t3⟩
 try simp only [sQ,ne_eq] at g1
 refine xP (h:=xP (h:=xP (h:=xP (h:=xF (h:=xN (h:=xM (h:=xM (h:=xM (h:=Zr (ZcJ rfl rfl Tryz.underlying9 rfl rfl oz (by simpa using hc) ?_))))))))))
 refine Zdz (h:=xM (h:=Zv (d:=26) rfl (fun g4=>?_) (fun g4=>?_)))
 try simp only [sQ,ne_eq] at g4
 refine xM (h:=xM (h:=Zr (ZcJ rfl rfl Tryz.underlying9 rfl rfl oz (by simpa using hc) ?_)))
 refine Zbx (h:=xT (h:=xN (h:=xT (h:=?_))))
 exact ⟨rfl,rfl,rfl,Zg6 rfl (by rw [Bool.eq_iff_iff];simp [ZaE,];omega),t3⟩
 try simp only [sQ,ne_eq] at g4
 refine xP (h:=xP (h:=xP (h:=xP (h:=xF (h:=xN (h:=xT (h:=?_)))))))
 exact ⟨rfl,rfl,rfl,Zg6 rfl (by rw [Bool.eq_iff_iff];simp [ZaE,];omega),t3⟩
 refine ZP [(0,_),(3,_),(7,_),(33,_)] t4 (Zc rfl (fun g9=>?_) (fun g9=>?_))
 try simp only [sQ,ne_eq] at g9
 refine Za (xA (h:=ZP [(0,_),(2,_),(3,_),(7,_),(33,_)] t5 (Zg (Zz (Zm (Zo8 (Zz (Zm ?_))))))))
 exact Zy .ret (.inl rfl) [_] t1 ⟨Zd (by simp [Z4,Zn9 hc g9]),rfl,rfl⟩
 try simp only [sQ,ne_eq] at g9
 refine Zh (ZR (Ze (Zo (xM (h:=Zr (Ze8 rfl rfl rfl rfl (by first | exact ZbE oz oz | rfl) ?_))))))
 refine xA (h:=?_)
 exact Zkc (k+1) oz ⟨rfl,oz,ZjW hc g9 ha⟩ t2 rfl
 try simp only [sQ,ne_eq] at g1
 refine ZL (ZV (Zkb (ZA (Ze (Za (xM (h:=xVs Tryz.underlying9 (h:=xR ZnX rfl (Zej _ _ _ _) (h:=xA (h:=ZP [(0,_),(2,_),(3,_),(7,_)] t4 (Zg ?_)))))))))))
 exact Zy .ret (.inl rfl) [_] t1 ⟨Zd (by (obtain rfl:k=l.length:=oz);rw [List.take_length] at ha;rw [Bool.eq_iff_iff];simp [Z4,ha];omega),rfl,rfl⟩

set_option maxHeartbeats 400000 in
theorem ZjT (b:Nat) (l:List UInt8) (i:Nat) (hi:i≤l.length) (hl:l.length≤2000000) (B:Kn):ZoT (pj J) 70 [ptr ⟨b,0,none⟩] B (cur b l i) (.bool (decide (i=l.length))) (cur b l i):=by
 refine Zb 13 Tryz.func70 rfl rfl rfl (Nat.le_of_ble_eq_true rfl) ?_
 refine Za (xA (h:=ZP [(0,_),(2,_)] t2 (Zi (Z2 (same _ _) mo kr ⟨rfl,rfl⟩ (fun _ _=>?_)))))
 refine aM 0 rfl (h:=aNc 1 rfl (h:=aW 2 rfl Za6 (h:=aT 3 rfl (Z5 fun D=>Zu rfl rfl lk3 rfl (atL 0 rfl rfl rfl) r4) (h:=aM 4 rfl (h:=aNc 5 rfl (h:=aW 6 rfl ZeH (h:=aT 7 rfl (Z5 fun D=>Zu rfl rfl lk9 rfl (atL 0 rfl rfl rfl) r4) (h:=aT 8 rfl (Z5 fun D=>Zoq rfl rfl Tryz.underlying9 rfl r4) (h:=ZmP 9 rfl (h:=aA 10 rfl (h:=Zt kr kr ?_)))))))))))
 refine Ze (ZP [(0,_),(2,_)] t2 (Zg ?_))
 exact ZnW .ret (.inl rfl) [_] 0 rfl t1 ⟨Zd (by rw [Bool.eq_iff_iff];simp;omega),rfl,rfl⟩

set_option maxHeartbeats 400000 in
theorem Zqv (b:Nat) (l:List UInt8) (i:Nat) (hi:i≤l.length) (hl:l.length≤2000000) (x:UInt8) (B:Kn):ZoT (pj J) 103 [ptr ⟨b,0,none⟩,.int .u8 x.toNat] B (cur b l i) (.bool (decide (l[i]? = some x))) (cur b l (if l[i]? = some x then i+1 else i)):=by
 refine Zb 27 Tryz.func103 rfl rfl rfl (Nat.le_of_ble_eq_true rfl) ?_
 refine Za (xA (h:=ZP [(0,_),(1,_),(4,_)] t3 (Zi (Zfq 19 (decide (l[i]?≠some x)) [0,1,4] (same _ _) mo kr ⟨rfl,rfl⟩ (fun _ _=>?_) ?_))))
 refine aM 0 rfl (h:=aT 1 rfl (Z5 fun D=>Zhr 0 rfl rfl rfl Zro rfl (ZjT _ _ _ oz oz _) r4) (h:=?_))
 refine aM 2 rfl (h:=Zab (d:=7) rfl (fun g1=>?_) (fun g1=>?_))
 try simp only [sQ,ne_eq] at g1
 refine aZ 3 rfl (h:=aZ 4 rfl (h:=aZ 5 rfl (h:=aZ 6 rfl (h:=aZ 7 rfl (h:=aZ 8 rfl (h:=aZ 9 rfl (h:=aZ 10 rfl (h:=aZ 11 rfl (h:=aZ 12 rfl (h:=aZ 13 rfl (h:=aPT 14 rfl (h:=Zt kr kr ?_))))))))))))
 exact ⟨rfl,rfl,rfl,Zg6 rfl (by first | (simp [g1];done) | (rw [Bool.eq_iff_iff];simp [hc,← UInt8.toNat_inj];omega)),t3⟩
 try simp only [sQ,ne_eq] at g1
 obtain ⟨c,hc⟩ :∃c,l[i]? = some c:=⟨_,List.getElem?_eq_getElem oz⟩
 refine aM 3 rfl (h:=aNc 4 rfl (h:=aW 5 rfl ZeH (h:=aT 6 rfl (Z5 fun D=>Zu rfl rfl lk9 rfl (atL 0 rfl rfl rfl) r4) (h:=aM 7 rfl (h:=aNc 8 rfl (h:=aW 9 rfl Za6 (h:=aT 10 rfl (Z5 fun D=>Zu rfl rfl lk3 rfl (atL 0 rfl rfl rfl) r4) (h:=aT 11 rfl (Z5 fun D=>ZcJ rfl rfl Tryz.underlying9 rfl rfl oz (by simpa using hc) r4) (h:=?_)))))))))
 refine aM 12 rfl (h:=Zrj 13 rfl (h:=aPF 14 rfl (h:=Zt kr kr ?_)))
 exact ⟨rfl,rfl,rfl,Zg6 rfl (by first | (simp [g1];done) | (rw [Bool.eq_iff_iff];simp [hc,← UInt8.toNat_inj];omega)),t3⟩
 refine ZP [(0,_),(1,_),(4,_),(19,_)] t4 (Zc rfl (fun g2=>?_) (fun g2=>?_))
 try simp only [sQ,ne_eq] at g2
 refine Za (xA (h:=ZP [(0,_),(1,_),(4,_),(19,_)] t4 (Zg (Zm ?_))))
 exact ZnW .ret (.inl rfl) [_] 0 rfl t1 ⟨Zd (by simp [g2]),rfl,by rw [if_neg g2]⟩
 try simp only [sQ,ne_eq] at g2
 refine Zh (Ze (Za (xM (h:=xNc (h:=xW Za6 (h:=x1 lk3 0 (h:=Zr (Ze8 rfl rfl rfl rfl (by first | exact ZbE oz oz | rfl) ?_))))))))
 refine xNc (h:=xW Za6 (h:=xS [_] 0 [_,_] sz3 (h:=ZJ [(0,_),(1,_),(4,_),(19,_)] [_] t4 rfl (Za (xA (h:=ZP [(0,_),(1,_),(4,_),(19,_)] t4 (Zg ?_)))))))
 exact ZnW .ret (.inl rfl) [_] 0 rfl t1 ⟨Zd (by simp [g2]),rfl,by rw [if_pos g2];rfl⟩

set_option maxHeartbeats 400000 in
theorem ZlF (b:Nat) (l:List UInt8) (i:Nat) (hi:i≤l.length) (hl:l.length≤2000000) (B:Kn):ZoT (pj J) 102 [ptr ⟨b,0,none⟩] B (cur b l i) (.tuple #[str (word l i),.bool (Zb6 (word l i))]) (cur b l (i+(word l i).length)):=by
 refine Zb 54 Tryz.func102 rfl rfl rfl (Nat.le_of_ble_eq_true rfl) ?_
 refine Za (xA (h:=xA (h:=ZP [(0,_),(2,_),(3,_)] t3 (Za (xM (h:=xNc (h:=xW Za6 (h:=x1 lk3 0 (h:=xA (h:=ZP [(0,_),(2,_),(3,_),(4,_)] t4 (Zi (Zn ?_))))))))))))
 refine Zhs (α:=Nat) (fun k=>[(0,ptr ⟨b,0,none⟩),(4,.int .i64 i)]) (fun k=>[cur b l (i+k)]) (fun k Bx=>Bx=B∧i+k≤l.length∧((l.drop i).take k).all ZaE=true) (fun k=>l.length - i - k) 0 t2 rfl (⟨rfl,oz,by simp⟩) (fun k B1 hle1 hI=>?_)
 obtain ⟨rfl,hk,ha⟩:=hI
 refine Zi (Zfq 24 (match l[i+k]? with | some c=>ZaE c | none=>false) [0,4] (same _ _) mo kr ⟨rfl,rfl⟩ (fun _ _=>?_) ?_)
 refine aM 0 rfl (h:=aT 1 rfl (Z5 fun D=>Zhr 0 rfl rfl rfl Zro rfl (ZjT _ _ _ oz oz _) r4) (h:=?_))
 refine aN 2 rfl (h:=aM 3 rfl (h:=Zab (d:=13) rfl (fun g1=>?_) (fun g1=>?_)))
 try simp only [sQ,ne_eq] at g1
 obtain ⟨c,hc⟩ :∃c,l[i+k]? = some c:=⟨_,List.getElem?_eq_getElem oz⟩
 refine aM 4 rfl (h:=aNc 5 rfl (h:=aW 6 rfl ZeH (h:=aT 7 rfl (Z5 fun D=>Zu rfl rfl lk9 rfl (atL 0 rfl rfl rfl) r4) (h:=aM 8 rfl (h:=aNc 9 rfl (h:=aW 10 rfl Za6 (h:=aT 11 rfl (Z5 fun D=>Zu rfl rfl lk3 rfl (atL 0 rfl rfl rfl) r4) (h:=aT 12 rfl (Z5 fun D=>ZcJ rfl rfl Tryz.underlying9 rfl rfl oz hc r4) (h:=?_)))))))))
 refine aT 13 rfl (Z5 fun D=>ZQ rfl rfl Zr9 rfl (Zkk _ _) r4) (h:=aPT 14 rfl (h:=Zt kr kr ?_))
 exact ⟨rfl,rfl,rfl,Zg6 rfl (by first | (rw [hc];done) | (rw [List.getElem?_eq_none oz])),t2⟩
 try simp only [sQ,ne_eq] at g1
 refine aZ 4 rfl (h:=aZ 5 rfl (h:=aZ 6 rfl (h:=aZ 7 rfl (h:=aZ 8 rfl (h:=aZ 9 rfl (h:=aZ 10 rfl (h:=aZ 11 rfl (h:=aZ 12 rfl (h:=aZ 13 rfl (h:=aPF 14 rfl (h:=Zt kr kr ?_)))))))))))
 exact ⟨rfl,rfl,rfl,Zg6 rfl (by first | (rw [hc];done) | (rw [List.getElem?_eq_none oz])),t2⟩
 refine ZP [(0,_),(4,_),(24,_)] t3 (Zc rfl (fun g2=>?_) (fun g2=>?_))
 try simp only [sQ,ne_eq] at g2
 refine Zh (Ze (Zn (Zo (xM (h:=xNc (h:=xW Za6 (h:=x1 lk3 0 (h:=Zr (Ze8 rfl rfl rfl rfl (by first | exact ZbE oz oz | rfl) ?_)))))))))
 refine xNc (h:=xW Za6 (h:=xS [_] 0 [_,_] sz3 (h:=ZR ?_)))
 obtain ⟨c,hc,hn⟩:=Zlp g2
 exact Zkc (k+1) (by have:=Za1 hc;omega) ⟨rfl,by have:=Za1 hc;omega,ZjW (by simpa using hc) hn ha⟩ t2 rfl
 try simp only [sQ,ne_eq] at g2
 have hw:word l i=(l.drop i).take k:=ZmW ha (fun c hc=>by rw [hc] at g2;exact g2)
 have hwl:(word l i).length=k:=by rw [hw,List.length_take,List.length_drop];omega
 refine ZL (ZV (Zkb (ZA (Ze (Za (xM (h:=xNc (h:=xW Za6 (h:=x1 lk3 0 (h:=xM (h:=Zr (ZgS rfl rfl rfl rfl (by first | exact ZbE oz oz | rfl) ?_))))))))))))
 refine xA (h:=ZP [(0,_),(4,_),(5,_),(24,_)] t4 (Zi (Z2 (same _ _) mo kr ⟨rfl,rfl⟩ (fun _ _=>?_))))
 refine aM 0 rfl (h:=aNc 1 rfl (h:=aW 2 rfl ZeH (h:=aT 3 rfl (Z5 fun D=>Zu rfl rfl lk9 rfl (atL 0 rfl rfl rfl) r4) (h:=aM 4 rfl (h:=aM 5 rfl (h:=aNc 6 rfl (h:=aW 7 rfl Za6 (h:=aT 8 rfl (Z5 fun D=>Zu rfl rfl lk3 rfl (atL 0 rfl rfl rfl) r4) (h:=aT 9 rfl (Z5 fun D=>Zd6 rfl rfl Tryz.underlying9 rfl (a:=i) (b:=i+k) ⟨_,_,rfl,rfl⟩ ⟨_,_,rfl,oz⟩ oz oz r4) (h:=?_))))))))))
 refine aM 10 rfl (h:=Zss 11 rfl (h:=aM 12 rfl (h:=Zab (d:=50) rfl (fun g1=>?_) (fun g1=>?_))))
 try simp only [sQ,ne_eq] at g1
 refine aM 13 rfl (h:=Zp0 14 rfl (h:=aPT 15 rfl (h:=aA 16 rfl (h:=aA 17 rfl (h:=Zt kr kr ?_)))))
 refine Ze (ZP [(0,_),(2,_),(3,_),(4,_),(5,_),(24,_)] t6 (Zg ?_))
 exact ZnW .ret (.inl rfl) [_,_] 0 rfl t2 ⟨Zgx (by rw [ZdE,hw]) (Zd (by rw [Bool.eq_iff_iff];simp [Zb6,hwl];omega)),rfl,by rw [hwl]⟩
 try simp only [sQ,ne_eq] at g1
 refine aZ 13 rfl (h:=aZ 14 rfl (h:=aPF 15 rfl (h:=aA 16 rfl (h:=aA 17 rfl (h:=Zt kr kr ?_)))))
 refine Ze (ZP [(0,_),(2,_),(3,_),(4,_),(5,_),(24,_)] t6 (Zg ?_))
 exact ZnW .ret (.inl rfl) [_,_] 0 rfl t2 ⟨Zgx (by rw [ZdE,hw]) (Zd (by rw [Bool.eq_iff_iff];simp [Zb6,hwl];omega)),rfl,by rw [hwl]⟩

set_option maxHeartbeats 400000 in
theorem ZnY (b:Nat) (l:List UInt8) (i:Nat) (hi:i≤l.length) (hl:l.length≤2000000) (B:Kn):ZoT (pj J) 69 [ptr ⟨b,0,none⟩] B (cur b l i) (.tuple #[str (Zf6 l i),.bool (Zi9 l i)]) (cur b l (dom l i).2):=by
 refine Zb 53 Tryz.func69 rfl rfl rfl (Nat.le_of_ble_eq_true rfl) ?_
 refine Za (xA (h:=xA (h:=ZP [(0,_),(2,_),(3,_)] t3 (Za (xM (h:=xNc (h:=xW Za6 (h:=x1 lk3 0 (h:=xA (h:=ZP [(0,_),(2,_),(3,_),(4,_)] t4 (Zi (Za ?_))))))))))))
 refine xM (h:=Zr (Zgt 0 rfl rfl rfl ZpR rfl (ZlF _ _ _ oz oz _) ?_))
 refine xM (h:=xE (h:=xE (h:=xA (h:=xA (h:=ZJ [(0,_),(2,_),(3,_),(4,_),(6,_)] [_] t5 rfl (Za (xM (h:=xN (h:=ZP [(0,_),(2,_),(3,_),(4,_),(6,_),(20,_)] t6 (Zc rfl (fun g1=>?_) (fun g1=>?_)))))))))))
 try simp only [sQ,ne_eq] at g1
 refine Za (xA (h:=xA (h:=ZP [(0,_),(2,_),(3,_),(4,_),(6,_),(20,_)] t6 (Zg (Zm ?_)))))
 exact ZnW .ret (.inl rfl) [_,_] 0 rfl t2 ⟨Zgx (by simp [Zf6,Zi8 g1]) (Zd (by simp [Zi9,Zi8 g1])),rfl,by rw [Zi8 g1]⟩
 try simp only [sQ,ne_eq] at g1
 refine Zh (Ze (Zi (Za (xA (h:=ZP [(0,_),(2,_),(3,_),(4,_),(6,_),(7,_),(20,_)] t7 (Zn (Zhs (α:=Nat × Nat) (fun x=>[(0,ptr ⟨b,0,none⟩),(4,.int .i64 i),(7,.int .i64 x.1)]) (fun x=>[cur b l x.2]) (fun x Bx=>Bx=B∧1≤x.1∧x.1≤3∧i≤x.2∧x.2≤l.length∧dom l i=more (3 - x.1) l x.2) (fun x=>3 - x.1) (1,i+(word l i).length) t3 rfl (⟨rfl,oz,oz,oz,Zfo hi,ZnZ g1⟩) (fun x B1 hle1 hI=>?_))))))))
 obtain ⟨rfl,hk1,hk3,hix,hxl,hd⟩:=hI
 refine Zi (Za (xM (h:=ZF (h:=xM (h:=Zv (d:=23) rfl (fun g2=>?_) (fun g2=>?_))))))
 try simp only [sQ,ne_eq] at g2
 refine xM (h:=Zr (Zgt 0 rfl rfl rfl Zso rfl (Zqv _ _ _ oz oz 46 _) ?_))
 refine xT (h:=ZJ [(0,_),(4,_),(7,_),(26,_)] [_] t4 rfl (Zc rfl (fun g3=>?_) (fun g3=>?_)))
 try simp only [sQ,ne_eq] at g3
 rw [if_pos g3]
 have hx2:=Za1 g3
 refine Zh (Ze (Zi (Zn (Za (xM (h:=Zr (Zgt 0 rfl rfl rfl ZpR rfl (ZlF _ _ _ oz oz _) ?_)))))))
 refine xM (h:=xE (h:=xE (h:=xA (h:=xA (h:=ZJ [(0,_),(4,_),(7,_),(9,_),(26,_)] [_] t5 rfl (Za (xM (h:=xN (h:=ZP [(0,_),(4,_),(7,_),(9,_),(26,_),(35,_)] t6 (Zc rfl (fun g4=>?_) (fun g4=>?_)))))))))))
 try simp only [sQ,ne_eq] at g4
 refine Za (xA (h:=xA (h:=ZP [(0,_),(2,_),(3,_),(4,_),(7,_),(9,_),(26,_),(35,_)] t8 (Zg (Zz (Zm (Zo8 (Zz (Zm ?_)))))))))
 have hdd:=hd.trans (Zny oz g3 g4)
 exact ZnW .ret (.inl rfl) [_,_] 0 rfl t2 ⟨Zgx (by simp [Zf6,hdd]) (Zd (by simp [Zi9,hdd])),rfl,by rw [hdd]⟩
 try simp only [sQ,ne_eq] at g4
 refine Zh (ZR (Ze (Zo (xM (h:=Zr (Ze8 rfl rfl rfl rfl (by first | exact ZbE oz oz | rfl) ?_))))))
 refine xA (h:=?_)
 exact Zkc (x.1+1,x.2+1+(word l (x.2+1)).length) (so) ⟨rfl,so,so,so,Zfo oz,by rw [hd,ZlK oz g3 g4];rw [show 3 - (x.1+1)=3 - x.1 - 1 from by omega]⟩ t3 rfl
 try simp only [sQ,ne_eq] at g3
 rw [if_neg g3]
 replace hd:=hd.trans (ZfH g3)
 refine ZL (ZV (Zkb (ZA (Ze (Zi (Z2 (same _ _) mo kr ⟨rfl,rfl⟩ (fun _ _=>?_)))))))
 refine aM 0 rfl (h:=aNc 1 rfl (h:=aW 2 rfl ZeH (h:=aT 3 rfl (Z5 fun D=>Zu rfl rfl lk9 rfl (atL 0 rfl rfl rfl) r4) (h:=aM 4 rfl (h:=aM 5 rfl (h:=aNc 6 rfl (h:=aW 7 rfl Za6 (h:=aT 8 rfl (Z5 fun D=>Zu rfl rfl lk3 rfl (atL 0 rfl rfl rfl) r4) (h:=aT 9 rfl (Z5 fun D=>Zd6 rfl rfl Tryz.underlying9 rfl (a:=i) (b:=x.2) ⟨_,_,rfl,rfl⟩ ⟨_,_,rfl,rfl⟩ oz oz r4) (h:=?_))))))))))
 refine aM 10 rfl (h:=aNc 11 rfl (h:=aW 12 rfl Za6 (h:=aT 13 rfl (Z5 fun D=>Zu rfl rfl lk3 rfl (atL 0 rfl rfl rfl) r4) (h:=aM 14 rfl (h:=aT 15 rfl (Z5 fun D=>ZgS rfl rfl rfl rfl (by first | exact ZbE oz oz | rfl) r4) (h:=?_))))))
 refine Zp0 16 rfl (h:=aA 17 rfl (h:=aA 18 rfl (h:=Zt kr kr ?_)))
 refine Ze (ZP [(0,_),(2,_),(3,_),(4,_),(7,_),(26,_)] t6 (Zg ?_))
 exact ZnW .ret (.inl rfl) [_,_] 0 rfl t2 ⟨Zgx (by simp [Zf6,hd]) (Zd (by rw [Bool.eq_iff_iff];simp [Zi9,hd];omega)),rfl,by rw [hd]⟩
 try simp only [sQ,ne_eq] at g2
 replace hd:dom l i=(true,x.2):=hd.trans (by rw [show 3 - x.1=0 from by omega];rfl)
 refine xP (h:=xP (h:=xF (h:=ZP [(0,_),(4,_),(7,_),(26,_)] t4 (Zc (t:=false) rfl (fun h=>Bool.noConfusion h) (fun _=>ZL (ZV (Zkb (ZA (Ze (Zi (Z2 (same _ _) mo kr ⟨rfl,rfl⟩ (fun _ _=>?_))))))))))))
 refine aM 0 rfl (h:=aNc 1 rfl (h:=aW 2 rfl ZeH (h:=aT 3 rfl (Z5 fun D=>Zu rfl rfl lk9 rfl (atL 0 rfl rfl rfl) r4) (h:=aM 4 rfl (h:=aM 5 rfl (h:=aNc 6 rfl (h:=aW 7 rfl Za6 (h:=aT 8 rfl (Z5 fun D=>Zu rfl rfl lk3 rfl (atL 0 rfl rfl rfl) r4) (h:=aT 9 rfl (Z5 fun D=>Zd6 rfl rfl Tryz.underlying9 rfl (a:=i) (b:=x.2) ⟨_,_,rfl,rfl⟩ ⟨_,_,rfl,rfl⟩ oz oz r4) (h:=?_))))))))))
 refine aM 10 rfl (h:=aNc 11 rfl (h:=aW 12 rfl Za6 (h:=aT 13 rfl (Z5 fun D=>Zu rfl rfl lk3 rfl (atL 0 rfl rfl rfl) r4) (h:=aM 14 rfl (h:=aT 15 rfl (Z5 fun D=>ZgS rfl rfl rfl rfl (by first | exact ZbE oz oz | rfl) r4) (h:=?_))))))
 refine Zp0 16 rfl (h:=aA 17 rfl (h:=aA 18 rfl (h:=Zt kr kr ?_)))
 refine Ze (ZP [(0,_),(2,_),(3,_),(4,_),(7,_),(26,_)] t6 (Zg ?_))
 exact ZnW .ret (.inl rfl) [_,_] 0 rfl t2 ⟨Zgx (by simp [Zf6,hd]) (Zd (by rw [Bool.eq_iff_iff];simp [Zi9,hd];omega)),rfl,by rw [hd]⟩

set_option maxHeartbeats 400000 in
theorem Za9 (l:List UInt8) (hl:l.length≤2000000) (B:Kn):Z3 (pj J) 79 [str l] B (.bool (Z4 l)):=by
 refine Zb 16 Tryz.func79 rfl rfl rfl (Nat.le_of_ble_eq_true rfl) ?_
 refine Za (xA (h:=ZP [(0,_),(2,_)] t2 (Za (xM (h:=xB [(0,_)] [_,_] [_,_] ZqE ZmV (h:=xAl [_,_] ZmV (h:=fun b0=>xS [_,_] 0 [_,_] ZqB (h:=ZJ [(0,_),(2,_),(3,_)] [_] t3 rfl (Za (Zr (Zgt 0 rfl rfl rfl ZpR rfl (ZlF _ _ 0 oz hl _) ?_)))))))))))
 refine xM (h:=xE (h:=xE (h:=xA (h:=xA (h:=ZJ [(0,_),(2,_),(3,_),(5,_)] [_] t4 rfl (Za (xM (h:=xM (h:=Zv (d:=13) rfl (fun g1=>?_) (fun g1=>?_))))))))))
 try simp only [sQ,ne_eq] at g1
 refine Zr (Zhr 0 rfl rfl rfl Zro rfl (ZjT _ _ (0+(word l 0).length) (Zfo (Nat.zero_le _)) oz _) ?_)
 refine xT (h:=xA (h:=ZP [(0,_),(2,_),(3,_),(5,_)] t4 (Zg ?_)))
 exact Zy .ret (.inl rfl) [_] t1 ⟨Zd (by rw [ZbY];simp [g1];try omega),rfl,rfl⟩
 try simp only [sQ,ne_eq] at g1
 refine xP (h:=xF (h:=xA (h:=ZP [(0,_),(2,_),(3,_),(5,_)] t4 (Zg ?_))))
 exact Zy .ret (.inl rfl) [_] t1 ⟨Zd (by rw [ZbY];simp [g1];try omega),rfl,rfl⟩

abbrev Zrr (s : Cells) (q : Option Addr) (m cp : Nat) (ls : List (List UInt8)) : Prop := Zgh s q m cp 9 1 (ls.map str)
theorem Zhv {s:Cells} {q:Option Addr} {m cp:Nat} {ls:List (List UInt8)} {a:List UInt8} (h:Zgh s q m cp 9 1 (ls.map str ++ [str a])):Zrr s q m cp (ls ++ [a]):=by
 unfold Zrr
 rw [List.map_append]
 exact h
set_option maxHeartbeats 400000 in
theorem Zpq (l:List UInt8) (hl:l.length≤2000000) (x0:UInt8) (B:Kn):ZsU (pj J) 57 [str l,.int .u8 x0.toNat] B (fun v s=>∃q cp,v = .slice q (cut x0 l).length cp∧Zrr s q (cut x0 l).length cp (cut x0 l)):=by
 refine Zb 35 Tryz.func57 rfl rfl rfl (Nat.le_of_ble_eq_true rfl) ?_
 refine Za (xA (h:=ZP [(0,_),(1,_),(4,_)] t3 (Za (xBs [] [] Tryz.underlying81 sz9 zo9 (h:=fun b0=>xA (h:=ZJ [(0,_),(1,_),(4,_),(5,_)] [_] t4 rfl (Za (xA (h:=ZP [(0,_),(1,_),(4,_),(5,_),(6,_)] t5 (Zi (Za (xA (h:=?_)))))))))))))
 refine ZP [(0,_),(1,_),(4,_),(5,_),(6,_),(7,_)] t6 (Zn (Zhs (α:=CutSt) (fun x=>[(0,str l),(1,.int .u8 x0.toNat),(5,.slice x.q x.m x.cp),(6,.int .i64 x.f),(7,.int .i64 x.i)]) (fun x=>[x.s]) (fun x Bx=>Bx=B∧x.f≤x.i∧x.i≤l.length∧x.m≤x.i∧x.m=x.ps.length∧Zrr x.s x.q x.m x.cp x.ps∧cut x0 l=x.ps ++ glue ((l.take x.i).drop x.f) (cut x0 (l.drop x.i))) (fun x=>l.length - x.i) ⟨0,0,0,[],some ⟨b0,0,none⟩,0,ZaJ b0 [] 9⟩ t5 rfl (⟨rfl,Nat.le_refl _,Nat.zero_le _,Nat.le_refl _,rfl,Zgh.lit rfl,by simp [ZjO (ZjV x0 l)]⟩) (fun x B1 hle1 hI=>?_)))
 obtain ⟨rfl,hf,hi,hn,hm,hv,hc⟩:=hI
 refine Zi (Za (xM (h:=xM (h:=xVs Tryz.underlying9 (h:=ZF (h:=ZP [(0,_),(1,_),(5,_),(6,_),(7,_),(12,_)] t6 (Zc rfl (fun g1=>?_) (fun g1=>?_))))))))
 try simp only [sQ,ne_eq] at g1
 obtain ⟨c,hx⟩ :∃c,l[x.i]? = some c:=⟨_,List.getElem?_eq_getElem oz⟩
 refine Zh (Ze (Zi (Zn (Za (xM (h:=xM (h:=Zr (ZcJ rfl rfl Tryz.underlying9 rfl rfl oz hx ?_))))))))
 refine xM (h:=ZkS (h:=ZP [(0,_),(1,_),(5,_),(6,_),(7,_),(12,_),(19,_)] t7 (Zc rfl (fun g2=>?_) (fun g2=>?_))))
 try simp only [sQ,ne_eq] at g2
 refine Za (xM (h:=xM (h:=xM (h:=xM (h:=Zr (Zd6 rfl rfl Tryz.underlying9 rfl (a:=x.f) (b:=x.i) ⟨_,_,rfl,rfl⟩ ⟨_,_,rfl,rfl⟩ oz oz ?_))))))
 refine xBs [(0,_)] [_] Tryz.underlying81 sz9 zo9 (h:=fun b1=>Zr (ZgT 0 rfl (hv) rfl rfl ZrT ZsA rfl rfl (Zd1.box 1 rfl) rfl rfl oz (fun l1 p1 c1 hv1=>?_)))
 refine xA (h:=ZJ [(0,_),(1,_),(5,_),(6,_),(7,_),(12,_),(19,_)] [_,_] t7 rfl (ZrA [0] rfl (Zo (xM (h:=Zr (Ze8 rfl rfl rfl rfl (by first | exact ZbE oz oz | rfl) ?_))))))
 refine xA (h:=ZR (Ze (Zo (xM (h:=Zr (Ze8 rfl rfl rfl rfl (by first | exact ZbE oz oz | rfl) ?_))))))
 refine xA (h:=?_)
 exact Zkc ⟨x.i+1,x.i+1,x.m+1,x.ps ++ [(l.take x.i).drop x.f],p1,c1,l1⟩ (so) ⟨rfl,Nat.le_refl _,so,so,by simp [hm],Zhv hv1,by rw [hc,ZpU hx (ZrH g2),List.append_assoc];simp [ZnR,ZjO (ZjV x0 _)]⟩ t5 rfl
 try simp only [sQ,ne_eq] at g2
 refine Zh (ZR (Ze (Zo (xM (h:=Zr (Ze8 rfl rfl rfl rfl (by first | exact ZbE oz oz | rfl) ?_))))))
 refine xA (h:=?_)
 exact Zkc ⟨x.i+1,x.f,x.m,x.ps,x.q,x.cp,x.s⟩ (so) ⟨rfl,so,so,so,hm,hv,by rw [hc,Zn1 hx (ZrG g2),Zl7,Zlb hx hf]⟩ t5 rfl
 try simp only [sQ,ne_eq] at g1
 obtain hie:x.i=l.length:=by omega
 rw [hie,List.take_length,List.drop_length] at hc
 refine ZL (ZV (Zkb (ZA (Ze (Za (xM (h:=xM (h:=xM (h:=Zr (Zd6 rfl rfl Tryz.underlying9 rfl (a:=x.f) (b:=l.length) ⟨_,_,rfl,rfl⟩ rfl oz oz ?_))))))))))
 refine xBs [(0,_)] [_] Tryz.underlying81 sz9 zo9 (h:=fun b1=>Zr (ZgT 0 rfl (hv) rfl rfl ZrT ZsA rfl rfl (Zd1.box 1 rfl) rfl rfl oz (fun l2 p2 c2 hv2=>?_)))
 refine xA (h:=ZJ [(0,_),(1,_),(4,_),(5,_),(6,_),(7,_),(12,_)] [_,_] t7 rfl (Zg ?_))
 have he:cut x0 l=x.ps ++ [l.drop x.f]:=by rw [hc];simp [cut,glue]
 have hlen:(cut x0 l).length=x.m+1:=by rw [he];simp [hm]
 exact ZeK .ret (.inl rfl) [_] [0] rfl t1 ⟨rfl,_,rfl,p2,c2,by rw [hlen];rfl,by rw [hlen,he];rw [List.take_length] at hv2;exact Zhv hv2⟩

set_option maxHeartbeats 400000 in
theorem ZhH (l:List UInt8) (hl:l.length≤2000000) (B:Kn):Z3 (pj J) 30 [str l] B (.bool (ZbF l)):=by
 refine Zb 27 Tryz.func30 rfl rfl rfl (Nat.le_of_ble_eq_true rfl) ?_
 refine Za (xA (h:=ZP [(0,_),(2,_)] t2 (Za (xM (h:=Zr (Zqf rfl rfl ZtH rfl (Zpq _ hl 46 _) ?_))))))
 rintro _ s ⟨q,cp,rfl,hv⟩
 refine xA (h:=ZJ [(0,_),(2,_),(3,_)] [_] t3 rfl (Zi (Za (xA (h:=ZP [(0,_),(2,_),(3,_),(4,_)] t4 (Zn (Zhs (α:=Nat) (fun k=>[(0,str l),(3,.slice q (cut 46 l).length cp),(4,.int .i64 k)]) (fun k=>[s]) (fun k Bx=>Bx=B∧k≤(cut 46 l).length∧((cut 46 l).take k).all Z4=true) (fun k=>(cut 46 l).length - k) 0 t3 rfl (⟨rfl,Nat.zero_le _,by simp⟩) (fun k B1 hle1 hI=>?_))))))))
 obtain ⟨rfl,hk,ha⟩:=hI
 have hcc:=Zie 46 l
 refine Zi (Za (xM (h:=xM (h:=xV Tryz.underlying81 (h:=ZF (h:=ZP [(0,_),(3,_),(4,_),(10,_)] t4 (Zc rfl (fun g1=>?_) (fun g1=>?_))))))))
 try simp only [sQ,ne_eq] at g1
 obtain ⟨y,hy⟩ :∃y,(cut 46 l)[k]? = some y:=⟨_,List.getElem?_eq_getElem oz⟩
 have hyl:=Zja 46 l y (List.mem_of_getElem? hy)
 obtain ⟨a,rfl,hsp,hat⟩:=hv.at (B:=B1) (L:=[s]) (i:=k) (v:=str y) 0 rfl (by rw [List.getElem?_map,hy];rfl)
 refine Zh (Ze (Zi (Zn (Za (xM (h:=xM (h:=Zr (Za3 rfl rfl Tryz.underlying81 sz9 rfl rfl oz oz ?_))))))))
 refine Zr (Zu rfl rfl lk9 rfl (Zrb hat) (xR ZpQ rfl (Zbp _ oz _) (h:=?_)))
 refine xN (h:=ZP [(0,_),(3,_),(4,_),(10,_),(18,_)] t5 (Zc rfl (fun g2=>?_) (fun g2=>?_)))
 try simp only [sQ,ne_eq] at g2
 refine Za (xA (h:=ZP [(0,_),(2,_),(3,_),(4,_),(10,_),(18,_)] t6 (Zg (Zz (Zm (Zo8 (Zz (Zm ?_))))))))
 exact Zy .ret (.inl rfl) [_] t1 ⟨Zd (by simp [ZbF,Zik hy g2]),rfl,rfl⟩
 try simp only [sQ,ne_eq] at g2
 refine Zh (ZR (Ze (Zo (xM (h:=Zr (Ze8 rfl rfl rfl rfl (by first | exact ZbE oz oz | rfl) ?_))))))
 refine xA (h:=?_)
 exact Zkc (k+1) oz ⟨rfl,oz,Zge hy g2 ha⟩ t3 rfl
 try simp only [sQ,ne_eq] at g1
 obtain hke:k=(cut 46 l).length:=by omega
 rw [hke,List.take_length] at ha
 refine ZL (ZV (Zkb (ZA (Ze (Za (xM (h:=xV Tryz.underlying81 (h:=Zbx (h:=xM (h:=Zv (d:=22) rfl (fun g3=>?_) (fun g3=>?_)))))))))))
 try simp only [sQ,ne_eq] at g3
 refine xM (h:=xVs Tryz.underlying9 (h:=Zbx (h:=xT (h:=xA (h:=ZP [(0,_),(2,_),(3,_),(4,_),(10,_)] t5 (Zg ?_))))))
 exact Zy .ret (.inl rfl) [_] t1 ⟨Zd (by rw [Bool.eq_iff_iff];simp [ZbF,ha];omega),rfl,rfl⟩
 try simp only [sQ,ne_eq] at g3
 refine xP (h:=xP (h:=xP (h:=xF (h:=xA (h:=ZP [(0,_),(2,_),(3,_),(4,_),(10,_)] t5 (Zg ?_))))))
 exact Zy .ret (.inl rfl) [_] t1 ⟨Zd (by rw [Bool.eq_iff_iff];simp [ZbF,ha];omega),rfl,rfl⟩

set_option maxHeartbeats 400000 in
theorem Zek (q:Option Addr) (cp:Nat) (us:List DUser) (u:Str) (B:Kn) (hu:SlK B q cp 3 Zs us):Z3 (pj J) 35 [.slice q us.length cp,str u] B (.int .i64 (Zfj us u)):=by
 refine Zb 20 Tryz.func35 rfl rfl rfl (Nat.le_of_ble_eq_true rfl) ?_
 have hun:=hu.len
 refine Za (xA (h:=Zi (Za (xA (h:=Zn (ZD (α:=Nat) [0,1] (fun k=>[(5,.int .i64 k)]) [] (fun k=>[]) (fun k Bx=>Bx=B∧k≤us.length∧∀x,x∈us.take k→x.name≠u) (fun k=>us.length - k) 0 t1 rfl (⟨rfl,Nat.zero_le _,by simp⟩) (fun k B1 hle1 hI=>?_)))))))
 obtain ⟨rfl,hk,ha⟩:=hI
 refine ZJ [(0,_),(1,_),(5,_)] [] t3 rfl (Zi (Za (xM (h:=xM (h:=xV Tryz.underlying36 (h:=ZF (h:=Zc rfl (fun g1=>?_) (fun g1=>?_))))))))
 try simp only [sQ,ne_eq] at g1
 refine Zh (Ze (Zi (Zn (Za (xM (h:=xM (h:=?_)))))))
 obtain ⟨x,hx⟩:=ZU (xs:=us) (i:=k) om
 obtain ⟨bb3,oo3,rfl⟩:=hu.base hx
 obtain ⟨_,⟨rfl,hb4,hb4b⟩,hc4⟩:=hu.elem hx
 refine xIx Tryz.underlying36 Zfc (h:=xW ZbC (h:=y1 lk9 hc4 0 (h:=xM (h:=Zco (h:=Zc rfl (fun g2=>?_) (fun g2=>?_))))))
 try simp only [sQ,ne_eq] at g2
 refine Za (xM (h:=xA (h:=Zg (Zz (Zm (ZG (Zz (Zm ?_))))))))
 exact Zy .ret (.inl rfl) [_] t1 ⟨ZC (ZnE hx g2 ha).symm,rfl,rfl⟩
 try simp only [sQ,ne_eq] at g2
 refine Zh (ZR (Ze (Zo (xM (h:=xD (h:=xA (h:=?_)))))))
 exact ZH (k+1) [] so2 ⟨rfl,oz,ZaI hx ha g2⟩ t3 rfl
 try simp only [sQ,ne_eq] at g1
 refine ZL (ZV (ZO (ZA (Ze (Za (xA (h:=Zg ?_)))))))
 exact Zy .ret (.inl rfl) [_] t1 ⟨ZC (ZlZ (ZaR oz ha)).symm,rfl,rfl⟩

set_option maxHeartbeats 400000 in
theorem Zi6 (q q':Option Addr) (cp cp':Nat) (xs ys:List Str) (B:Kn) (ha:SlK B q cp 1 Zd4 xs) (hb:SlK B q' cp' 1 Zd4 ys):Z3 (pj J) 133 [.slice q xs.length cp,.slice q' ys.length cp'] B (.bool (decide (xs=ys))):=by
 refine Zb 26 Tryz.func133 rfl rfl rfl (Nat.le_of_ble_eq_true rfl) ?_
 have han:=ha.len
 have hbn:=hb.len
 refine Za (xA (h:=Zi (Za (xM (h:=xV Tryz.underlying81 (h:=xM (h:=xV Tryz.underlying81 (h:=Zax (h:=Zc rfl (fun g1=>?_) (fun g1=>?_))))))))))
 try simp only [sQ,ne_eq] at g1
 refine Za (xA (h:=Zg (Zm ?_)))
 exact Zy .ret (.inl rfl) [_] t1 ⟨Zd (ZeJ g1),rfl,rfl⟩
 try simp only [sQ,ne_eq] at g1
 refine Zh (Ze (Zi (Za (xA (h:=Zn (ZD (α:=Nat) [0,1,10] (fun k=>[(5,.int .i64 k)]) [] (fun k=>[]) (fun k Bx=>Bx=B∧k≤xs.length∧xs.take k=ys.take k) (fun k=>xs.length - k) 0 t1 rfl (⟨rfl,Nat.zero_le _,by simp⟩) (fun k B1 hle1 hI=>?_)))))))
 obtain ⟨rfl,hk,he⟩:=hI
 refine ZJ [(0,_),(1,_),(5,_),(10,_)] [] t4 rfl (Zi (Za (xM (h:=xM (h:=xV Tryz.underlying81 (h:=ZF (h:=Zc rfl (fun g2=>?_) (fun g2=>?_))))))))
 try simp only [sQ,ne_eq] at g2
 refine Zh (Ze (Zi (Zn (Zi (Z2 (same _ _) mo kr ⟨rfl,rfl⟩ (fun _ _=>?_))))))
 refine aM 0 rfl (h:=aM 1 rfl (h:=?_))
 obtain ⟨x,hx⟩:=ZU (xs:=xs) (i:=k) om
 obtain ⟨bb3,oo3,rfl⟩:=ha.base hx
 obtain ⟨_,⟨rfl,hb4⟩,hc4⟩:=ha.elem hx
 refine aIx 2 rfl Tryz.underlying81 sz9 (h:=aT 3 rfl (Z5 fun D=>Zu rfl rfl lk9 rfl (hc4 _ 0 _ rfl) r4) (h:=aM 4 rfl (h:=aM 5 rfl (h:=?_))))
 obtain ⟨y,hy⟩:=ZU (xs:=ys) (i:=k) om
 obtain ⟨bb6,oo6,rfl⟩:=hb.base hy
 obtain ⟨_,⟨rfl,hb7⟩,hc7⟩:=hb.elem hy
 refine aIx 6 rfl Tryz.underlying81 sz9 (h:=aT 7 rfl (Z5 fun D=>Zu rfl rfl lk9 rfl (hc7 _ 0 _ rfl) r4) (h:=Zri 8 rfl (h:=Zt kr kr ?_)))
 refine Ze (Zc rfl (fun g3=>?_) (fun g3=>?_))
 try simp only [sQ,ne_eq] at g3
 refine Za (xA (h:=Zg (Zz (Zm (ZG (Zz (Zm ?_)))))))
 exact Zy .ret (.inl rfl) [_] t1 ⟨Zd (Zdv hx hy g3),rfl,rfl⟩
 try simp only [sQ,ne_eq] at g3
 refine Zh (ZR (Ze (Zo (xM (h:=xD (h:=xA (h:=?_)))))))
 exact ZH (k+1) [] so2 ⟨rfl,oz,Za7 hx hy g3 he⟩ t4 rfl
 try simp only [sQ,ne_eq] at g2
 refine ZL (ZV (ZO (ZA (Ze (Za (xA (h:=Zg ?_)))))))
 exact Zy .ret (.inl rfl) [_] t1 ⟨Zd (eqT oz oz he),rfl,rfl⟩

set_option maxHeartbeats 400000 in
theorem ZnB (q:Option Addr) (cp:Nat) (xs:List Str) (u:Str) (B:Kn) (ha:SlK B q cp 1 Zd4 xs):Z3 (pj J) 135 [.slice q xs.length cp,str u] B (.bool (decide (u∈xs))):=by
 refine Zb 18 Tryz.func135 rfl rfl rfl (Nat.le_of_ble_eq_true rfl) ?_
 have han:=ha.len
 refine Za (xA (h:=Zi (Za (xA (h:=Zn (ZD (α:=Nat) [0,1] (fun k=>[(5,.int .i64 k)]) [] (fun k=>[]) (fun k Bx=>Bx=B∧k≤xs.length∧∀x,x∈xs.take k→x≠u) (fun k=>xs.length - k) 0 t1 rfl (⟨rfl,Nat.zero_le _,by simp⟩) (fun k B1 hle1 hI=>?_)))))))
 obtain ⟨rfl,hk,hn⟩:=hI
 refine ZJ [(0,_),(1,_),(5,_)] [] t3 rfl (Zi (Za (xM (h:=xM (h:=xV Tryz.underlying81 (h:=ZF (h:=Zc rfl (fun g1=>?_) (fun g1=>?_))))))))
 try simp only [sQ,ne_eq] at g1
 refine Zh (Ze (Zi (Zn (Za (xM (h:=xM (h:=?_)))))))
 obtain ⟨x,hx⟩:=ZU (xs:=xs) (i:=k) om
 obtain ⟨bb3,oo3,rfl⟩:=ha.base hx
 obtain ⟨_,⟨rfl,hb4⟩,hc4⟩:=ha.elem hx
 refine xIx Tryz.underlying81 sz9 (h:=y1 lk9 hc4 0 (h:=xM (h:=Zco (h:=Zc rfl (fun g2=>?_) (fun g2=>?_)))))
 try simp only [sQ,ne_eq] at g2
 refine Za (xA (h:=Zg (Zz (Zm (ZG (Zz (Zm ?_)))))))
 exact Zy .ret (.inl rfl) [_] t1 ⟨Zd (Zs3 hx g2),rfl,rfl⟩
 try simp only [sQ,ne_eq] at g2
 refine Zh (ZR (Ze (Zo (xM (h:=xD (h:=xA (h:=?_)))))))
 exact ZH (k+1) [] so2 ⟨rfl,oz,ZaI hx hn g2⟩ t3 rfl
 try simp only [sQ,ne_eq] at g1
 refine ZL (ZV (ZO (ZA (Ze (Za (xA (h:=Zg ?_)))))))
 exact Zy .ret (.inl rfl) [_] t1 ⟨Zd (Zs4 (ZaR oz hn)),rfl,rfl⟩

set_option maxHeartbeats 400000 in
theorem Zkp (q:Option Addr) (cp:Nat) (xs:List Str) (B:Kn) (ha:SlK B q cp 1 Zd4 xs):Z3 (pj J) 96 [.slice q xs.length cp] B (.bool (ZbX xs)):=by
 refine Zb 29 Tryz.func96 rfl rfl rfl (Nat.le_of_ble_eq_true rfl) ?_
 have han:=ha.len
 refine Za (xA (h:=Zi (Za (xA (h:=Zn (ZD (α:=Nat) [0] (fun k=>[(3,.int .i64 k)]) [] (fun k=>[]) (fun k Bx=>Bx=B∧k≤xs.length∧(xs.take k).all Z4=true∧(xs.take k).Nodup) (fun k=>xs.length - k) 0 t1 rfl (⟨rfl,Nat.zero_le _,by simp,by simp⟩) (fun k B1 hle1 hI=>?_)))))))
 obtain ⟨rfl,hk,hv,hn⟩:=hI
 refine ZJ [(0,_),(3,_)] [] t2 rfl (Zi (Za (xM (h:=xM (h:=xV Tryz.underlying81 (h:=ZF (h:=Zc rfl (fun g1=>?_) (fun g1=>?_))))))))
 try simp only [sQ,ne_eq] at g1
 refine Zh (Ze (Zi (Zn (Zi (Z2 (same _ _) mo kr ⟨rfl,rfl⟩ (fun _ _=>?_))))))
 refine aM 0 rfl (h:=aM 1 rfl (h:=?_))
 obtain ⟨x,hx⟩:=ZU (xs:=xs) (i:=k) om
 obtain ⟨bb3,oo3,rfl⟩:=ha.base hx
 obtain ⟨_,⟨rfl,hb4⟩,hc4⟩:=ha.elem hx
 refine aIx 2 rfl Tryz.underlying81 sz9 (h:=aT 3 rfl (Z5 fun D=>Zu rfl rfl lk9 rfl (hc4 _ 0 _ rfl) r4) (h:=aT 4 rfl (Z5 fun D=>ZQ rfl rfl ZpQ rfl (Zbp _ om2 _) r4) (h:=?_)))
 refine aN 5 rfl (h:=aM 6 rfl (h:=Zab (d:=16) rfl (fun g2=>?_) (fun g2=>?_)))
 try simp only [sQ,ne_eq] at g2
 refine aZ 7 rfl (h:=aZ 8 rfl (h:=aZ 9 rfl (h:=aZ 10 rfl (h:=aZ 11 rfl (h:=aZ 12 rfl (h:=aZ 13 rfl (h:=aZ 14 rfl (h:=aPT 15 rfl (h:=Zt kr kr ?_)))))))))
 refine Ze (Zc (t:=true) rfl (fun _=>Za (xA (h:=Zg (Zz (Zm (ZG (Zz (Zm ?_)))))))) (fun h=>Bool.noConfusion h))
 exact Zy .ret (.inl rfl) [_] t1 ⟨Zd (ZeZ hx g2),rfl,rfl⟩
 try simp only [sQ,ne_eq] at g2
 refine aM 7 rfl (h:=aM 8 rfl (h:=?_))
 obtain ⟨hq6,q6,cp6,hv6,hr6⟩:=ha.cutE 0 k om om
 have hr6n:=hr6.len
 refine aT 9 rfl (Z5 fun D=>Zk0 (a:=0) (b:=k) hv6 om hq6 rfl rfl Tryz.underlying81 sz9 rfl rfl ⟨_,_,rfl,by first | omega | (simp;done) | (simp;omega)⟩ r4) (h:=?_)
 refine aM 10 rfl (h:=aM 11 rfl (h:=aIx 12 rfl Tryz.underlying81 sz9 (h:=aT 13 rfl (Z5 fun D=>Zu rfl rfl lk9 rfl (hc4 _ 0 _ rfl) r4) (h:=aT 14 rfl (Z5 fun D=>ZQ rfl rfl Zsc rfl (ZnB _ _ _ _ _ hr6) r4) (h:=aPF 15 rfl (h:=Zt kr kr ?_))))))
 refine Ze (Zc rfl (fun g3=>?_) (fun g3=>?_))
 try simp only [sQ,ne_eq] at g3
 refine Za (xA (h:=Zg (Zz (Zm (ZG (Zz (Zm ?_)))))))
 exact Zy .ret (.inl rfl) [_] t1 ⟨Zd (ZeY hx (by simpa using g3)),rfl,rfl⟩
 try simp only [sQ,ne_eq] at g3
 refine Zh (ZR (Ze (Zo (xM (h:=xD (h:=xA (h:=?_)))))))
 exact ZH (k+1) [] so2 ⟨rfl,oz,Zge hx g2 hv,ZlD hx hn (by simpa using g3)⟩ t2 rfl
 try simp only [sQ,ne_eq] at g1
 refine ZL (ZV (ZO (ZA (Ze (Za (xM (h:=xV Tryz.underlying81 (h:=Zbx (h:=xA (h:=Zg ?_))))))))))
 exact Zy .ret (.inl rfl) [_] t1 ⟨Zd (ZfG oz hv hn),rfl,rfl⟩

set_option maxHeartbeats 400000 in
theorem ZhG (q:Option Addr) (cp:Nat) (x:DLetter) (B:Kn) (ha:SlK B q cp 1 Zd4 x.to_) (h1:x.fr.length≤2000000) (h2:x.text.length≤2000000):Z3 (pj J) 60 [.agg #[str x.fr,.slice q x.to_.length cp,str x.text]] B (.bool (ZbM x)):=by
 refine Zb 23 Tryz.func60 rfl rfl rfl (Nat.le_of_ble_eq_true rfl) ?_
 refine Za (xBx [_,_,_] (h:=fun b1=>xA (h:=ZM [_] rfl (Za (xW Zmf (h:=x1 lk9 0 (h:=xR ZpQ rfl (Zbp _ om2 _) (h:=?_))))))))
 refine xM (h:=Zv (d:=6) rfl (fun g1=>?_) (fun g1=>?_))
 try simp only [sQ,ne_eq] at g1
 refine xW Zi4 (h:=x1 ZlO 0 (h:=xR Zte rfl (Zkp _ _ _ _ ha) (h:=xT (h:=xM (h:=Zv (d:=11) rfl (fun g2=>?_) (fun g2=>?_))))))
 try simp only [sQ,ne_eq] at g2
 refine xW Zi4 (h:=x1 ZlO 0 (h:=xV Tryz.underlying81 (h:=Zdy (h:=xT (h:=xM (h:=Zv (d:=17) rfl (fun g3=>?_) (fun g3=>?_)))))))
 try simp only [sQ,ne_eq] at g3
 refine xW Zme (h:=x1 lk9 0 (h:=xVs Tryz.underlying9 (h:=Zbx (h:=xT (h:=xA (h:=Zg ?_))))))
 exact Zy .ret (.inl rfl) [_] t1 ⟨Zd (by rw [Bool.eq_iff_iff];simp [ZbM,g1,g2,g3];try omega),rfl,rfl⟩
 try simp only [sQ,ne_eq] at g3
 refine xP (h:=xP (h:=xP (h:=xP (h:=xF (h:=xA (h:=Zg ?_))))))
 exact Zy .ret (.inl rfl) [_] t1 ⟨Zd (by rw [Bool.eq_iff_iff];simp [ZbM,g1,g2,g3];try omega),rfl,rfl⟩
 try simp only [sQ,ne_eq] at g2
 refine xP (h:=xP (h:=xP (h:=xP (h:=xF (h:=xM (h:=xP (h:=xP (h:=xP (h:=xP (h:=xF (h:=xA (h:=Zg ?_))))))))))))
 exact Zy .ret (.inl rfl) [_] t1 ⟨Zd (by rw [Bool.eq_iff_iff];simp [ZbM,g1,g2];try omega),rfl,rfl⟩
 try simp only [sQ,ne_eq] at g1
 refine xP (h:=xP (h:=xP (h:=xF (h:=xM (h:=xP (h:=xP (h:=xP (h:=xP (h:=xF (h:=xM (h:=xP (h:=xP (h:=?_)))))))))))))
 refine xP (h:=xP (h:=xF (h:=xA (h:=Zg ?_))))
 exact Zy .ret (.inl rfl) [_] t1 ⟨Zd (by rw [Bool.eq_iff_iff];simp [ZbM,g1];try omega),rfl,rfl⟩

set_option maxHeartbeats 400000 in
theorem Zpv (q:Option Addr) (cp:Nat) (xs:List Str) (v:Str) (B:Kn) (ha:SlK B q cp 1 Zd4 xs):Z3 (pj J) 154 [.slice q xs.length cp,str v] B (.int .i64 (ZrQ xs v)):=by
 refine Zb 19 Tryz.func154 rfl rfl rfl (Nat.le_of_ble_eq_true rfl) ?_
 have han:=ha.len
 refine Za (xA (h:=Zi (Za (xM (h:=xV Tryz.underlying81 (h:=xM (h:=Zn (ZD (α:=Nat) [0,1,7] (fun k=>[(8,.int .i64 k)]) [] (fun k=>[]) (fun k Bx=>Bx=B∧k≤xs.length∧∀x,x∈xs.take k→decide (x=v)=false) (fun k=>xs.length - k) 0 t1 rfl (⟨rfl,Nat.zero_le _,by simp⟩) (fun k B1 hle1 hI=>?_)))))))))
 obtain ⟨rfl,hk,hn⟩:=hI
 refine ZJ [(0,_),(1,_),(7,_),(8,_)] [] t4 rfl (Za (ZF (h:=Zi (Zc rfl (fun g1=>?_) (fun g1=>?_)))))
 try simp only [sQ,ne_eq] at g1
 refine Zh (Ze (Zi (Zn (Za (xM (h:=xA (h:=Za (xM (h:=xM (h:=xM (h:=?_)))))))))))
 obtain ⟨x,hx⟩:=ZU (xs:=xs) (i:=k) om
 obtain ⟨bb3,oo3,rfl⟩:=ha.base hx
 obtain ⟨_,⟨rfl,hb4⟩,hc4⟩:=ha.elem hx
 refine xIx Tryz.underlying81 sz9 (h:=y1 lk9 hc4 0 (h:=Zco (h:=Zc rfl (fun g2=>?_) (fun g2=>?_))))
 try simp only [sQ,ne_eq] at g2
 refine Za (xM (h:=xA (h:=Zg (Zz (Zm (ZG (Zz (Zm ?_))))))))
 exact Zy .ret (.inl rfl) [_] t1 ⟨ZC (Zfk hx (by simp [g2]) hn).symm,rfl,rfl⟩
 try simp only [sQ,ne_eq] at g2
 refine Zh (ZR (Ze (Zo (xD (h:=xM (h:=?_))))))
 exact ZH (k+1) [] so2 ⟨rfl,oz,ZaI hx hn (by simp [Ne.symm g2])⟩ t4 rfl
 try simp only [sQ,ne_eq] at g1
 refine ZL (ZV (ZO (ZA (Ze (Za (xA (h:=Zg ?_)))))))
 exact Zy .ret (.inl rfl) [_] t1 ⟨ZC (Zde (ZaR oz hn)).symm,rfl,rfl⟩

set_option maxHeartbeats 400000 in
theorem ZkE (q:Option Addr) (cp:Nat) (xs:List Str) (v:Str) (B:Kn) (ha:SlK B q cp 1 Zd4 xs):Z3 (pj J) 139 [.slice q xs.length cp,str v] B (.bool (decide (v∈xs))):=by
 refine Zb 9 Tryz.func139 rfl rfl rfl (Nat.le_of_ble_eq_true rfl) ?_
 refine Za (xA (h:=Za (xM (h:=xM (h:=xR ZrZ rfl (Zpv _ _ _ _ _ ha) (h:=Zdz (h:=xA (h:=Zg ?_))))))))
 exact Zy .ret (.inl rfl) [_] t1 ⟨Zd (by rw [Bool.eq_iff_iff];simp [ZnF]),rfl,rfl⟩

set_option maxHeartbeats 400000 in
theorem ZiJ (q:Option Addr) (cp:Nat) (xs:List Str) (B:Kn) (ha:SlK B q cp 1 Zd4 xs):Z3 (pj J) 104 [.slice q xs.length cp] B (.bool (decide (1≤xs.length) && ZbX xs)):=by
 refine Zb 31 Tryz.func104 rfl rfl rfl (Nat.le_of_ble_eq_true rfl) ?_
 have han:=ha.len
 refine Za (xA (h:=Zi (Za (xM (h:=xV Tryz.underlying81 (h:=ZF (h:=xM (h:=Zv (d:=8) rfl (fun g1=>?_) (fun g1=>?_)))))))))
 try simp only [sQ,ne_eq] at g1
 refine xP (h:=xP (h:=xP (h:=xT (h:=Zc (t:=true) rfl (fun _=>Za (xA (h:=Zg (Zm ?_)))) (fun h=>Bool.noConfusion h)))))
 exact Zy .ret (.inl rfl) [_] t1 ⟨Zd (by simp;omega),rfl,rfl⟩
 try simp only [sQ,ne_eq] at g1
 refine xM (h:=xV Tryz.underlying81 (h:=Zdy (h:=xF (h:=Zc rfl (fun g2=>?_) (fun g2=>?_)))))
 try simp only [sQ,ne_eq] at g2
 refine Za (xA (h:=Zg (Zm ?_)))
 exact Zy .ret (.inl rfl) [_] t1 ⟨Zd (by simp [ZbX];omega),rfl,rfl⟩
 try simp only [sQ,ne_eq] at g2
 refine Zh (Ze (Zi (Za (xM (h:=xV Tryz.underlying81 (h:=xM (h:=Zn (ZD (α:=Nat) [0,12,13,14] (fun k=>[(15,.int .i64 k)]) [] (fun k=>[]) (fun k Bx=>Bx=B∧k≤xs.length∧(xs.take k).all Z4=true∧(xs.take k).Nodup) (fun k=>xs.length - k) 0 t1 rfl (⟨rfl,Nat.zero_le _,by simp,by simp⟩) (fun k B1 hle1 hI=>?_)))))))))
 obtain ⟨rfl,hk,hv,hn⟩:=hI
 refine ZJ [(0,_),(12,_),(13,_),(14,_),(15,_)] [] t5 rfl (Za (ZF (h:=Zi (Zc rfl (fun g3=>?_) (fun g3=>?_)))))
 try simp only [sQ,ne_eq] at g3
 refine Zh (Ze (Zi (Zn (Za (xM (h:=?_))))))
 obtain ⟨x,hx⟩:=ZU (xs:=xs) (i:=k) om
 obtain ⟨bb3,oo3,rfl⟩:=ha.base hx
 obtain ⟨_,⟨rfl,hb4⟩,hc4⟩:=ha.elem hx
 refine xIx Tryz.underlying81 sz9 (h:=y1 lk9 hc4 0 (h:=xA (h:=xA (h:=Za (xM (h:=xR ZoM rfl (Za9 _ om2 _) (h:=?_)))))))
 refine xN (h:=xM (h:=Zv (d:=23) rfl (fun g4=>?_) (fun g4=>?_)))
 try simp only [sQ,ne_eq] at g4
 refine xP (h:=xP (h:=xP (h:=xP (h:=xP (h:=xT (h:=Zc (t:=true) rfl (fun _=>Za (xA (h:=Zg (Zz (Zm (ZG (Zz (Zm ?_)))))))) (fun h=>Bool.noConfusion h)))))))
 exact Zy .ret (.inl rfl) [_] t1 ⟨Zd (by rw [← ZeZ hx g4,Bool.and_false]),rfl,rfl⟩
 try simp only [sQ,ne_eq] at g4
 refine xM (h:=xM (h:=?_))
 obtain ⟨hq6,q6,cp6,hv6,hr6⟩:=ha.cutE 0 k om om
 have hr6n:=hr6.len
 refine Zr (Zk0 (a:=0) (b:=k) hv6 om hq6 rfl rfl Tryz.underlying81 sz9 rfl rfl ⟨_,_,rfl,by first | omega | (simp;done) | (simp;omega)⟩ ?_)
 refine xM (h:=xR Zr8 rfl (ZkE _ _ _ _ _ hr6) (h:=xF (h:=Zc rfl (fun g5=>?_) (fun g5=>?_))))
 try simp only [sQ,ne_eq] at g5
 refine Za (xA (h:=Zg (Zz (Zm (ZG (Zz (Zm ?_)))))))
 exact Zy .ret (.inl rfl) [_] t1 ⟨Zd (by rw [← ZeY hx (by simpa using g5),Bool.and_false]),rfl,rfl⟩
 try simp only [sQ,ne_eq] at g5
 refine Zh (ZR (Ze (Zo (xD (h:=xM (h:=?_))))))
 exact ZH (k+1) [] so2 ⟨rfl,oz,Zge hx g4 hv,ZlD hx hn (by simpa using g5)⟩ t5 rfl
 try simp only [sQ,ne_eq] at g3
 refine ZL (ZV (ZO (ZA (Ze (Za (xA (h:=Zg ?_)))))))
 exact Zy .ret (.inl rfl) [_] t1 ⟨Zd (by rw [← ZfG oz hv hn];simp;omega),rfl,rfl⟩

set_option maxHeartbeats 400000 in
theorem ZhZ (q:Option Addr) (cp:Nat) (x:DLetter) (B:Kn) (ha:SlK B q cp 1 Zd4 x.to_) (h1:x.fr.length≤2000000) (h2:x.text.length≤2000000):Z3 (pj J) 72 [.agg #[str x.fr,.slice q x.to_.length cp,str x.text]] B (.bool (ZbM x)):=by
 refine Zb 17 Tryz.func72 rfl rfl rfl (Nat.le_of_ble_eq_true rfl) ?_
 refine Za (xBx [_,_,_] (h:=fun b1=>xA (h:=ZM [_] rfl (Za (xW Zmf (h:=x1 lk9 0 (h:=xR ZoM rfl (Za9 _ om2 _) (h:=?_))))))))
 refine xM (h:=Zv (d:=6) rfl (fun g1=>?_) (fun g1=>?_))
 try simp only [sQ,ne_eq] at g1
 refine xW Zi4 (h:=x1 ZlO 0 (h:=xR Zsn rfl (ZiJ _ _ _ _ ha) (h:=xT (h:=xM (h:=Zv (d:=11) rfl (fun g2=>?_) (fun g2=>?_))))))
 try simp only [sQ,ne_eq] at g2
 refine xW Zme (h:=x1 lk9 0 (h:=xVs Tryz.underlying9 (h:=Zbx (h:=xT (h:=xA (h:=Zg ?_))))))
 exact Zy .ret (.inl rfl) [_] t1 ⟨Zd (by rw [Zdb];simp [g1,g2]),rfl,rfl⟩
 try simp only [sQ,ne_eq] at g2
 refine xP (h:=xP (h:=xP (h:=xP (h:=xF (h:=xA (h:=Zg ?_))))))
 exact Zy .ret (.inl rfl) [_] t1 ⟨Zd (by rw [Zdb];simp [g1,g2]),rfl,rfl⟩
 try simp only [sQ,ne_eq] at g1
 refine xP (h:=xP (h:=xP (h:=xF (h:=xM (h:=xP (h:=xP (h:=xP (h:=xP (h:=xF (h:=xA (h:=Zg ?_)))))))))))
 exact Zy .ret (.inl rfl) [_] t1 ⟨Zd (by rw [Zdb];simp [g1]),rfl,rfl⟩

set_option maxHeartbeats 400000 in
theorem ZiG (aq:Option Addr) (cq:Nat) (q:DQueue) (B:Kn) (hq:SlK B aq cq 4 ZB q.items):Z3 (pj J) 32 [.agg #[.int .i64 q.next,.slice aq q.items.length cq]] B (.bool (Zav q)):=by
 refine Zb 48 Tryz.func32 rfl rfl rfl (Nat.le_of_ble_eq_true rfl) ?_
 have hqn:=hq.len
 refine Za (xBx [_,_] (h:=fun b1=>xA (h:=ZM [_] rfl (Za (xA (h:=Zi (Za (xA (h:=Zn (ZD (α:=Nat × Int) [0,1] (fun p=>[(3,.int .i64 p.2),(4,.int .i64 p.1)]) [] (fun p=>[]) (fun p Bx=>Bx=B∧p.1≤q.items.length∧Zcq 0 q.items=Zcq p.2 (q.items.drop p.1)∧0≤p.2∧p.2≤99) (fun p=>q.items.length - p.1) (0,0) t2 rfl (⟨rfl,Nat.zero_le _,rfl,by decide,by decide⟩) (fun p B2 hle2 hI=>?_)))))))))))
 obtain ⟨rfl,hk,hs,hl0,hl1⟩:=hI
 refine ZJ [(0,_),(1,_),(3,_),(4,_)] [_] t4 rfl (Zi (Za (xM (h:=xW Zc4 (h:=x1 ZlP 0 (h:=xV Tryz.underlying38 (h:=ZF (h:=Zc rfl (fun g1=>?_) (fun g1=>?_)))))))))
 try simp only [sQ,ne_eq] at g1
 refine Zh (Ze (Zi (Zn (Za (xW Zc4 (h:=x1 ZlP 0 (h:=xM (h:=?_))))))))
 obtain ⟨x,hx⟩:=ZU (xs:=q.items) (i:=p.1) om
 obtain ⟨bb4,oo4,rfl⟩:=hq.base hx
 obtain ⟨_,⟨qi5,ci5,rfl,hi5,hb5,hb5b⟩,hc5⟩:=hq.elem hx
 have hi5n:=hi5.len
 refine xIx Tryz.underlying38 ZhF (h:=?_)
 replace hs:=Zlr hs hx
 refine yL [_,_,_,_] ZmS hc5 0 (h:=xAl [_,_,_,_] ZmT (h:=fun b6=>xS [_,_,_,_] 1 [_,_,_,_] ZhF (h:=ZM [_,_] rfl (Zi (Za (xW ZfW (h:=x1 lk3 1 (h:=xM (h:=xD (h:=xR ZnX rfl (Zej _ _ _ _) (h:=xN (h:=xM (h:=?_)))))))))))))
 refine Zv (d:=24) rfl (fun g2=>?_) (fun g2=>?_)
 try simp only [sQ,ne_eq] at g2
 refine xP (h:=xP (h:=xP (h:=xP (h:=xP (h:=xP (h:=xP (h:=xP (h:=xP (h:=xT (h:=Zc (t:=true) rfl (fun _=>Za (xA (h:=?_))) (fun h=>Bool.noConfusion h)))))))))))
 refine Zg (Zm (Zz (Zm (ZG (Zz (Zm ?_))))))
 exact Zy .ret (.inl rfl) [_] t1 ⟨Zd (ZjF (by rw [hs,if_neg];intro h;simp [h.1] at g2)),rfl,rfl⟩
 try simp only [sQ,ne_eq] at g2
 simp only [Bool.and_eq_true,decide_eq_true_eq] at g2
 refine xW ZfV (h:=x1 lk9 1 (h:=xW ZfU (h:=x1 ZlO 1 (h:=xW Zh7 (h:=x1 lk9 1 (h:=xB [(0,_),(1,_),(2,_)] [_,_,_] [_,_,_] ZqF Zp8 (h:=xR ZtG rfl (ZhG _ _ ⟨x.fr,x.left,x.text⟩ _ hi5 oa oa) (h:=?_))))))))
 refine xN (h:=xF (h:=Zc rfl (fun g3=>?_) (fun g3=>?_)))
 try simp only [sQ,ne_eq] at g3
 refine Za (xA (h:=Zg (Zm (Zz (Zm (ZG (Zz (Zm ?_))))))))
 exact Zy .ret (.inl rfl) [_] t1 ⟨Zd (ZjF (by rw [hs,if_neg];intro h;rw [Zel,g3] at h;cases h.2)),rfl,rfl⟩
 try simp only [sQ,ne_eq] at g3
 refine Zh (Ze (Zo (xW ZfW (h:=x1 lk3 1 (h:=xA (h:=ZR (Ze (Zo (xM (h:=xD (h:=xA (h:=?_))))))))))))
 exact ZH (p.1+1,x.id) [0] so2 ⟨rfl,so,by rw [hs,if_pos ⟨g2,g3⟩],so,so⟩ t4 rfl
 try simp only [sQ,ne_eq] at g1
 rw [Zmy oz,Zcq] at hs
 refine ZL (ZV (ZO (ZA (Ze (Za (xW ZfX (h:=x1 lk3 0 (h:=xM (h:=xD (h:=xR ZnX rfl (Zej _ _ _ _) (h:=xM (h:=Zv (d:=42) rfl (fun g1=>?_) (fun g1=>?_)))))))))))))
 try simp only [sQ,ne_eq] at g1
 refine xW Zc4 (h:=x1 ZlP 0 (h:=xV Tryz.underlying38 (h:=Zbx (h:=xT (h:=xA (h:=Zg ?_))))))
 exact Zy .ret (.inl rfl) [_] t1 ⟨Zd (by rw [← ZjE hs,Bool.eq_iff_iff];simp [g1,g1];try omega),rfl,rfl⟩
 try simp only [sQ,ne_eq] at g1
 refine xP (h:=xP (h:=xP (h:=xP (h:=xF (h:=xA (h:=Zg ?_))))))
 exact Zy .ret (.inl rfl) [_] t1 ⟨Zd (by rw [← ZjE hs,Bool.eq_iff_iff];simp [g1,g1];try omega),rfl,rfl⟩

set_option maxHeartbeats 400000 in
theorem Zl0 (q:Option Addr) (m cp:Nat) (B:Kn):Z3 (pj J) 171 [.slice q m cp] B (.int .i64 m):=by
 refine Zb 5 Tryz.func171 rfl rfl rfl (Nat.le_of_ble_eq_true rfl) ?_
 refine Za (xA (h:=Za (xM (h:=xV Tryz.underlying169 (h:=xA (h:=Zg ?_))))))
 exact Zy .ret (.inl rfl) [_] t1 ⟨rfl,rfl,rfl⟩

set_option maxHeartbeats 400000 in
theorem Zen (q:Option Addr) (cp:Nat) (xs:List Int) (i j:Nat) (a b:Int) (hi:xs[i]? = some a) (hj:xs[j]? = some b) (B:Kn) (hx:SlK B q cp 1 Zcm xs):Z3 (pj J) 172 [.slice q xs.length cp,.int .i64 i,.int .i64 j] B (.bool (decide (a<b))):=by
 refine Zb 16 Tryz.func172 rfl rfl rfl (Nat.le_of_ble_eq_true rfl) ?_
 have hil:=Za1 hi
 have hjl:=Za1 hj
 refine Za (xA (h:=Zi (Z2 (same _ _) mo kr ⟨rfl,rfl⟩ (fun _ _=>?_))))
 refine aM 0 rfl (h:=aM 1 rfl (h:=?_))
 obtain ⟨z,hz⟩:=ZU (xs:=xs) (i:=i) om
 obtain ⟨bb2,oo2,rfl⟩:=hx.base hz
 obtain ⟨_,rfl,hc3⟩:=hx.elem hz
 refine aIx 2 rfl Tryz.underlying168 sz3 (h:=aT 3 rfl (Z5 fun D=>Zu rfl rfl lk3 rfl (hc3 _ 0 _ rfl) r4) (h:=aM 4 rfl (h:=aM 5 rfl (h:=?_))))
 obtain ⟨w,hw⟩:=ZU (xs:=xs) (i:=j) om
 obtain ⟨_,rfl,hc5⟩:=hx.elem hw
 refine aIx 6 rfl Tryz.underlying168 sz3 (h:=?_)
 rw [hi] at hz
 cases hz
 rw [hj] at hw
 cases hw
 refine aT 7 rfl (Z5 fun D=>Zu rfl rfl lk3 rfl (hc5 _ 0 _ rfl) r4) (h:=Zod 8 rfl (h:=aA 9 rfl (h:=Zt kr kr ?_)))
 refine Ze (Zg ?_)
 exact Zy .ret (.inl rfl) [_] t1 ⟨rfl,rfl,rfl⟩

set_option maxHeartbeats 400000 in
theorem ZnH (b:Nat) (q:Option Addr) (cp:Nat) (xs:List Int) (l:Cells) (z:Int) (hn:xs.length≤2000000) (B:Kn) (hv:Zap B l q cp 3 1 Zcm xs):ZT (pj J) 174 [ptr ⟨b,0,none⟩,.iface 3 (.int .i64 z)] B [ZaJ b [.slice q xs.length cp] 169,l] (fun v B' Ls=>B'=B∧∃q' c' l',Ls=[ZaJ b [.slice q' (xs ++ [z]).length c'] 169,l']∧Zap B l' q' c' 3 1 Zcm (xs ++ [z])):=by
 refine Zb 13 Tryz.func174 rfl rfl rfl (Nat.le_of_ble_eq_true rfl) ?_
 refine Z2 (keeps _ [0] _) mo kr ⟨Kn.le.refl _,ZaV.refl _ _⟩ (fun _ _=>?_)
 refine aM 0 rfl (h:=aM 1 rfl (h:=aNc 2 rfl (h:=aT 3 rfl (Z6 fun D B L hI=>Zu rfl rfl ZdA rfl (atL 0 (hI.2.1.trans rfl) rfl rfl) r4) (h:=aM 4 rfl (h:=aT 5 rfl (Z6 fun D B L hI=>Zhu rfl rfl Tryz.underlying3 rfl rfl r4) (h:=ZS 6 kr rfl kr (ZeT (parts:=[(0,_)]) [_] rfl rfl Tryz.underlying168 sz3 zo3 rfl rfl rfl rfl rfl (fun b1=>?_))))))))
 refine ⟨⟨Kn.le.refl _,t1⟩,(ZS 7 kr rfl kr (Zqs (z:=z) (R:=Zcm) 1 rfl hv rfl rfl rfl ZrU ZrL rfl rfl (Zd1.box 2 rfl) rfl rfl (rfl) om (fun l2 p2 c2 hv2=>?_)))⟩
 refine ⟨⟨Kn.le.refl _,t1⟩,(aNc 8 rfl (h:=ZmL 9 kr rfl kr kr kr (ZaD [_] 0 [_] rfl rfl Zqz rfl rfl rfl rfl rfl rfl rfl rfl ?_)))⟩
 exact ZeK .normal (.inr rfl) [] [0,1] rfl trivial ⟨rfl,_,_,_,rfl,hv2⟩

set_option maxHeartbeats 400000 in
theorem Zpw (b:Nat) (q:Option Addr) (cp:Nat) (xs:List Int) (l:Cells) (z:Int) (hz:xs[xs.length - 1]? = some z) (hn:xs.length≤2000000) (B:Kn) (hv:Zap B l q cp 3 1 Zcm xs):ZT (pj J) 173 [ptr ⟨b,0,none⟩] B [ZaJ b [.slice q xs.length cp] 169,l] (fun v B' Ls=>B'=B∧v = .iface 3 (.int .i64 z)∧Ls=[ZaJ b [.slice q (xs.length - 1) cp] 169,l]∧Zap B l q cp 3 1 Zcm (xs.take (xs.length - 1))):=by
 refine Zb 25 Tryz.func173 rfl rfl rfl (Nat.le_of_ble_eq_true rfl) ?_
 have hl1:=Za1 hz
 have hcp:=hv.cap
 have hv9:=hv.take (k:=xs.length - 1) oz
 have hs0:=hv.slice0 (sz:=1)
 refine Za (xA (h:=Za (xM (h:=xNc (h:=x1 ZdA 0 (h:=xV Tryz.underlying169 (h:=Zr (ZgS (r:=((xs.length - 1:Nat):Int)) rfl rfl rfl rfl (by rw [show ((xs.length:Int) - 1)=((xs.length - 1:Nat):Int) from by omega];exact ZbE oz oz) ?_))))))))
 refine xA (h:=Za (xM (h:=xNc (h:=x1 ZdA 0 (h:=xM (h:=?_))))))
 obtain ⟨w,hw⟩:=ZU (xs:=xs) (i:=(xs.length - 1)) om
 obtain ⟨bb2,_,hp2,rfl,hw2,hc2⟩:=hv.row hw
 refine xIp hp2 Tryz.underlying168 sz3 (h:=?_)
 rw [hz] at hw
 cases hw
 refine Zr (Zu rfl rfl lk3 rfl (hc2 _ 1 rfl 0 _ rfl) (xA (h:=Za (xM (h:=xM (h:=xNc (h:=x1 ZdA 0 (h:=xM (h:=Zr (Zjm rfl rfl Tryz.underlying168 sz3 rfl (a:=0) (b:=xs.length - 1) rfl ⟨_,_,rfl,rfl⟩ oz oz ?_))))))))))
 rw [hs0]
 refine xNc (h:=xS [_] 0 [_] Zqz (h:=ZM [_,_] rfl (Za (xM (h:=Zr (ZcI rfl rfl Tryz.underlying3 rfl rfl (xA (h:=Zg ?_))))))))
 exact ZeK .ret (.inl rfl) [_] [0,1] rfl t1 ⟨rfl,rfl,rfl,hv9⟩

set_option maxHeartbeats 400000 in
theorem Zem (q:Option Addr) (cp:Nat) (xs:List Int) (l:Cells) (i j:Nat) (a b:Int) (hi:xs[i]? = some a) (hj:xs[j]? = some b) (hn:xs.length≤2000000) (B:Kn) (hv:Zap B l q cp 3 1 Zcm xs):ZT (pj J) 175 [.slice q xs.length cp,.int .i64 i,.int .i64 j] B [l] (fun v B' Ls=>B'=B∧∃l',Ls=[l']∧Zap B l' q cp 3 1 Zcm ((xs.set i b).set j a)):=by
 refine Zb 20 Tryz.func175 rfl rfl rfl (Nat.le_of_ble_eq_true rfl) ?_
 have hil:=Za1 hi
 have hjl:=Za1 hj
 refine Z2 (keeps _ [0] _) mo kr ⟨Kn.le.refl _,ZaV.refl _ _⟩ (fun _ _=>?_)
 refine aM 0 rfl (h:=aM 1 rfl (h:=aM 2 rfl (h:=aM 3 rfl (h:=aM 4 rfl (h:=aM 5 rfl (h:=?_))))))
 obtain ⟨y,hy⟩:=ZU (xs:=xs) (i:=j) om
 obtain ⟨bb2,_,hp2,rfl,hw2,hc2⟩:=hv.row hy
 refine aT 6 rfl (Z6 fun D B L hI=>ZkY hp2 rfl rfl Tryz.underlying168 sz3 rfl rfl om om r4) (h:=?_)
 refine aT 7 rfl (Z6 fun D B L hI=>Zu rfl rfl lk3 rfl (hc2 _ 0 (hI.2.1.trans rfl) 0 _ rfl) r4) (h:=aM 8 rfl (h:=aM 9 rfl (h:=?_)))
 obtain ⟨x,hx⟩:=ZU (xs:=xs) (i:=i) om
 obtain ⟨bb4,_,hp4,rfl,hw4,hc4⟩:=hv.row hx
 refine aT 10 rfl (Z6 fun D B L hI=>ZkY hp4 rfl rfl Tryz.underlying168 sz3 rfl rfl om om r4) (h:=?_)
 refine aT 11 rfl (Z6 fun D B L hI=>Zu rfl rfl lk3 rfl (hc4 _ 0 (hI.2.1.trans rfl) 0 _ rfl) r4) (h:=?_)
 obtain ⟨bb5,_,hp5,rfl,hw5,hc5⟩:=hv.row hx
 refine aT 12 rfl (Z6 fun D B L hI=>ZkY hp5 rfl rfl Tryz.underlying168 sz3 rfl rfl om om r4) (h:=?_)
 refine Zbk 13 kr rfl kr kr (Zqa (k:=i) (off:=0) (y) [_] 0 hv hp5 hx rfl rfl sz3 rfl rfl rfl rfl rfl rfl ((fun row h=>by cases h;rfl)) (fun l6 hv6=>?_))
 obtain ⟨w,hw⟩:=ZU (xs:=(xs.set i (y))) (i:=j) om
 obtain ⟨bb8,_,hp8,rfl,hw8,hc8⟩:=hv6.row hw
 refine aT 14 rfl (Z6 fun D B L hI=>ZkY hp8 rfl rfl Tryz.underlying168 sz3 rfl rfl om om r4) (h:=?_)
 refine ZmL 15 kr rfl kr kr kr (Zqa (k:=j) (off:=0) (x) [_] 0 hv6 hp8 hw rfl rfl sz3 rfl rfl rfl rfl rfl rfl ((fun row h=>by cases h;rfl)) (fun l9 hv9=>?_))
 rw [hi] at hx
 cases hx
 rw [hj] at hy
 cases hy
 exact ZeK .normal (.inr rfl) [] [0] rfl trivial ⟨rfl,_,rfl,hv9⟩

set_option maxHeartbeats 400000 in
theorem ZnK (b:Nat) (q:Option Addr) (cp:Nat) (xs:List Int) (l:Cells) (j:Nat) (hj:j<xs.length) (hn:xs.length≤2000000) (hh:Zd2 xs j) (B:Kn) (hv:Zap B l q cp 3 1 Zcm xs):ZT (pj J) 140 [.iface 167 (ptr ⟨b,0,none⟩),.int .i64 j] B [ZaJ b [.slice q xs.length cp] 169,l] (fun v B' Ls=>B'=B∧∃ys l',Ls=[ZaJ b [.slice q ys.length cp] 169,l']∧Zap B l' q cp 3 1 Zcm ys∧ys.Perm xs∧Zb3 ys):=by
 refine Zb 23 Tryz.func140 rfl rfl rfl (Nat.le_of_ble_eq_true rfl) ?_
 refine Zn (ZD (α:=Nat × List Int × Cells) [0] (fun g=>[(1,.int .i64 g.1)]) [0,1] (fun g=>[ZaJ b [.slice q g.2.1.length cp] 169,g.2.2]) (fun g Bx=>Bx=B∧g.1<g.2.1.length∧g.2.1.Perm xs∧Zd2 g.2.1 g.1∧Zap B g.2.2 q cp 3 1 Zcm g.2.1) (fun g=>g.1) (j,xs,l) t1 rfl (⟨rfl,hj,.refl _,hh,hv⟩) (fun g B1 hle1 hI=>?_))
 obtain ⟨rfl,hk,hp,hb,hv⟩:=hI
 have hpl:=hp.length_eq
 refine ZJ [(0,_),(1,_)] [_,_] t2 rfl (Zn (Za (xM (h:=Zr (ZgS rfl rfl rfl rfl (ZbE oz oz) ?_)))))
 refine Zr (ZmZ (r:=(((g.1 - 1) / 2:Nat):Int)) rfl rfl rfl rfl oz (by rw [show Int.tdiv ((g.1:Int) - 1) 2=(((g.1 - 1) / 2:Nat):Int) from ZrI g.1];exact ZbE oz oz) ?_)
 refine xA (h:=Zi (Za (xM (h:=xM (h:=ZkS (h:=xM (h:=Zv (d:=11) rfl (fun g1=>?_) (fun g1=>?_))))))))
 try simp only [sQ,ne_eq] at g1
 refine xP (h:=xP (h:=xP (h:=xP (h:=xP (h:=xT (h:=Zc (t:=true) rfl (fun _=>ZL (ZV (Zdr rfl (ZO (ZA ?_))))) (fun h=>Bool.noConfusion h)))))))
 exact ZeK .normal (.inr rfl) [] [0,1] rfl trivial ⟨rfl,_,_,rfl,hv,hp,ZoZ (by rw [show g.1=0 from by omega] at hb;exact hb)⟩
 try simp only [sQ,ne_eq] at g1
 refine xM (h:=xM (h:=xM (h:=Zr (ZdL 1 rfl rfl rfl Zmw rfl rfl (Zaz Zcw Tryz.underlying167 ZdA (atL 0 rfl rfl rfl)) (Z3.borrow fun hm2=>Zen _ _ _ _ _ _ _ (Zaj oz) (Zaj oz) _ (hv.lend Zcm.mono hm2 om)) ?_))))
 refine xN (h:=xF (h:=Zc rfl (fun g2=>?_) (fun g2=>?_)))
 try simp only [sQ,ne_eq] at g2
 refine ZL (ZV (Zdr rfl (ZO (ZA ?_))))
 exact ZeK .normal (.inr rfl) [] [0,1] rfl trivial ⟨rfl,_,_,rfl,hv,hp,Zo1 hb (by simpa using g2)⟩
 try simp only [sQ,ne_eq] at g2
 refine Zh (Ze (Za (xM (h:=xM (h:=xM (h:=Zr (ZeS [1] rfl rfl rfl rfl Zmv rfl rfl (Zaz Zcv Tryz.underlying167 ZdA (atL 0 rfl rfl rfl)) (Zem _ _ _ _ _ _ _ _ (Zaj oz) (Zaj oz) oz _ hv) ?_)))))))
 rintro _ B3 _ hle3 ⟨rfl,l3,rfl,hv3⟩
 refine ZM [_,_] rfl (Zo (xM (h:=xA (h:=ZR ?_))))
 rw [← ZbU g.2.1 ((g.1 - 1) / 2) g.1]
 exact ZH ((g.1 - 1) / 2,(swp g.2.1 ((g.1 - 1) / 2) g.1),l3) [0,1] (so) ⟨rfl,by have:=ZbU g.2.1 ((g.1 - 1) / 2) g.1;simp only [];omega,(Zeb oz oz).trans hp,Zo0 oz oz hb (by simpa using g2),hv3⟩ t2 rfl

set_option maxHeartbeats 400000 in
theorem Zkv (b:Nat) (q:Option Addr) (cp:Nat) (xs:List Int) (l:Cells) (z:Int) (hn:xs.length<2000000) (hh:Zb3 xs) (B:Kn) (hv:Zap B l q cp 3 1 Zcm xs):ZT (pj J) 105 [.iface 167 (ptr ⟨b,0,none⟩),.iface 3 (.int .i64 z)] B [ZaJ b [.slice q xs.length cp] 169,l] (fun v B' Ls=>B'=B∧∃q' c' ys l',Ls=[ZaJ b [.slice q' ys.length c'] 169,l']∧Zap B l' q' c' 3 1 Zcm ys∧ys.Perm (xs ++ [z])∧Zb3 ys):=by
 refine Zb 12 Tryz.func105 rfl rfl rfl (Nat.le_of_ble_eq_true rfl) ?_
 refine Za (xM (h:=xM (h:=Zr (ZeS [0,1] rfl rfl rfl rfl ZrX rfl rfl (Zh6 Zkl Tryz.underlying167) (ZnH _ _ _ _ _ _ oz _ hv) ?_))))
 rintro _ B1 _ hle1 ⟨rfl,q1,c1,l1,rfl,hv1⟩
 refine ZM [_,_] rfl (Zo (xM (h:=xM (h:=Zr (ZdL 1 rfl rfl rfl Zq3 rfl rfl (Zaz ZhS Tryz.underlying167 ZdA (atL 0 rfl rfl rfl)) (Z3.borrow fun hm2=>Zl0 _ _ _ _) (Zr (ZgS (r:=((xs.length:Nat):Int)) rfl rfl rfl rfl ((congrArg _ (show _=((xs.length:Nat):Int) from by rw [List.length_append,List.length_singleton];omega)).trans (ZbE oz oz)) ?_)))))))
 refine Zr (Zfs [0,1] rfl rfl rfl rfl Zr7 rfl (ZnK _ _ _ _ _ _ (by simp) (by simp;omega) (Zni hh) _ hv1) ?_)
 rintro _ Bu _ hleu ⟨rfl,ysu,lu,rfl,hvu,hpu,hhu⟩
 exact ZeK .normal (.inr rfl) [] [0,1] rfl trivial ⟨rfl,_,_,_,_,rfl,hvu,hpu,hhu⟩

set_option maxHeartbeats 400000 in
theorem Zkx (b:Nat) (q:Option Addr) (cp:Nat) (xs:List Int) (l:Cells) (m:Nat) (hm:m≤xs.length) (hm0:0<xs.length) (hn:xs.length≤2000000) (hh:Zdl xs m 0) (B:Kn) (hv:Zap B l q cp 3 1 Zcm xs):ZT (pj J) 141 [.iface 167 (ptr ⟨b,0,none⟩),.int .i64 0,.int .i64 m] B [ZaJ b [.slice q xs.length cp] 169,l] (fun v B' Ls=>B'=B∧∃ys l',Ls=[ZaJ b [.slice q ys.length cp] 169,l']∧Zap B l' q cp 3 1 Zcm ys∧ys.Perm xs∧Zoh ys m∧(∀k,m≤k→hat ys k=hat xs k)):=by
 refine Zb 48 Tryz.func141 rfl rfl rfl (Nat.le_of_ble_eq_true rfl) ?_
 refine Za (xA (h:=Za (xM (h:=xA (h:=Zi (Zn (ZD (α:=Nat × List Int × Cells) [0,1,2,6] (fun g=>[(7,.int .i64 g.1)]) [0,1] (fun g=>[ZaJ b [.slice q g.2.1.length cp] 169,g.2.2]) (fun g Bx=>Bx=B∧g.1<g.2.1.length∧g.2.1.Perm xs∧Zdl g.2.1 m g.1∧(∀k,m≤k→hat g.2.1 k=hat xs k)∧Zap B g.2.2 q cp 3 1 Zcm g.2.1) (fun g=>xs.length - g.1) (0,xs,l) t1 rfl (⟨rfl,hm0,.refl _,hh,fun _ _=>rfl,hv⟩) (fun g B1 hle1 hI=>?_))))))))
 obtain ⟨rfl,hk,hp,hb,hs,hv⟩:=hI
 have hpl:=hp.length_eq
 refine ZJ [(0,_),(1,_),(2,_),(6,_),(7,_)] [_,_] t5 rfl (Zn (Za (xM (h:=Zr (ZrC (r:=((2*g.1:Nat):Int)) rfl rfl rfl rfl ((congrArg _ (show _=((2*g.1:Nat):Int) from by omega)).trans (ZbE oz oz)) ?_)))))
 refine Zr (Ze8 (r:=((2*g.1+1:Nat):Int)) rfl rfl rfl rfl ((congrArg _ (show _=((2*g.1+1:Nat):Int) from by omega)).trans (ZbE oz oz)) ?_)
 refine xA (h:=Zi (Za (xM (h:=xM (h:=Zdz (h:=xM (h:=Zv (d:=18) rfl (fun g1=>?_) (fun g1=>?_))))))))
 try simp only [sQ,ne_eq] at g1
 refine xP (h:=xP (h:=xT (h:=Zc (t:=true) rfl (fun _=>ZL (ZV (Zdr rfl (ZO (ZA (Ze (Za (xM (h:=xM (h:=Zdy (h:=xA (h:=Zg ?_)))))))))))) (fun h=>Bool.noConfusion h))))
 exact ZeK .ret (.inl rfl) [_] [0,1] rfl t1 ⟨rfl,_,_,rfl,hv,hp,Zmz hb oz,hs⟩
 try simp only [sQ,ne_eq] at g1
 refine xM (h:=ZF (h:=xF (h:=Zc rfl (fun g2=>by have:=of_decide_eq_true g2;omega) (fun g2=>?_))))
 try simp only [sQ,ne_eq] at g2
 refine Zh (Ze (Za (xM (h:=xA (h:=Zi (Za (xM (h:=Zr (Ze8 (r:=((2*g.1+1+1:Nat):Int)) rfl rfl rfl rfl ((congrArg _ (show _=((2*g.1+1+1:Nat):Int) from by omega)).trans (ZbE oz oz)) ?_)))))))))
 refine xA (h:=Za (xM (h:=xM (h:=ZF (h:=xM (h:=Zv (d:=28) rfl (fun g3=>?_) (fun g3=>?_)))))))
 try simp only [sQ,ne_eq] at g3
 refine xM (h:=xM (h:=xM (h:=Zr (ZdL 1 rfl rfl rfl Zmw rfl rfl (Zaz Zcw Tryz.underlying167 ZdA (atL 0 rfl rfl rfl)) (Z3.borrow fun hm2=>Zen _ _ _ _ _ _ _ (Zaj oz) (Zaj oz) _ (hv.lend Zcm.mono hm2 om)) ?_))))
 refine xT (h:=Zc rfl (fun g4=>?_) (fun g4=>?_))
 try simp only [sQ,ne_eq] at g4
 refine Zo (xM (h:=xA (h:=Ze (Zi (Za (xM (h:=xM (h:=xM (h:=Zr (ZdL 1 rfl rfl rfl Zmw rfl rfl (Zaz Zcw Tryz.underlying167 ZdA (atL 0 rfl rfl rfl)) (Z3.borrow fun hm3=>Zen _ _ _ _ _ _ _ (Zaj oz) (Zaj oz) _ (hv.lend Zcm.mono hm3 om)) ?_))))))))))
 refine xN (h:=Zc rfl (fun g5=>?_) (fun g5=>?_))
 try simp only [sQ,ne_eq] at g5
 refine ZL (ZV (Zdr rfl (ZO (ZA (Ze (Za (xM (h:=xM (h:=Zdy (h:=xA (h:=Zg ?_)))))))))))
 exact ZeK .ret (.inl rfl) [_] [0,1] rfl t1 ⟨rfl,_,_,rfl,hv,hp,Zf5 hb (by intro k h0 hk he;(try simp only [decide_eq_true_eq,decide_eq_false_iff_not,Bool.not_eq_true',Bool.not_eq_false',Int.not_lt] at *);rcases (show k=2*g.1+1∨k=2*g.1+1+1 from by omega) with rfl | rfl <;> omega),hs⟩
 try simp only [sQ,ne_eq] at g5
 refine Zh (Ze (Za (xM (h:=xM (h:=xM (h:=Zr (ZeS [1] rfl rfl rfl rfl Zmv rfl rfl (Zaz Zcv Tryz.underlying167 ZdA (atL 0 rfl rfl rfl)) (Zem _ _ _ _ _ _ _ _ (Zaj oz) (Zaj oz) oz _ hv) ?_)))))))
 rintro _ B4 _ hle4 ⟨rfl,l4,rfl,hv4⟩
 refine ZM [_,_] rfl (Zo (xM (h:=xA (h:=ZR ?_))))
 rw [← ZbU g.2.1 g.1 (2*g.1+1+1)]
 have h5:hat g.2.1 (2*g.1+1+1)<hat g.2.1 g.1:=by simpa using g5
 exact ZH (2*g.1+1+1,(swp g.2.1 g.1 (2*g.1+1+1)),l4) [0,1] (so) ⟨rfl,by have:=ZbU g.2.1 g.1 (2*g.1+1+1);simp only [];omega,(Zeb oz oz).trans hp,Zf4 oz oz oz oz hb (by intro k h0 hk he;(try simp only [decide_eq_true_eq,decide_eq_false_iff_not,Bool.not_eq_true',Bool.not_eq_false',Int.not_lt] at *);rcases (show k=2*g.1+1∨k=2*g.1+1+1 from by omega) with rfl | rfl <;> omega) h5,(fun k hk=>by rw [Zdf oz oz,if_neg oz,if_neg oz];exact hs k hk),hv4⟩ t5 rfl
 try simp only [sQ,ne_eq] at g4
 refine Zh (Ze (Zi (Za (xM (h:=xM (h:=xM (h:=Zr (ZdL 1 rfl rfl rfl Zmw rfl rfl (Zaz Zcw Tryz.underlying167 ZdA (atL 0 rfl rfl rfl)) (Z3.borrow fun hm5=>Zen _ _ _ _ _ _ _ (Zaj oz) (Zaj oz) _ (hv.lend Zcm.mono hm5 om)) ?_))))))))
 refine xN (h:=Zc rfl (fun g5=>?_) (fun g5=>?_))
 try simp only [sQ,ne_eq] at g5
 refine ZL (ZV (Zdr rfl (ZO (ZA (Ze (Za (xM (h:=xM (h:=Zdy (h:=xA (h:=Zg ?_)))))))))))
 exact ZeK .ret (.inl rfl) [_] [0,1] rfl t1 ⟨rfl,_,_,rfl,hv,hp,Zf5 hb (by intro k h0 hk he;(try simp only [decide_eq_true_eq,decide_eq_false_iff_not,Bool.not_eq_true',Bool.not_eq_false',Int.not_lt] at *);rcases (show k=2*g.1+1∨k=2*g.1+1+1 from by omega) with rfl | rfl <;> omega),hs⟩
 try simp only [sQ,ne_eq] at g5
 refine Zh (Ze (Za (xM (h:=xM (h:=xM (h:=Zr (ZeS [1] rfl rfl rfl rfl Zmv rfl rfl (Zaz Zcv Tryz.underlying167 ZdA (atL 0 rfl rfl rfl)) (Zem _ _ _ _ _ _ _ _ (Zaj oz) (Zaj oz) oz _ hv) ?_)))))))
 rintro _ B6 _ hle6 ⟨rfl,l6,rfl,hv6⟩
 refine ZM [_,_] rfl (Zo (xM (h:=xA (h:=ZR ?_))))
 rw [← ZbU g.2.1 g.1 (2*g.1+1)]
 have h5:hat g.2.1 (2*g.1+1)<hat g.2.1 g.1:=by simpa using g5
 exact ZH (2*g.1+1,(swp g.2.1 g.1 (2*g.1+1)),l6) [0,1] (so) ⟨rfl,by have:=ZbU g.2.1 g.1 (2*g.1+1);simp only [];omega,(Zeb oz oz).trans hp,Zf4 oz oz oz oz hb (by intro k h0 hk he;(try simp only [decide_eq_true_eq,decide_eq_false_iff_not,Bool.not_eq_true',Bool.not_eq_false',Int.not_lt] at *);rcases (show k=2*g.1+1∨k=2*g.1+1+1 from by omega) with rfl | rfl <;> omega) h5,(fun k hk=>by rw [Zdf oz oz,if_neg oz,if_neg oz];exact hs k hk),hv6⟩ t5 rfl
 try simp only [sQ,ne_eq] at g3
 refine xP (h:=xP (h:=xP (h:=xP (h:=xF (h:=Zc (t:=false) rfl (fun h=>Bool.noConfusion h) (fun _=>Zh (Ze (Zi (Za (xM (h:=xM (h:=xM (h:=?_)))))))))))))
 refine Zr (ZdL 1 rfl rfl rfl Zmw rfl rfl (Zaz Zcw Tryz.underlying167 ZdA (atL 0 rfl rfl rfl)) (Z3.borrow fun hm7=>Zen _ _ _ _ _ _ _ (Zaj oz) (Zaj oz) _ (hv.lend Zcm.mono hm7 om)) ?_)
 refine xN (h:=Zc rfl (fun g5=>?_) (fun g5=>?_))
 try simp only [sQ,ne_eq] at g5
 refine ZL (ZV (Zdr rfl (ZO (ZA (Ze (Za (xM (h:=xM (h:=Zdy (h:=xA (h:=Zg ?_)))))))))))
 exact ZeK .ret (.inl rfl) [_] [0,1] rfl t1 ⟨rfl,_,_,rfl,hv,hp,Zf5 hb (by intro k h0 hk he;(try simp only [decide_eq_true_eq,decide_eq_false_iff_not,Bool.not_eq_true',Bool.not_eq_false',Int.not_lt] at *);rcases (show k=2*g.1+1∨k=2*g.1+1+1 from by omega) with rfl | rfl <;> omega),hs⟩
 try simp only [sQ,ne_eq] at g5
 refine Zh (Ze (Za (xM (h:=xM (h:=xM (h:=Zr (ZeS [1] rfl rfl rfl rfl Zmv rfl rfl (Zaz Zcv Tryz.underlying167 ZdA (atL 0 rfl rfl rfl)) (Zem _ _ _ _ _ _ _ _ (Zaj oz) (Zaj oz) oz _ hv) ?_)))))))
 rintro _ B8 _ hle8 ⟨rfl,l8,rfl,hv8⟩
 refine ZM [_,_] rfl (Zo (xM (h:=xA (h:=ZR ?_))))
 rw [← ZbU g.2.1 g.1 (2*g.1+1)]
 have h5:hat g.2.1 (2*g.1+1)<hat g.2.1 g.1:=by simpa using g5
 exact ZH (2*g.1+1,(swp g.2.1 g.1 (2*g.1+1)),l8) [0,1] (so) ⟨rfl,by have:=ZbU g.2.1 g.1 (2*g.1+1);simp only [];omega,(Zeb oz oz).trans hp,Zf4 oz oz oz oz hb (by intro k h0 hk he;(try simp only [decide_eq_true_eq,decide_eq_false_iff_not,Bool.not_eq_true',Bool.not_eq_false',Int.not_lt] at *);rcases (show k=2*g.1+1∨k=2*g.1+1+1 from by omega) with rfl | rfl <;> omega) h5,(fun k hk=>by rw [Zdf oz oz,if_neg oz,if_neg oz];exact hs k hk),hv8⟩ t5 rfl

set_option maxHeartbeats 400000 in
theorem Zl2 (b:Nat) (q:Option Addr) (cp:Nat) (xs:List Int) (l:Cells) (hm0:0<xs.length) (hn:xs.length≤2000000) (hh:Zb3 xs) (B:Kn) (hv:Zap B l q cp 3 1 Zcm xs):ZT (pj J) 106 [.iface 167 (ptr ⟨b,0,none⟩)] B [ZaJ b [.slice q xs.length cp] 169,l] (fun v B' Ls=>B'=B∧v = .iface 3 (.int .i64 (hat xs 0))∧∃ys l',Ls=[ZaJ b [.slice q ys.length cp] 169,l']∧Zap B l' q cp 3 1 Zcm ys∧(hat xs 0 :: ys).Perm xs∧Zb3 ys):=by
 refine Zb 15 Tryz.func106 rfl rfl rfl (Nat.le_of_ble_eq_true rfl) ?_
 refine Za (xA (h:=Za (xM (h:=Zr (ZdL 1 rfl rfl rfl Zq3 rfl rfl (Zaz ZhS Tryz.underlying167 ZdA (atL 0 rfl rfl rfl)) (Z3.borrow fun hm1=>Zl0 _ _ _ _) (Zr (ZgS (r:=((xs.length - 1:Nat):Int)) rfl rfl rfl rfl ((congrArg _ (show _=((xs.length - 1:Nat):Int) from by omega)).trans (ZbE oz oz)) ?_)))))))
 refine xA (h:=Za (xM (h:=xM (h:=Zr (ZeS [1] rfl rfl rfl rfl Zmv rfl rfl (Zaz Zcv Tryz.underlying167 ZdA (atL 0 rfl rfl rfl)) (Zem _ _ _ _ _ _ _ _ (Zaj oz) (Zaj oz) oz _ hv) ?_)))))
 rintro _ Bs _ hles ⟨rfl,ls,rfl,hvs⟩
 refine ZM [_,_] rfl ?_
 obtain ⟨zs,hzs,hzl⟩ :∃zs,zs=swp xs 0 (xs.length - 1)∧zs.length=xs.length:=⟨_,rfl,ZbU _ _ _⟩
 have hzz:=hvs
 change Zap _ _ _ _ _ _ _ (swp xs 0 (xs.length - 1)) at hzz
 rw [← hzs] at hzz
 have hdb:Zdl zs (zs.length - 1) 0:=by rw [hzl,hzs];exact Zo9 hh hm0
 have hlz:hat zs (zs.length - 1)=hat xs 0:=by rw [hzl,hzs];exact Znc hm0
 have hpz:zs.Perm xs:=hzs ▸ Zeb hm0 oz
 rw [← hzl]
 refine Za (xM (h:=xM (h:=Zr (Zfs [0,1] rfl rfl rfl rfl Zr6 rfl (Zkx _ _ _ _ _ _ oz oz oz hdb _ hzz) ?_))))
 rintro _ Bd _ hled ⟨rfl,ysd,ld,rfl,hvd,hpd,hhd,hsd⟩
 refine ZM [_,_] rfl ?_
 have hdl:=hpd.length_eq
 refine Za (xM (h:=Zr (ZeS [0,1] rfl rfl rfl rfl ZrY rfl rfl (Zh6 ZlI Tryz.underlying167) (Zpw _ _ _ _ _ _ (Zaj oz) oz _ hvd) ?_)))
 rintro _ Bo _ hleo ⟨rfl,rfl,rfl,hvo⟩
 refine xA (h:=ZM [_,_] rfl (Zg ?_))
 have hz9:hat ysd (ysd.length - 1)=hat xs 0:=by rw [hsd _ oz,hdl];exact hlz
 exact ZeK .ret (.inl rfl) [_] [0,1] rfl t1 ⟨rfl,by rw [hz9];rfl,_,_,by rw [show (ysd.take (ysd.length - 1)).length=ysd.length - 1 from by simp],hvo,Znl oz (hpd.trans hpz) hz9,Zkw (by rw [hdl];exact hhd) oz⟩

set_option maxHeartbeats 400000 in
theorem Zi0 (q:Option Addr) (cp:Nat) (xs:List DItem) (last:Int) (B:Kn) (ha:SlK B q cp 4 ZB xs):Z3 (pj J) 73 [.slice q xs.length cp,.int .i64 last] B (.bool (asc 0 last (xs.map (·.id)))):=by
 refine Zb 53 Tryz.func73 rfl rfl rfl (Nat.le_of_ble_eq_true rfl) ?_
 have hxn:=ha.len
 refine Za (xA (h:=Za (xBs [] [] Tryz.underlying168 sz3 zo3 (h:=fun b1=>xBx [_] (h:=fun b2=>xA (h:=ZM [_,_] rfl (Zi (Za (xM (h:=xV Tryz.underlying38 (h:=xM (h:=Zn ?_))))))))))))
 refine ZD (α:=Gh Int) [0,1,4,5,14,15] (fun g=>[(16,.int .i64 g.k)]) [0,1] (fun g=>[g.l,ZaJ b2 [.slice g.a g.xs.length g.c] 169]) (fun g Bx=>Bx=B∧g.k≤xs.length∧g.xs.Perm ((xs.take g.k).map (·.id))∧Zb3 g.xs∧Zap Bx g.l g.a g.c 3 1 Zcm g.xs) (fun g=>xs.length - g.k) ⟨0,0,_,_,_,[]⟩ t1 rfl (⟨rfl,Nat.zero_le _,.refl _,ZnI,.lit0⟩) (fun g B3 hle3 hI=>?_)
 obtain ⟨rfl,hk,hp,hh,hv⟩:=hI
 have hpl:=hp.length_eq
 rw [List.length_map,List.length_take] at hpl
 refine ZJ [(0,_),(1,_),(4,_),(5,_),(14,_),(15,_),(16,_)] [_,_] t7 rfl (Za (ZF (h:=Zi (Zc rfl (fun g1=>?_) (fun g1=>?_)))))
 try simp only [sQ,ne_eq] at g1
 refine Zh (Ze (Zi (Zn (Za ?_))))
 obtain ⟨x,hx⟩:=ZU (xs:=xs) (i:=g.k) om
 obtain ⟨bb5,oo5,rfl⟩:=ha.base hx
 obtain ⟨_,⟨qi6,ci6,rfl,hi6,hb6,hb6b⟩,hc6⟩:=ha.elem hx
 have hi6n:=hi6.len
 refine xIx Tryz.underlying38 ZhF (h:=yL [_,_,_,_] ZmS hc6 0 (h:=xAl [_,_,_,_] ZmT (h:=fun b7=>xS [_,_,_,_] 2 [_,_,_,_] ZhF (h:=ZM [_,_,_] rfl (Zo (xM (h:=Zr (ZcI rfl rfl Tryz.underlying167 rfl rfl (xW ZfW (h:=x1 lk3 2 (h:=Zr (ZcI rfl rfl Tryz.underlying3 rfl rfl (Zr (Zfs [1,0] rfl rfl rfl rfl Zsm rfl (Zkv _ _ _ _ _ _ oz hh _ hv) ?_))))))))))))))
 rintro _ Bp _ hlep ⟨rfl,qp,cp,ysp,lp,rfl,hvp,hpp,hhp⟩
 refine ZR (Ze (Zo (xD (h:=xM (h:=?_)))))
 exact ZH ⟨g.k+1,0,lp,_,_,ysp⟩ [0,1] so2 ⟨rfl,so,by simp only [];rw [Zd8 hx,List.map_append];exact hpp.trans (hp.append_right _),hhp,hvp⟩ t7 rfl
 try simp only [sQ,ne_eq] at g1
 have hxe:xs.take g.k=xs:=List.take_of_length_le oz
 rw [hxe] at hp
 refine ZL (ZV (ZO (ZA (Ze (Za (xA (h:=Zi (Za (xM (h:=xV Tryz.underlying38 (h:=xM (h:=Zn (ZD (α:=Gh2 Int Int) [0,1,5,14,15,16,17,27,28] (fun h=>[(8,.int .i64 h.e),(29,.int .i64 h.k)]) [0,1] (fun h=>[h.l,ZaJ b2 [.slice h.a h.xs.length h.c] 169]) (fun h Bx=>Bx=B3∧h.k≤xs.length∧h.xs.Perm ((xs.drop h.k).map (·.id))∧Zb3 h.xs∧asc 0 last (xs.map (·.id))=asc h.e last ((xs.drop h.k).map (·.id))∧Zap Bx h.l h.a h.c 3 1 Zcm h.xs) (fun h=>xs.length - h.k) ⟨0,0,g.l,g.a,g.c,g.xs,0⟩ t2 rfl (⟨rfl,Nat.zero_le _,hp,hh,rfl,hv⟩) (fun h B9 hle9 hI=>?_))))))))))))))
 clear hv hp hpl hh
 obtain ⟨rfl,hk,hp,hh,hs,hv⟩:=hI
 have hpl:=hp.length_eq
 rw [List.length_map,List.length_drop] at hpl
 refine ZJ [(0,_),(1,_),(5,_),(8,_),(14,_),(15,_),(16,_),(17,_),(27,_),(28,_),(29,_)] [_,_] t11 rfl (Za (ZF (h:=Zi (Zc rfl (fun g2=>?_) (fun g2=>?_)))))
 try simp only [sQ,ne_eq] at g2
 refine Zh (Ze (Zi (Zn (Za ?_))))
 obtain ⟨x,hx⟩:=ZU (xs:=xs) (i:=h.k) om
 obtain ⟨bb11,oo11,rfl⟩:=ha.base hx
 obtain ⟨_,⟨qi12,ci12,rfl,hi12,hb12,hb12b⟩,hc12⟩:=ha.elem hx
 have hi12n:=hi12.len
 refine xIx Tryz.underlying38 ZhF (h:=?_)
 rw [Zhh hx,List.map_cons] at hp hs
 refine yL [_,_,_,_] ZmS hc12 0 (h:=xAl [_,_,_,_] ZmT (h:=fun b13=>xS [_,_,_,_] 2 [_,_,_,_] ZhF (h:=ZM [_,_,_] rfl (Za (xM (h:=Zr (ZcI rfl rfl Tryz.underlying167 rfl rfl (Zr (Zfs [1,0] rfl rfl rfl rfl Zsl rfl (Zl2 _ _ _ _ _ oz oz hh _ hv) ?_)))))))))
 rintro _ Bo _ hleo ⟨rfl,rfl,yso,lo,rfl,hvo,hpo,hho⟩
 refine Zr (Zhu rfl rfl Tryz.underlying3 rfl rfl (xA (h:=ZM [_,_,_] rfl (Zi (Za (xM (h:=xW ZfW (h:=x1 lk3 2 (h:=Zax (h:=xM (h:=Zv (d:=41) rfl (fun g3=>?_) (fun g3=>?_))))))))))))
 try simp only [sQ,ne_eq] at g3
 refine xP (h:=xP (h:=xP (h:=xT (h:=xM (h:=xP (h:=xP (h:=xP (h:=xT (h:=Zc (t:=true) rfl (fun _=>Za (xA (h:=Zg (Zm (Zz (Zm (ZG (Zz (Zm ?_))))))))) (fun h=>Bool.noConfusion h))))))))))
 exact Zy .ret (.inl rfl) [_] t1 ⟨Zd (by rw [hs];exact Zn7 hp hh (by simpa using g3)),rfl,rfl⟩
 try simp only [sQ,ne_eq] at g3
 refine xM (h:=xM (h:=Zbx (h:=xF (h:=xM (h:=Zv (d:=46) rfl (fun g4=>?_) (fun g4=>?_))))))
 try simp only [sQ,ne_eq] at g4
 refine xP (h:=xP (h:=xP (h:=xT (h:=Zc (t:=true) rfl (fun _=>Za (xA (h:=Zg (Zm (Zz (Zm (ZG (Zz (Zm ?_))))))))) (fun h=>Bool.noConfusion h)))))
 exact Zy .ret (.inl rfl) [_] t1 ⟨Zd (by rw [hs];exact Zn6 (by rw [← g3];simpa using g4)),rfl,rfl⟩
 try simp only [sQ,ne_eq] at g4
 refine xM (h:=xM (h:=Zdy (h:=xF (h:=Zc rfl (fun g5=>?_) (fun g5=>?_)))))
 try simp only [sQ,ne_eq] at g5
 refine Za (xA (h:=Zg (Zm (Zz (Zm (ZG (Zz (Zm ?_))))))))
 exact Zy .ret (.inl rfl) [_] t1 ⟨Zd (by rw [hs];exact Zn5 (by rw [← g3];simpa using g5)),rfl,rfl⟩
 try simp only [sQ,ne_eq] at g5
 refine Zh (Ze (Zo (xM (h:=xA (h:=ZR (Ze (Zo (xD (h:=xM (h:=?_))))))))))
 exact ZH ⟨h.k+1,0,lo,_,_,yso,hat h.xs 0⟩ [0,1] so2 ⟨rfl,so,List.Perm.cons_inv ((show (x.id :: yso).Perm (hat h.xs 0 :: yso) from by rw [g3]).trans (hpo.trans hp)),hho,by simp only [];rw [hs,g3];exact Zrc (by rw [← g3];simpa using g4) (by rw [← g3];simpa using g5),hvo⟩ t11 rfl
 try simp only [sQ,ne_eq] at g2
 rw [Zmy oz,List.map_nil,asc] at hs
 refine ZL (ZV (ZO (ZA (Ze (Za (xA (h:=Zg ?_)))))))
 exact Zy .ret (.inl rfl) [_] t1 ⟨Zd hs.symm,rfl,rfl⟩

set_option maxHeartbeats 400000 in
theorem ZiX (aq:Option Addr) (cq:Nat) (q:DQueue) (B:Kn) (hq:SlK B aq cq 4 ZB q.items):Z3 (pj J) 43 [.agg #[.int .i64 q.next,.slice aq q.items.length cq]] B (.bool (Zav q)):=by
 refine Zb 42 Tryz.func43 rfl rfl rfl (Nat.le_of_ble_eq_true rfl) ?_
 have hqn:=hq.len
 refine Za (xBx [_,_] (h:=fun b1=>xA (h:=ZM [_] rfl (Zi (Za (xW Zc4 (h:=x1 ZlP 0 (h:=xV Tryz.underlying38 (h:=Zdy (h:=xM (h:=Zv (d:=9) rfl (fun g1=>?_) (fun g1=>?_))))))))))))
 try simp only [sQ,ne_eq] at g1
 refine xP (h:=xP (h:=xP (h:=xT (h:=xM (h:=xP (h:=xP (h:=xP (h:=xT (h:=Zc (t:=true) rfl (fun _=>Za (xA (h:=Zg (Zm ?_)))) (fun h=>Bool.noConfusion h))))))))))
 exact Zy .ret (.inl rfl) [_] t1 ⟨Zd (ZeA oz),rfl,rfl⟩
 try simp only [sQ,ne_eq] at g1
 refine xW ZfX (h:=x1 lk3 0 (h:=ZF (h:=xF (h:=xM (h:=Zv (d:=14) rfl (fun g2=>?_) (fun g2=>?_))))))
 try simp only [sQ,ne_eq] at g2
 refine xP (h:=xP (h:=xP (h:=xT (h:=Zc (t:=true) rfl (fun _=>Za (xA (h:=Zg (Zm ?_)))) (fun h=>Bool.noConfusion h)))))
 exact Zy .ret (.inl rfl) [_] t1 ⟨Zd (ZeA oz),rfl,rfl⟩
 try simp only [sQ,ne_eq] at g2
 refine xW ZfX (h:=x1 lk3 0 (h:=Zdy (h:=xF (h:=Zc rfl (fun g3=>?_) (fun g3=>?_)))))
 try simp only [sQ,ne_eq] at g3
 refine Za (xA (h:=Zg (Zm ?_)))
 exact Zy .ret (.inl rfl) [_] t1 ⟨Zd (ZeA oz),rfl,rfl⟩
 try simp only [sQ,ne_eq] at g3
 refine Zh (Ze (Zi (Za (xW Zc4 (h:=x1 ZlP 0 (h:=xV Tryz.underlying38 (h:=xM (h:=Zn (ZD (α:=Nat) [0,1,18,20,21] (fun k=>[(22,.int .i64 k)]) [] (fun k=>[]) (fun k Bx=>Bx=B∧k≤q.items.length∧(q.items.take k).all Zel=true) (fun k=>q.items.length - k) 0 t1 rfl (⟨rfl,Nat.zero_le _,by simp⟩) (fun k B2 hle2 hI=>?_))))))))))
 obtain ⟨rfl,hk,ha⟩:=hI
 refine ZJ [(0,_),(1,_),(18,_),(20,_),(21,_),(22,_)] [_] t6 rfl (Za (ZF (h:=Zi (Zc rfl (fun g4=>?_) (fun g4=>?_)))))
 try simp only [sQ,ne_eq] at g4
 refine Zh (Ze (Zi (Zn (Za ?_))))
 obtain ⟨x,hx⟩:=ZU (xs:=q.items) (i:=k) om
 obtain ⟨bb4,oo4,rfl⟩:=hq.base hx
 obtain ⟨_,⟨qi5,ci5,rfl,hi5,hb5,hb5b⟩,hc5⟩:=hq.elem hx
 have hi5n:=hi5.len
 refine xIx Tryz.underlying38 ZhF (h:=yL [_,_,_,_] ZmS hc5 0 (h:=xAl [_,_,_,_] ZmT (h:=fun b6=>xS [_,_,_,_] 1 [_,_,_,_] ZhF (h:=ZM [_,_] rfl (Za (xW ZfV (h:=x1 lk9 1 (h:=xW ZfU (h:=x1 ZlO 1 (h:=xW Zh7 (h:=x1 lk9 1 (h:=xB [(0,_),(1,_),(2,_)] [_,_,_] [_,_,_] ZqF Zp8 (h:=?_)))))))))))))
 refine xR Ztv rfl (ZhZ _ _ ⟨x.fr,x.left,x.text⟩ _ hi5 oa oa) (h:=?_)
 refine xN (h:=Zc rfl (fun g5=>?_) (fun g5=>?_))
 try simp only [sQ,ne_eq] at g5
 refine Za (xA (h:=Zg (Zz (Zm (ZG (Zz (Zm ?_)))))))
 exact Zy .ret (.inl rfl) [_] t1 ⟨Zd (ZiL hx g5),rfl,rfl⟩
 try simp only [sQ,ne_eq] at g5
 refine Zh (ZR (Ze (Zo (xD (h:=xM (h:=?_))))))
 exact ZH (k+1) [0] so2 ⟨rfl,oz,Zre hx g5 ha⟩ t6 rfl
 try simp only [sQ,ne_eq] at g4
 refine ZL (ZV (ZO (ZA (Ze (Za (xW Zc4 (h:=x1 ZlP 0 (h:=xW ZfX (h:=x1 lk3 0 (h:=xU (h:=xR Ztu rfl (Zi0 _ _ _ _ _ hq) (h:=xA (h:=Zg ?_)))))))))))))
 exact Zy .ret (.inl rfl) [_] t1 ⟨Zd (ZiK oz ha oz oz oz),rfl,rfl⟩

set_option maxHeartbeats 400000 in
theorem ZlS (n:Int) (B:Kn):Z3 (pj J) 136 [.int .i64 n] B (.bool (decide (0≤n) && decide (n≤31))):=by
 refine Zb 5 Tryz.func136 rfl rfl rfl (Nat.le_of_ble_eq_true rfl) ?_
 refine Za (xA (h:=Za (xM (h:=xR ZnX rfl (Zej _ _ _ _) (h:=xA (h:=Zg ?_))))))
 exact Zy .ret (.inl rfl) [_] t1 ⟨rfl,rfl,rfl⟩

set_option maxHeartbeats 400000 in
theorem ZiY (n:Int) (B:Kn):Z3 (pj J) 150 [.int .i64 n] B (.bool (decide (0≤n) && decide (n≤31))):=by
 refine Zb 9 Tryz.func150 rfl rfl rfl (Nat.le_of_ble_eq_true rfl) ?_
 refine Za (xA (h:=Za (xM (h:=Zdz (h:=xM (h:=Zv (d:=5) rfl (fun g1=>?_) (fun g1=>?_)))))))
 try simp only [sQ,ne_eq] at g1
 refine xM (h:=Zbx (h:=xT (h:=xA (h:=Zg ?_))))
 exact Zy .ret (.inl rfl) [_] t1 ⟨Zd (by rw [Bool.eq_iff_iff];simp [g1];try omega),rfl,rfl⟩
 try simp only [sQ,ne_eq] at g1
 refine xP (h:=xP (h:=xF (h:=xA (h:=Zg ?_))))
 exact Zy .ret (.inl rfl) [_] t1 ⟨Zd (by rw [Bool.eq_iff_iff];simp [g1];try omega),rfl,rfl⟩

set_option maxHeartbeats 400000 in
theorem ZlW (m:DMail) (hm:m.text.length≤2000000) (B:Kn):Z3 (pj J) 97 [.agg #[.int .i64 m.uid,.int .i64 m.flags,str m.text]] B (.bool (ZbJ m)):=by
 refine Zb 17 Tryz.func97 rfl rfl rfl (Nat.le_of_ble_eq_true rfl) ?_
 refine Za (xBx [_,_,_] (h:=fun b1=>xA (h:=ZM [_] rfl (Za (xW Zcg (h:=x1 lk3 0 (h:=xR ZnX rfl (Zej _ _ _ _) (h:=xM (h:=Zv (d:=6) rfl (fun g1=>?_) (fun g1=>?_))))))))))
 try simp only [sQ,ne_eq] at g1
 refine xW ZfZ (h:=x1 lk3 0 (h:=xR Zsb rfl (ZlS _ _) (h:=xT (h:=xM (h:=Zv (d:=11) rfl (fun g2=>?_) (fun g2=>?_))))))
 try simp only [sQ,ne_eq] at g2
 refine xW ZdY (h:=x1 lk9 0 (h:=xVs Tryz.underlying9 (h:=Zbx (h:=xT (h:=xA (h:=Zg ?_))))))
 exact Zy .ret (.inl rfl) [_] t1 ⟨Zd (by rw [Bool.eq_iff_iff];simp [ZbJ,g1,g2];try omega),rfl,rfl⟩
 try simp only [sQ,ne_eq] at g2
 refine xP (h:=xP (h:=xP (h:=xP (h:=xF (h:=xA (h:=Zg ?_))))))
 exact Zy .ret (.inl rfl) [_] t1 ⟨Zd (by rw [Bool.eq_iff_iff];simp [ZbJ,g1,g2];try omega),rfl,rfl⟩
 try simp only [sQ,ne_eq] at g1
 refine xP (h:=xP (h:=xP (h:=xF (h:=xM (h:=xP (h:=xP (h:=xP (h:=xP (h:=xF (h:=xA (h:=Zg ?_)))))))))))
 exact Zy .ret (.inl rfl) [_] t1 ⟨Zd (by rw [Bool.eq_iff_iff];simp [ZbJ,g1];try omega),rfl,rfl⟩

set_option maxHeartbeats 400000 in
theorem Zkr (m:DMail) (hm:m.text.length≤2000000) (B:Kn):Z3 (pj J) 123 [.agg #[.int .i64 m.uid,.int .i64 m.flags,str m.text]] B (.bool (ZbJ m)):=by
 refine Zb 22 Tryz.func123 rfl rfl rfl (Nat.le_of_ble_eq_true rfl) ?_
 refine Za (xBx [_,_,_] (h:=fun b1=>xA (h:=ZM [_] rfl (Za (xW Zcg (h:=x1 lk3 0 (h:=Zdz (h:=xM (h:=Zv (d:=6) rfl (fun g1=>?_) (fun g1=>?_))))))))))
 try simp only [sQ,ne_eq] at g1
 refine xW Zcg (h:=x1 lk3 0 (h:=Zbx (h:=xT (h:=xM (h:=Zv (d:=11) rfl (fun g2=>?_) (fun g2=>?_))))))
 try simp only [sQ,ne_eq] at g2
 refine xW ZfZ (h:=x1 lk3 0 (h:=xR Zr2 rfl (ZiY _ _) (h:=xT (h:=xM (h:=Zv (d:=16) rfl (fun g3=>?_) (fun g3=>?_))))))
 try simp only [sQ,ne_eq] at g3
 refine xW ZdY (h:=x1 lk9 0 (h:=xVs Tryz.underlying9 (h:=Zbx (h:=xT (h:=xA (h:=Zg ?_))))))
 exact Zy .ret (.inl rfl) [_] t1 ⟨Zd (by rw [Bool.eq_iff_iff];simp [ZbJ,g1,g2,g3];try omega),rfl,rfl⟩
 try simp only [sQ,ne_eq] at g3
 refine xP (h:=xP (h:=xP (h:=xP (h:=xF (h:=xA (h:=Zg ?_))))))
 exact Zy .ret (.inl rfl) [_] t1 ⟨Zd (by rw [Bool.eq_iff_iff];simp [ZbJ,g1,g2,g3];try omega),rfl,rfl⟩
 try simp only [sQ,ne_eq] at g2
 refine xP (h:=xP (h:=xP (h:=xF (h:=xM (h:=xP (h:=xP (h:=xP (h:=xP (h:=xF (h:=xA (h:=Zg ?_)))))))))))
 exact Zy .ret (.inl rfl) [_] t1 ⟨Zd (by rw [Bool.eq_iff_iff];simp [ZbJ,g1,g2];try omega),rfl,rfl⟩
 try simp only [sQ,ne_eq] at g1
 refine xP (h:=xP (h:=xP (h:=xF (h:=xM (h:=xP (h:=xP (h:=xP (h:=xF (h:=xM (h:=xP (h:=xP (h:=xP (h:=?_)))))))))))))
 refine xP (h:=xF (h:=xA (h:=Zg ?_)))
 exact Zy .ret (.inl rfl) [_] t1 ⟨Zd (by rw [Bool.eq_iff_iff];simp [ZbJ,g1];try omega),rfl,rfl⟩

set_option maxHeartbeats 400000 in
theorem Zln (q:Option Addr) (cp:Nat) (x:DBox) (B:Kn) (hx:SlK B q cp 3 ZaP x.mail):Z3 (pj J) 62 [.agg #[.int .i64 x.next,.slice q x.mail.length cp]] B (.bool (ZeL x)):=by
 refine Zb 46 Tryz.func62 rfl rfl rfl (Nat.le_of_ble_eq_true rfl) ?_
 have hxn:=hx.len
 refine Za (xBx [_,_] (h:=fun b1=>xA (h:=ZM [_] rfl (Za (xA (h:=Zi (Za (xA (h:=Zn (ZD (α:=Nat × Int) [0,1] (fun g=>[(3,.int .i64 g.2),(4,.int .i64 g.1)]) [] (fun g=>[]) (fun g Bx=>Bx=B∧g.1≤x.mail.length∧ZcV (x.mail.take g.1)=(true,g.2)∧0≤g.2∧g.2≤99) (fun g=>x.mail.length - g.1) (0,0) t2 rfl (⟨rfl,Nat.zero_le _,ZdS,oz,oz⟩) (fun g B2 hle2 hI=>?_)))))))))))
 obtain ⟨rfl,hk,hs,hl0,hl1⟩:=hI
 refine ZJ [(0,_),(1,_),(3,_),(4,_)] [_] t4 rfl (Zi (Za (xM (h:=xW Zcy (h:=x1 ZkN 0 (h:=xV Tryz.underlying88 (h:=ZF (h:=Zc rfl (fun g1=>?_) (fun g1=>?_)))))))))
 try simp only [sQ,ne_eq] at g1
 refine Zh (Ze (Zi (Zn (Zi (Za (xW Zcy (h:=x1 ZkN 0 (h:=xM (h:=?_)))))))))
 obtain ⟨m,hm⟩:=ZU (xs:=x.mail) (i:=g.1) om
 obtain ⟨bb4,oo4,rfl⟩:=hx.base hm
 obtain ⟨_,⟨rfl,hb5⟩,hc5⟩:=hx.elem hm
 refine xIx Tryz.underlying88 Zex (h:=yL [_,_,_] ZhV hc5 0 (h:=xR Ztd rfl (ZlW m om2 _) (h:=?_)))
 refine xN (h:=xM (h:=Zv (d:=19) rfl (fun g2=>?_) (fun g2=>?_)))
 try simp only [sQ,ne_eq] at g2
 refine xP (h:=xP (h:=xP (h:=xP (h:=xP (h:=xP (h:=xP (h:=xP (h:=xT (h:=Zc (t:=true) rfl (fun _=>Za (xA (h:=Zg (Zm (Zz (Zm (ZG (Zz (Zm ?_))))))))) (fun h=>Bool.noConfusion h))))))))))
 exact Zy .ret (.inl rfl) [_] t1 ⟨Zd (Zer (ZdT hm (by rw [show (scn ZdW (fun _ m=>m.uid) 0 (x.mail.take g.1)).2=g.2 from congrArg Prod.snd hs];simp [ZdW,g2]))).symm,rfl,rfl⟩
 try simp only [sQ,ne_eq] at g2
 refine xW Zcy (h:=x1 ZkN 0 (h:=xM (h:=xIx Tryz.underlying88 Zex (h:=xW Zcg (h:=y1 lk3 hc5 0 (h:=xM (h:=Zbx (h:=xF (h:=Zc rfl (fun g3=>?_) (fun g3=>?_))))))))))
 try simp only [sQ,ne_eq] at g3
 refine Za (xA (h:=Zg (Zm (Zz (Zm (ZG (Zz (Zm ?_))))))))
 exact Zy .ret (.inl rfl) [_] t1 ⟨Zd (Zer (ZdT hm (by rw [show (scn ZdW (fun _ m=>m.uid) 0 (x.mail.take g.1)).2=g.2 from congrArg Prod.snd hs];simp [ZdW,g2];omega))).symm,rfl,rfl⟩
 try simp only [sQ,ne_eq] at g3
 refine Zh (Ze (Zo (xW Zcy (h:=x1 ZkN 0 (h:=xM (h:=xIx Tryz.underlying88 Zex (h:=xW Zcg (h:=y1 lk3 hc5 0 (h:=xA (h:=ZR (Ze (Zo (xM (h:=?_))))))))))))))
 refine xD (h:=xA (h:=?_))
 exact ZH (g.1+1,m.uid) [0] so2 ⟨rfl,oz,Zbv hm hs (by simp [ZdW,g2];omega),ZgF g2⟩ t4 rfl
 try simp only [sQ,ne_eq] at g1
 refine ZL (ZV (ZO (ZA (Ze (Za (xW ZgK (h:=x1 lk3 0 (h:=xM (h:=xD (h:=xR ZnX rfl (Zej _ _ _ _) (h:=xM (h:=Zv (d:=40) rfl (fun g4=>?_) (fun g4=>?_)))))))))))))
 try simp only [sQ,ne_eq] at g4
 refine xW Zcy (h:=x1 ZkN 0 (h:=xV Tryz.underlying88 (h:=Zbx (h:=xT (h:=xA (h:=Zg ?_))))))
 exact Zy .ret (.inl rfl) [_] t1 ⟨Zd (by rw [Zeq (ZcQ hs oz),g4,Bool.true_and,Bool.eq_iff_iff];simp;omega),rfl,rfl⟩
 try simp only [sQ,ne_eq] at g4
 refine xP (h:=xP (h:=xP (h:=xP (h:=xF (h:=xA (h:=Zg ?_))))))
 exact Zy .ret (.inl rfl) [_] t1 ⟨Zd (by rw [Zeq (ZcQ hs oz),g4,Bool.false_and]),rfl,rfl⟩

set_option maxHeartbeats 400000 in
theorem Zh1 (q:Option Addr) (cp:Nat) (x:DBox) (B:Kn) (hx:SlK B q cp 3 ZaP x.mail):Z3 (pj J) 81 [.agg #[.int .i64 x.next,.slice q x.mail.length cp]] B (.bool (ZeL x)):=by
 refine Zb 38 Tryz.func81 rfl rfl rfl (Nat.le_of_ble_eq_true rfl) ?_
 have hxn:=hx.len
 refine Za (xBx [_,_] (h:=fun b1=>xA (h:=ZM [_] rfl (Zi (Za (xW Zcy (h:=x1 ZkN 0 (h:=xV Tryz.underlying88 (h:=Zdy (h:=Zc rfl (fun g0=>?_) (fun g0=>?_)))))))))))
 try simp only [sQ,ne_eq] at g0
 refine Za (xA (h:=Zg (Zm ?_)))
 exact Zy .ret (.inl rfl) [_] t1 ⟨Zd (by simp [ZeL];omega),rfl,rfl⟩
 try simp only [sQ,ne_eq] at g0
 refine Zh (Ze (Za (xA (h:=Zi (Za (xW Zcy (h:=x1 ZkN 0 (h:=xV Tryz.underlying88 (h:=xM (h:=Zn (ZD (α:=Nat × Int) [0,1,9,11,12] (fun g=>[(3,.int .i64 g.2),(13,.int .i64 g.1)]) [] (fun g=>[]) (fun g Bx=>Bx=B∧g.1≤x.mail.length∧ZcV (x.mail.take g.1)=(true,g.2)∧0≤g.2∧g.2≤99) (fun g=>x.mail.length - g.1) (0,0) t2 rfl (⟨rfl,Nat.zero_le _,ZdS,oz,oz⟩) (fun g B2 hle2 hI=>?_))))))))))))
 obtain ⟨rfl,hk,hs,hl0,hl1⟩:=hI
 refine ZJ [(0,_),(1,_),(3,_),(9,_),(11,_),(12,_),(13,_)] [_] t7 rfl (Za (ZF (h:=Zi (Zc rfl (fun g1=>?_) (fun g1=>?_)))))
 try simp only [sQ,ne_eq] at g1
 refine Zh (Ze (Zi (Zn (Za ?_))))
 obtain ⟨m,hm⟩:=ZU (xs:=x.mail) (i:=g.1) om
 obtain ⟨bb4,oo4,rfl⟩:=hx.base hm
 obtain ⟨_,⟨rfl,hb5⟩,hc5⟩:=hx.elem hm
 refine xIx Tryz.underlying88 Zex (h:=yL [_,_,_] ZhV hc5 0 (h:=xAl [_,_,_] ZkQ (h:=fun b6=>xS [_,_,_] 1 [_,_,_] Zex (h:=ZM [_,_] rfl (Zi (Za (xL [_,_,_] ZhV 1 (h:=xR Zsj rfl (Zkr m om2 _) (h:=?_)))))))))
 refine xN (h:=xM (h:=Zv (d:=20) rfl (fun g2=>?_) (fun g2=>?_)))
 try simp only [sQ,ne_eq] at g2
 refine xP (h:=xP (h:=xP (h:=xP (h:=xT (h:=Zc (t:=true) rfl (fun _=>Za (xA (h:=Zg (Zm (Zz (Zm (ZG (Zz (Zm ?_))))))))) (fun h=>Bool.noConfusion h))))))
 exact Zy .ret (.inl rfl) [_] t1 ⟨Zd (Zer (ZdT hm (by rw [show (scn ZdW (fun _ m=>m.uid) 0 (x.mail.take g.1)).2=g.2 from congrArg Prod.snd hs];simp [ZdW,g2]))).symm,rfl,rfl⟩
 try simp only [sQ,ne_eq] at g2
 refine xW Zcg (h:=x1 lk3 1 (h:=xM (h:=Zbx (h:=xF (h:=Zc rfl (fun g3=>?_) (fun g3=>?_))))))
 try simp only [sQ,ne_eq] at g3
 refine Za (xA (h:=Zg (Zm (Zz (Zm (ZG (Zz (Zm ?_))))))))
 exact Zy .ret (.inl rfl) [_] t1 ⟨Zd (Zer (ZdT hm (by rw [show (scn ZdW (fun _ m=>m.uid) 0 (x.mail.take g.1)).2=g.2 from congrArg Prod.snd hs];simp [ZdW,g2];omega))).symm,rfl,rfl⟩
 try simp only [sQ,ne_eq] at g3
 refine Zh (Ze (Zo (xW Zcg (h:=x1 lk3 1 (h:=xA (h:=ZR (Ze (Zo (xD (h:=xM (h:=?_)))))))))))
 exact ZH (g.1+1,m.uid) [0] so2 ⟨rfl,oz,Zbv hm hs (by simp [ZdW,g2];omega),ZgF g2⟩ t7 rfl
 try simp only [sQ,ne_eq] at g1
 refine ZL (ZV (ZO (ZA (Ze (Za (xW ZgK (h:=x1 lk3 0 (h:=xM (h:=Zdy (h:=xM (h:=Zv (d:=33) rfl (fun g4=>?_) (fun g4=>?_))))))))))))
 try simp only [sQ,ne_eq] at g4
 refine xW ZgK (h:=x1 lk3 0 (h:=Zbx (h:=xT (h:=xA (h:=Zg ?_)))))
 exact Zy .ret (.inl rfl) [_] t1 ⟨Zd (by rw [Zeq (ZcQ hs oz),Bool.eq_iff_iff];simp;omega),rfl,rfl⟩
 try simp only [sQ,ne_eq] at g4
 refine xP (h:=xP (h:=xP (h:=xF (h:=xA (h:=Zg ?_)))))
 exact Zy .ret (.inl rfl) [_] t1 ⟨Zd (by rw [Zeq (ZcQ hs oz),Bool.eq_iff_iff];simp;omega),rfl,rfl⟩

set_option maxHeartbeats 400000 in
theorem ZlV (q:Option Addr) (cp:Nat) (x:DBox) (B:Kn) (hx:SlK B q cp 3 ZaP x.mail):Z3 (pj J) 64 [.agg #[.int .i64 x.next,.slice q x.mail.length cp]] B (.int .i64 (ZaY x.mail)):=by
 refine Zb 22 Tryz.func64 rfl rfl rfl (Nat.le_of_ble_eq_true rfl) ?_
 have hxn:=hx.len
 refine Za (xBx [_,_] (h:=fun b1=>xA (h:=ZM [_] rfl (Za (xA (h:=Zi (Za (xA (h:=Zn (ZD (α:=Nat × Nat) [0,1,2] (fun g=>[(3,.int .i64 g.2),(4,.int .i64 g.1)]) [] (fun g=>[]) (fun g Bx=>Bx=B∧g.1≤x.mail.length∧g.2=ZaY (x.mail.take g.1)∧g.2≤g.1*2000000) (fun g=>x.mail.length - g.1) (0,0) t2 rfl (⟨rfl,Nat.zero_le _,by simp [ZaY],oz⟩) (fun g B2 hle2 hI=>?_)))))))))))
 obtain ⟨rfl,hk,hs,hl⟩:=hI
 refine ZJ [(0,_),(1,_),(2,_),(3,_),(4,_)] [_] t5 rfl (Zi (Za (xM (h:=xW Zcy (h:=x1 ZkN 0 (h:=xV Tryz.underlying88 (h:=ZF (h:=Zc rfl (fun g1=>?_) (fun g1=>?_)))))))))
 try simp only [sQ,ne_eq] at g1
 refine Zh (Ze (Zi (Zn (Zo (xM (h:=xW Zcy (h:=x1 ZkN 0 (h:=xM (h:=?_)))))))))
 obtain ⟨m,hm⟩:=ZU (xs:=x.mail) (i:=g.1) om
 obtain ⟨bb4,oo4,rfl⟩:=hx.base hm
 obtain ⟨_,⟨rfl,hb5⟩,hc5⟩:=hx.elem hm
 refine xIx Tryz.underlying88 Zex (h:=xW ZdY (h:=y1 lk9 hc5 2 (h:=xVs Tryz.underlying9 (h:=xD (h:=xA (h:=ZR (Ze (Zo (xM (h:=xD (h:=xA (h:=?_))))))))))))
 exact ZH (g.1+1,g.2+m.text.length) [0] so2 ⟨rfl,oz,by rw [Zfy hm,← hs],oz⟩ t5 rfl
 try simp only [sQ,ne_eq] at g1
 refine ZL (ZV (ZO (ZA (Ze (Za (xM (h:=xA (h:=Zg ?_))))))))
 exact Zy .ret (.inl rfl) [_] t1 ⟨ZC (by rw [← Zgz hs oz]),rfl,rfl⟩

set_option maxHeartbeats 400000 in
theorem ZmG (q:Option Addr) (cp:Nat) (x:DBox) (B:Kn) (hx:SlK B q cp 3 ZaP x.mail):Z3 (pj J) 152 [.agg #[.int .i64 x.next,.slice q x.mail.length cp]] B (.int .i64 (Zci x)):=by
 refine Zb 23 Tryz.func152 rfl rfl rfl (Nat.le_of_ble_eq_true rfl) ?_
 have hxn:=hx.len
 refine Za (xBx [_,_] (h:=fun b1=>xA (h:=ZM [_] rfl (Zi (Za (xL [_,_] ZnA 0 (h:=xR ZsL rfl (Zh1 _ _ (⟨x.next,x.mail⟩:DBox) _ hx) (h:=xN (h:=Zc rfl (fun g0=>?_) (fun g0=>?_))))))))))
 try simp only [sQ,ne_eq] at g0
 refine Za (xA (h:=Zg (Zm ?_)))
 exact Zy .ret (.inl rfl) [_] t1 ⟨ZC (by simp [Zci,g0]),rfl,rfl⟩
 try simp only [sQ,ne_eq] at g0
 refine Zh (Ze (Za (xA (h:=Zi (Za (xW Zcy (h:=x1 ZkN 0 (h:=xV Tryz.underlying88 (h:=xM (h:=Zn (ZD (α:=Nat × Nat) [0,1,2,8,10,11] (fun g=>[(3,.int .i64 g.2),(12,.int .i64 g.1)]) [] (fun g=>[]) (fun g Bx=>Bx=B∧g.1≤x.mail.length∧g.2=ZaY (x.mail.take g.1)∧g.2≤g.1*2000000) (fun g=>x.mail.length - g.1) (0,0) t2 rfl (⟨rfl,Nat.zero_le _,by simp [ZaY],oz⟩) (fun g B3 hle3 hI=>?_))))))))))))
 obtain ⟨rfl,hk,hs,hl⟩:=hI
 refine ZJ [(0,_),(1,_),(2,_),(3,_),(8,_),(10,_),(11,_),(12,_)] [_] t8 rfl (Za (ZF (h:=Zi (Zc rfl (fun g1=>?_) (fun g1=>?_)))))
 try simp only [sQ,ne_eq] at g1
 refine Zh (Ze (Zi (Zn (Za ?_))))
 obtain ⟨m,hm⟩:=ZU (xs:=x.mail) (i:=g.1) om
 obtain ⟨bb5,oo5,rfl⟩:=hx.base hm
 obtain ⟨_,⟨rfl,hb6⟩,hc6⟩:=hx.elem hm
 refine xIx Tryz.underlying88 Zex (h:=yL [_,_,_] ZhV hc6 0 (h:=xAl [_,_,_] ZkQ (h:=fun b7=>xS [_,_,_] 1 [_,_,_] Zex (h:=ZM [_,_] rfl (Zo (xM (h:=xW ZdY (h:=x1 lk9 1 (h:=xVs Tryz.underlying9 (h:=xD (h:=xA (h:=ZR (Ze ?_)))))))))))))
 refine Zo (xD (h:=xM (h:=?_)))
 exact ZH (g.1+1,g.2+m.text.length) [0] so2 ⟨rfl,oz,by rw [Zfy hm,← hs],oz⟩ t8 rfl
 try simp only [sQ,ne_eq] at g1
 refine ZL (ZV (ZO (ZA (Ze (Za (xM (h:=xA (h:=Zg ?_))))))))
 exact Zy .ret (.inl rfl) [_] t1 ⟨ZC (by rw [Zci,if_pos g0,← Zgz hs oz]),rfl,rfl⟩

set_option maxHeartbeats 400000 in
theorem Zng (n:Int) (B:Kn):Z3 (pj J) 149 [.int .i64 n] B (.bool (decide (0≤n) && decide (n≤63))):=by
 refine Zb 9 Tryz.func149 rfl rfl rfl (Nat.le_of_ble_eq_true rfl) ?_
 refine Za (xA (h:=Za (xM (h:=Zdz (h:=xM (h:=Zv (d:=5) rfl (fun g1=>?_) (fun g1=>?_)))))))
 try simp only [sQ,ne_eq] at g1
 refine xM (h:=Zbx (h:=xT (h:=xA (h:=Zg ?_))))
 exact Zy .ret (.inl rfl) [_] t1 ⟨Zd (by rw [Bool.eq_iff_iff];simp [g1];try omega),rfl,rfl⟩
 try simp only [sQ,ne_eq] at g1
 refine xP (h:=xP (h:=xF (h:=xA (h:=Zg ?_))))
 exact Zy .ret (.inl rfl) [_] t1 ⟨Zd (by rw [Bool.eq_iff_iff];simp [g1];try omega),rfl,rfl⟩

set_option maxHeartbeats 400000 in
theorem Ziv (u:DUser) (h1:u.name.length≤2000000) (h2:u.pass.length≤2000000) (B:Kn):Z3 (pj J) 71 [.agg #[str u.name,str u.pass,.int .i64 u.quota]] B (.bool (ZbI u)):=by
 refine Zb 26 Tryz.func71 rfl rfl rfl (Nat.le_of_ble_eq_true rfl) ?_
 refine Za (xBx [_,_,_] (h:=fun b1=>xA (h:=ZM [_] rfl (Za (xW ZbC (h:=x1 lk9 0 (h:=xR ZoM rfl (Za9 _ om2 _) (h:=?_))))))))
 refine xM (h:=Zv (d:=6) rfl (fun g1=>?_) (fun g1=>?_))
 try simp only [sQ,ne_eq] at g1
 refine xW ZbC (h:=x1 lk9 0 (h:=Zcn (h:=xT (h:=xM (h:=Zv (d:=11) rfl (fun g2=>?_) (fun g2=>?_))))))
 try simp only [sQ,ne_eq] at g2
 refine xW Zh8 (h:=x1 lk9 0 (h:=xR ZoM rfl (Za9 _ om2 _) (h:=?_)))
 refine xT (h:=xM (h:=Zv (d:=16) rfl (fun g3=>?_) (fun g3=>?_)))
 try simp only [sQ,ne_eq] at g3
 refine xW Ze4 (h:=x1 lk3 0 (h:=Zdz (h:=xT (h:=xM (h:=Zv (d:=21) rfl (fun g4=>?_) (fun g4=>?_))))))
 try simp only [sQ,ne_eq] at g4
 refine xW Ze4 (h:=x1 lk3 0 (h:=Zbx (h:=xT (h:=xA (h:=Zg ?_)))))
 exact Zy .ret (.inl rfl) [_] t1 ⟨Zd (by rw [Bool.eq_iff_iff];simp [ZbI,anyone,g1,g2,g3,g4];try omega),rfl,rfl⟩
 try simp only [sQ,ne_eq] at g4
 refine xP (h:=xP (h:=xP (h:=xF (h:=xA (h:=Zg ?_)))))
 exact Zy .ret (.inl rfl) [_] t1 ⟨Zd (by rw [Bool.eq_iff_iff];simp [ZbI,anyone,g1,g2,g3,g4];try omega),rfl,rfl⟩
 try simp only [sQ,ne_eq] at g3
 refine xP (h:=xP (h:=xP (h:=xF (h:=xM (h:=xP (h:=xP (h:=xP (h:=xF (h:=xA (h:=Zg ?_))))))))))
 exact Zy .ret (.inl rfl) [_] t1 ⟨Zd (by rw [Bool.eq_iff_iff];simp [ZbI,anyone,g1,g2,g3];try omega),rfl,rfl⟩
 try simp only [sQ,ne_eq] at g2
 refine xP (h:=xP (h:=xP (h:=xF (h:=xM (h:=xP (h:=xP (h:=xP (h:=xF (h:=xM (h:=xP (h:=xP (h:=xP (h:=?_)))))))))))))
 refine xF (h:=xA (h:=Zg ?_))
 exact Zy .ret (.inl rfl) [_] t1 ⟨Zd (by rw [Bool.eq_iff_iff];simp [ZbI,anyone,g1,g2];try omega),rfl,rfl⟩
 try simp only [sQ,ne_eq] at g1
 refine xP (h:=xP (h:=xP (h:=xF (h:=xM (h:=xP (h:=xP (h:=xP (h:=xF (h:=xM (h:=xP (h:=xP (h:=xP (h:=?_)))))))))))))
 refine xF (h:=xM (h:=xP (h:=xP (h:=xP (h:=xF (h:=xA (h:=Zg ?_)))))))
 exact Zy .ret (.inl rfl) [_] t1 ⟨Zd (by rw [Bool.eq_iff_iff];simp [ZbI,anyone,g1];try omega),rfl,rfl⟩

set_option maxHeartbeats 400000 in
theorem ZfK (q:Option Addr) (cp:Nat) (us:List DUser) (B:Kn) (hu:SlK B q cp 3 Zs us):Z3 (pj J) 42 [.slice q us.length cp] B (.bool (Zaa us)):=by
 refine Zb 32 Tryz.func42 rfl rfl rfl (Nat.le_of_ble_eq_true rfl) ?_
 have hun:=hu.len
 refine Za (xA (h:=Zi (Za (xM (h:=xV Tryz.underlying36 (h:=ZF (h:=xM (h:=Zv (d:=9) rfl (fun g0=>?_) (fun g0=>?_)))))))))
 try simp only [sQ,ne_eq] at g0
 refine xP (h:=xP (h:=xP (h:=xT (h:=Zc (t:=true) rfl (fun _=>Za (xA (h:=Zg (Zm ?_)))) (fun h=>Bool.noConfusion h)))))
 exact Zy .ret (.inl rfl) [_] t1 ⟨Zd (by rw [Bool.eq_iff_iff];simp [Zaa];omega),rfl,rfl⟩
 try simp only [sQ,ne_eq] at g0
 refine xM (h:=xV Tryz.underlying36 (h:=Zdy (h:=xF (h:=Zc rfl (fun g0b=>?_) (fun g0b=>?_)))))
 try simp only [sQ,ne_eq] at g0b
 refine Za (xA (h:=Zg (Zm ?_)))
 exact Zy .ret (.inl rfl) [_] t1 ⟨Zd (by rw [Bool.eq_iff_iff];simp [Zaa];omega),rfl,rfl⟩
 try simp only [sQ,ne_eq] at g0b
 refine Zh (Ze (Za (xA (h:=Zi (Za (xM (h:=xV Tryz.underlying36 (h:=xM (h:=Zn (ZD (α:=Nat × Str) [0,13,14,15] (fun g=>[(3,str g.2),(16,.int .i64 g.1)]) [] (fun g=>[]) (fun g Bx=>Bx=B∧g.1≤us.length∧ZcK (us.take g.1)=(true,g.2)∧g.2.length≤2000000) (fun g=>us.length - g.1) (0,[]) t2 rfl (⟨rfl,Nat.zero_le _,ZdS,by simp⟩) (fun g B1 hle1 hI=>?_)))))))))))
 obtain ⟨rfl,hk,hs,hl⟩:=hI
 refine ZJ [(0,_),(3,_),(13,_),(14,_),(15,_),(16,_)] [] t6 rfl (Za (ZF (h:=Zi (Zc rfl (fun g1=>?_) (fun g1=>?_)))))
 try simp only [sQ,ne_eq] at g1
 refine Zh (Ze (Zi (Zn (Za ?_))))
 obtain ⟨m,hm⟩:=ZU (xs:=us) (i:=g.1) om
 obtain ⟨bb3,oo3,rfl⟩:=hu.base hm
 obtain ⟨_,⟨rfl,hb4,hb4b⟩,hc4⟩:=hu.elem hm
 refine xIx Tryz.underlying36 Zfc (h:=yL [_,_,_] Zio hc4 0 (h:=xAl [_,_,_] ZjY (h:=fun b5=>xS [_,_,_] 0 [_,_,_] Zfc (h:=ZM [_] rfl (Zi (Za (xL [_,_,_] Zio 0 (h:=xR Ztw rfl (Ziv m om2 om2 _) (h:=?_)))))))))
 refine xN (h:=xM (h:=Zv (d:=23) rfl (fun g2=>?_) (fun g2=>?_)))
 try simp only [sQ,ne_eq] at g2
 refine xP (h:=xP (h:=xP (h:=xP (h:=xT (h:=Zc (t:=true) rfl (fun _=>Za (xA (h:=Zg (Zm (Zz (Zm (ZG (Zz (Zm ?_))))))))) (fun h=>Bool.noConfusion h))))))
 exact Zy .ret (.inl rfl) [_] t1 ⟨Zd (ZdM (ZdT hm (by rw [show (scn Zc6 (fun _ u=>u.name) [] (us.take g.1)).2=g.2 from congrArg Prod.snd hs];simp [Zc6,g2]))).symm,rfl,rfl⟩
 try simp only [sQ,ne_eq] at g2
 refine xW ZbC (h:=x1 lk9 0 (h:=xM (h:=Zr (Zop rfl rfl rfl rfl (xF (h:=Zc rfl (fun g3=>?_) (fun g3=>?_)))))))
 try simp only [sQ,ne_eq] at g3
 refine Za (xA (h:=Zg (Zm (Zz (Zm (ZG (Zz (Zm ?_))))))))
 exact Zy .ret (.inl rfl) [_] t1 ⟨Zd (ZdM (ZdT hm (by rw [show (scn Zc6 (fun _ u=>u.name) [] (us.take g.1)).2=g.2 from congrArg Prod.snd hs,Zc6,ZaS g.2 m.name,g3];simp))).symm,rfl,rfl⟩
 try simp only [sQ,ne_eq] at g3
 refine Zh (Ze (Zo (xW ZbC (h:=x1 lk9 0 (h:=xA (h:=ZR (Ze (Zo (xD (h:=xM (h:=?_)))))))))))
 exact ZH (g.1+1,m.name) [] so2 ⟨rfl,oz,Zbv hm hs (by rw [Zc6,ZaS g.2 m.name,g2,g3];rfl),oy⟩ t6 rfl
 try simp only [sQ,ne_eq] at g1
 refine ZL (ZV (ZO (ZA (Ze (Za (xA (h:=Zg ?_)))))))
 exact Zy .ret (.inl rfl) [_] t1 ⟨Zd (by rw [Zfu (ZcQ hs oz),Bool.eq_iff_iff];simp;omega),rfl,rfl⟩

set_option maxHeartbeats 400000 in
theorem Zhx (x:DUser) (u:Str) (b:Nat) (h1:x.name.length≤2000000) (h2:u.length≤2000000) (B:Kn) (hb:Zak B b 0 [str u]):Z3 (pj J) 148 [.agg #[str x.name,str x.pass,.int .i64 x.quota],ptr ⟨b,0,none⟩] B (.bool (decide (x.name=u))):=by
 refine Zb 8 Tryz.func148 rfl rfl rfl (Nat.le_of_ble_eq_true rfl) ?_
 refine Za (xBx [_,_,_] (h:=fun b1=>xA (h:=ZM [_] rfl (Za (xW ZbC (h:=x1 lk9 0 (h:=Zr (Zu rfl rfl lk9 rfl (hb _ 0 _ rfl) (Zco (h:=xA (h:=Zg ?_)))))))))))
 exact Zy .ret (.inl rfl) [_] t1 ⟨rfl,rfl,rfl⟩

set_option maxHeartbeats 400000 in
theorem Zml (q:Option Addr) (cp:Nat) (us:List DUser) (F:FuncId) (cap:Array Value) (t:DUser→Bool) (B:Kn) (hu:SlK B q cp 3 Zs us) (he:enters (pj J) F=true) (hF :∀x:DUser,x.name.length≤2000000→x.pass.length≤2000000→Z3 (pj J) F ([.agg #[str x.name,str x.pass,.int .i64 x.quota]] ++ cap.toList) B (.bool (t x))):Z3 (pj J) 147 [.slice q us.length cp,.func (.func F) #[] cap] B (.tuple #[.agg #[str (Ze9 t us).1.name,str (Ze9 t us).1.pass,.int .i64 (Ze9 t us).1.quota],.bool (Ze9 t us).2]):=by
 refine Zb 21 Tryz.func147 rfl rfl rfl (Nat.le_of_ble_eq_true rfl) ?_
 have hun:=hu.len
 refine Za (xAl [_,_,_] ZjY (h:=fun b1=>xA (h:=ZM [_] rfl (Zi (Za (xM (h:=xV Tryz.underlying36 (h:=xM (h:=Zn (ZD (α:=Nat) [0,1,4,9,10] (fun k=>[(11,.int .i64 k)]) [] (fun k=>[]) (fun k Bx=>Bx=B∧k≤us.length∧∀y,y∈us.take k→t y=false) (fun k=>us.length - k) 0 t1 rfl (⟨rfl,Nat.zero_le _,by simp⟩) (fun k B2 hle2 hI=>?_)))))))))))
 obtain ⟨rfl,hk,ha⟩:=hI
 refine ZJ [(0,_),(1,_),(4,_),(9,_),(10,_),(11,_)] [_] t6 rfl (Za (ZF (h:=Zi (Zc rfl (fun g1=>?_) (fun g1=>?_)))))
 try simp only [sQ,ne_eq] at g1
 refine Zh (Ze (Zi (Zn (Za ?_))))
 obtain ⟨m,hm⟩:=ZU (xs:=us) (i:=k) om
 obtain ⟨bb4,oo4,rfl⟩:=hu.base hm
 obtain ⟨_,⟨rfl,hb5,hb5b⟩,hc5⟩:=hu.elem hm
 refine xIx Tryz.underlying36 Zfc (h:=yL [_,_,_] Zio hc5 0 (h:=xAl [_,_,_] ZjY (h:=fun b6=>xS [_,_,_] 1 [_,_,_] Zfc (h:=ZM [_,_] rfl (Za (xM (h:=xL [_,_,_] Zio 1 (h:=Zr (Zok rfl rfl he rfl rfl (hF m om2 om2) ?_)))))))))
 refine Zc rfl (fun g2=>?_) (fun g2=>?_)
 try simp only [sQ,ne_eq] at g2
 refine Za (xL [_,_,_] Zio 1 (h:=xS [_,_,_] 0 [_,_,_] Zfc (h:=xA (h:=ZM [_,_] rfl (Zg (Zz (Zm (ZG (Zz (Zm ?_))))))))))
 exact Zy .ret (.inl rfl) [_,_] ⟨⟨_,rfl,.inr ⟨[_,_,_],Zio,Zby 0 rfl rfl rfl,rfl⟩⟩,rfl,trivial⟩ ⟨by rw [Zmk hm g2 ha];rfl,rfl,rfl⟩
 try simp only [sQ,ne_eq] at g2
 refine Zh (ZR (Ze (Zo (xD (h:=xM (h:=?_))))))
 exact ZH (k+1) [0] so2 ⟨rfl,oz,ZaI hm ha g2⟩ t6 rfl
 try simp only [sQ,ne_eq] at g1
 refine ZL (ZV (ZO (ZA (Ze (Za (xAl [_,_,_] ZjY (h:=fun b8=>ZM [_,_] rfl (Za (xL [_,_,_] Zio 1 (h:=xS [_,_,_] 0 [_,_,_] Zfc (h:=xA (h:=ZM [_,_] rfl (Zg ?_)))))))))))))
 exact Zy .ret (.inl rfl) [_,_] ⟨⟨_,rfl,.inr ⟨[_,_,_],Zio,Zby 0 rfl rfl rfl,rfl⟩⟩,rfl,trivial⟩ ⟨by rw [ZkA (ZaR oz ha)];rfl,rfl,rfl⟩

set_option maxHeartbeats 400000 in
theorem Zfw (q:Option Addr) (cp:Nat) (us:List DUser) (nm:Str) (hn:nm.length≤2000000) (B:Kn) (hu:SlK B q cp 3 Zs us):Z3 (pj J) 121 [.slice q us.length cp,str nm] B (.tuple #[.agg #[str (Zae us nm).1.name,str (Zae us nm).1.pass,.int .i64 (Zae us nm).1.quota],.bool (Zae us nm).2]):=by
 refine Zb 15 Tryz.func121 rfl rfl rfl (Nat.le_of_ble_eq_true rfl) ?_
 have hun:=hu.len
 refine Za (xBx [_] (h:=fun b1=>xAl [_,_,_] ZjY (h:=fun b2=>xA (h:=ZM [_,_] rfl (Zi (Za (xM (h:=xR ZsP rfl (ZfK _ _ _ _ hu) (h:=xN (h:=Zc rfl (fun g0=>?_) (fun g0=>?_)))))))))))
 try simp only [sQ,ne_eq] at g0
 refine Za (xB [] [_,_,_] [_,_,_] Zs1 ZjY (h:=xS [_,_,_] 1 [_,_,_] Zfc (h:=xA (h:=ZM [_,_] rfl (Zg (Zm ?_))))))
 exact Zy .ret (.inl rfl) [_,_] ⟨⟨_,rfl,.inr ⟨[_,_,_],Zio,Zby 1 rfl rfl rfl,rfl⟩⟩,rfl,trivial⟩ ⟨by rw [Zae,g0];rfl,rfl,rfl⟩
 try simp only [sQ,ne_eq] at g0
 refine Zh (Ze (Za (xM (h:=Zr (Zet (xs:=[]) (ys:=[_]) rfl rfl rfl rfl (Zr (Zhr 0 rfl rfl rfl Zr5 rfl (Z3.borrow fun hm=>Zml _ _ us 148 _ (fun y=>decide (y.name=nm)) _ (hu.mono Zs.mono (Kn.le_add _ _)) Zr4 (fun y h1 h2=>Zhx y nm _ h1 hn _ (ZgZ hm))) (xE (h:=xE (h:=xS [_,_,_] 1 [_,_,_] Zfc (h:=xA (h:=ZM [_,_] rfl (Zg ?_)))))))))))))
 exact Zy .ret (.inl rfl) [_,_] ⟨⟨_,rfl,.inr ⟨[_,_,_],Zio,Zby 1 rfl rfl rfl,rfl⟩⟩,rfl,trivial⟩ ⟨by rw [Zae,if_pos g0];rfl,rfl,rfl⟩

set_option maxHeartbeats 400000 in
theorem Zfi (b o:Nat) (q1 q2 q3:Option Addr) (c1 c2 c3:Nat) (x:DHost) (nm:Str) (hn:nm.length≤2000000) (B:Kn) (hh:Zak B b o [str x.domain,.slice q1 x.users.length c1,.slice q2 x.folders.length c2,.int .i64 x.queue.next,.slice q3 x.queue.items.length c3]) (hu:SlK B q1 c1 3 Zs x.users):Z3 (pj J) 78 [ptr ⟨b,o,none⟩,str nm] B (.bool (Zae x.users nm).2):=by
 refine Zb 17 Tryz.func78 rfl rfl rfl (Nat.le_of_ble_eq_true rfl) ?_
 refine Za (xA (h:=Za (xM (h:=xNc (h:=xW ZbK (h:=Zr (Zu rfl rfl ZiS rfl (hh _ 1 _ rfl) (xM (h:=xR Zq5 rfl (Zfw _ _ _ nm om2 _ hu) (h:=?_))))))))))
 refine xM (h:=xE (h:=xE (h:=xAl [_,_,_] ZjY (h:=fun b2=>xS [_,_,_] 0 [_,_,_] Zfc (h:=xA (h:=ZM [_] rfl (Za (xM (h:=xA (h:=Zg ?_))))))))))
 exact Zy .ret (.inl rfl) [_] t1 ⟨rfl,rfl,rfl⟩

set_option maxHeartbeats 400000 in
theorem ZhX (q1 q2 q3:Option Addr) (c1 c2 c3:Nat) (x:DHost) (ow nm:Str) (ho:ow.length≤2000000) (hn:nm.length≤2000000) (B:Kn) (hf:SlK B q2 c2 5 Zj x.folders):Z3 (pj J) 17 [.agg #[str x.domain,.slice q1 x.users.length c1,.slice q2 x.folders.length c2,.int .i64 x.queue.next,.slice q3 x.queue.items.length c3],str ow,str nm] B (.int .i64 (Zcl (inF ow nm) x.folders)):=by
 refine Zb 34 Tryz.func17 rfl rfl rfl (Nat.le_of_ble_eq_true rfl) ?_
 have hfn:=hf.len
 refine Za (xBx [_,_,_,_,_] (h:=fun b1=>xA (h:=ZM [_] rfl (Zi (Za (xA (h:=Zn (ZD (α:=Nat) [0,1,2,3] (fun k=>[(7,.int .i64 k)]) [] (fun k=>[]) (fun k Bx=>Bx=B∧k≤x.folders.length∧∀y,y∈x.folders.take k→inF ow nm y=false) (fun k=>x.folders.length - k) 0 t1 rfl (⟨rfl,Nat.zero_le _,by simp⟩) (fun k B2 hle2 hI=>?_)))))))))
 obtain ⟨rfl,hk,ha⟩:=hI
 refine ZJ [(0,_),(1,_),(2,_),(3,_),(7,_)] [_] t5 rfl (Zi (Za (xM (h:=xW ZaA (h:=x1 Zfh 0 (h:=xV Tryz.underlying37 (h:=ZF (h:=Zc rfl (fun g1=>?_) (fun g1=>?_)))))))))
 try simp only [sQ,ne_eq] at g1
 refine Zh (Ze (Zi (Zn (Za (xW ZaA (h:=x1 Zfh 0 (h:=xM (h:=?_))))))))
 obtain ⟨y,hy⟩:=ZU (xs:=x.folders) (i:=k) om
 obtain ⟨bb4,oo4,rfl⟩:=hf.base hy
 obtain ⟨_,⟨qg5,cg5,qm5,cm5,rfl,hg5,hm5,hb5,hb5b⟩,hc5⟩:=hf.elem hy
 have hg5n:=hg5.len
 have hm5n:=hm5.len
 have hm5s:=Zam hm5
 refine xIx Tryz.underlying37 ZeU (h:=xW ZbB (h:=y1 lk9 hc5 0 (h:=xM (h:=Zco (h:=xM (h:=Zv (d:=23) rfl (fun g2=>?_) (fun g2=>?_)))))))
 try simp only [sQ,ne_eq] at g2
 refine xW ZaA (h:=x1 Zfh 0 (h:=xM (h:=xIx Tryz.underlying37 ZeU (h:=xW Zdh (h:=y1 lk9 hc5 1 (h:=xM (h:=Zco (h:=xT (h:=Zc rfl (fun g3=>?_) (fun g3=>?_))))))))))
 try simp only [sQ,ne_eq] at g3
 refine Za (xM (h:=xA (h:=Zg (Zz (Zm (ZG (Zz (Zm ?_))))))))
 exact Zy .ret (.inl rfl) [_] t1 ⟨ZC (Zfk hy (by simp [inF,g2,g3]) ha).symm,rfl,rfl⟩
 try simp only [sQ,ne_eq] at g3
 refine Zh (ZR (Ze (Zo (xM (h:=xD (h:=xA (h:=?_)))))))
 exact ZH (k+1) [0] so2 ⟨rfl,oz,ZaI hy ha (by simp [inF,g2,g3])⟩ t5 rfl
 try simp only [sQ,ne_eq] at g2
 refine xP (h:=xP (h:=xP (h:=xP (h:=xP (h:=xP (h:=xP (h:=xP (h:=xF (h:=Zc (t:=false) rfl (fun h=>Bool.noConfusion h) (fun _=>Zh (ZR (Ze (Zo ?_)))))))))))))
 refine xM (h:=xD (h:=xA (h:=?_)))
 exact ZH (k+1) [0] so2 ⟨rfl,oz,ZaI hy ha (by simp [inF,g2])⟩ t5 rfl
 try simp only [sQ,ne_eq] at g1
 refine ZL (ZV (ZO (ZA (Ze (Za (xA (h:=Zg ?_)))))))
 exact Zy .ret (.inl rfl) [_] t1 ⟨ZC (Zde (ZaR oz ha)).symm,rfl,rfl⟩

set_option maxHeartbeats 400000 in
theorem ZpG (f:DFolder) (qa qb:Option Addr) (ca cb:Nat) (ow nm:Str) (b b':Nat) (h1:f.owner.length≤2000000) (h2:f.name.length≤2000000) (h3:ow.length≤2000000) (h4:nm.length≤2000000) (B:Kn) (hb:Zak B b 0 [str ow]) (hb2:Zak B b' 0 [str nm]):Z3 (pj J) 86 [.agg #[str f.owner,str f.name,.slice qa f.grants.length ca,.int .i64 f.next,.slice qb f.mail.length cb],ptr ⟨b,0,none⟩,ptr ⟨b',0,none⟩] B (.bool (inF ow nm f)):=by
 refine Zb 15 Tryz.func86 rfl rfl rfl (Nat.le_of_ble_eq_true rfl) ?_
 refine Za (xBx [_,_,_,_,_] (h:=fun b1=>xA (h:=ZM [_] rfl (Za (xW ZbB (h:=x1 lk9 0 (h:=Zr (Zu rfl rfl lk9 rfl (hb _ 0 _ rfl) (Zco (h:=xM (h:=Zv (d:=9) rfl (fun g1=>?_) (fun g1=>?_))))))))))))
 try simp only [sQ,ne_eq] at g1
 refine xW Zdh (h:=x1 lk9 0 (h:=Zr (Zu rfl rfl lk9 rfl (hb2 _ 0 _ rfl) (Zco (h:=xT (h:=xA (h:=Zg ?_)))))))
 exact Zy .ret (.inl rfl) [_] t1 ⟨Zd (by rw [Bool.eq_iff_iff];simp [inF,g1]),rfl,rfl⟩
 try simp only [sQ,ne_eq] at g1
 refine xP (h:=xP (h:=xP (h:=xP (h:=xF (h:=xA (h:=Zg ?_))))))
 exact Zy .ret (.inl rfl) [_] t1 ⟨Zd (by rw [Bool.eq_iff_iff];simp [inF,g1]),rfl,rfl⟩

set_option maxHeartbeats 400000 in
theorem ZnC (q:Option Addr) (cp:Nat) (fs:List DFolder) (F:FuncId) (cap:Array Value) (t:DFolder→Bool) (B:Kn) (hf:SlK B q cp 5 Zj fs) (he:enters (pj J) F=true) (hF :∀(f:DFolder) (qa qb:Option Addr) (ca cb:Nat),f.owner.length≤2000000→f.name.length≤2000000→Z3 (pj J) F ([.agg #[str f.owner,str f.name,.slice qa f.grants.length ca,.int .i64 f.next,.slice qb f.mail.length cb]] ++ cap.toList) B (.bool (t f))):Z3 (pj J) 85 [.slice q fs.length cp,.func (.func F) #[] cap] B (.int .i64 (Zcl t fs)):=by
 refine Zb 19 Tryz.func85 rfl rfl rfl (Nat.le_of_ble_eq_true rfl) ?_
 have hfn:=hf.len
 refine Za (xA (h:=Zi (Za (xM (h:=xV Tryz.underlying37 (h:=xM (h:=Zn (ZD (α:=Nat) [0,1,7] (fun k=>[(8,.int .i64 k)]) [] (fun k=>[]) (fun k Bx=>Bx=B∧k≤fs.length∧∀y,y∈fs.take k→t y=false) (fun k=>fs.length - k) 0 t1 rfl (⟨rfl,Nat.zero_le _,by simp⟩) (fun k B1 hle1 hI=>?_)))))))))
 obtain ⟨rfl,hk,ha⟩:=hI
 refine ZJ [(0,_),(1,_),(7,_),(8,_)] [] t4 rfl (Za (ZF (h:=Zi (Zc rfl (fun g1=>?_) (fun g1=>?_)))))
 try simp only [sQ,ne_eq] at g1
 refine Zh (Ze (Zi (Zn (Za (xM (h:=xA (h:=Za (xM (h:=xM (h:=xM (h:=?_)))))))))))
 obtain ⟨y,hy⟩:=ZU (xs:=fs) (i:=k) om
 obtain ⟨bb3,oo3,rfl⟩:=hf.base hy
 obtain ⟨_,⟨qg4,cg4,qm4,cm4,rfl,hg4,hm4,hb4,hb4b⟩,hc4⟩:=hf.elem hy
 have hg4n:=hg4.len
 have hm4n:=hm4.len
 have hm4s:=Zam hm4
 refine xIx Tryz.underlying37 ZeU (h:=yL [_,_,_,_,_] ZiR hc4 0 (h:=Zr (Zok rfl rfl he rfl rfl (hF y _ _ _ _ om2 om2) ?_)))
 refine Zc rfl (fun g2=>?_) (fun g2=>?_)
 try simp only [sQ,ne_eq] at g2
 refine Za (xM (h:=xA (h:=Zg (Zz (Zm (ZG (Zz (Zm ?_))))))))
 exact Zy .ret (.inl rfl) [_] t1 ⟨ZC (Zfk hy g2 ha).symm,rfl,rfl⟩
 try simp only [sQ,ne_eq] at g2
 refine Zh (ZR (Ze (Zo (xD (h:=xM (h:=?_))))))
 exact ZH (k+1) [] so2 ⟨rfl,oz,ZaI hy ha g2⟩ t4 rfl
 try simp only [sQ,ne_eq] at g1
 refine ZL (ZV (ZO (ZA (Ze (Za (xA (h:=Zg ?_)))))))
 exact Zy .ret (.inl rfl) [_] t1 ⟨ZC (Zde (ZaR oz ha)).symm,rfl,rfl⟩

set_option maxHeartbeats 400000 in
theorem ZoL (b o:Nat) (q1 q2 q3:Option Addr) (c1 c2 c3:Nat) (x:DHost) (ow nm:Str) (ho:ow.length≤2000000) (hn:nm.length≤2000000) (B:Kn) (hh:Zak B b o [str x.domain,.slice q1 x.users.length c1,.slice q2 x.folders.length c2,.int .i64 x.queue.next,.slice q3 x.queue.items.length c3]) (hf:SlK B q2 c2 5 Zj x.folders):Z3 (pj J) 48 [ptr ⟨b,o,none⟩,str ow,str nm] B (.int .i64 (Zcl (inF ow nm) x.folders)):=by
 refine Zb 13 Tryz.func48 rfl rfl rfl (Nat.le_of_ble_eq_true rfl) ?_
 refine Za (xBx [_] (h:=fun b1=>xBx [_] (h:=fun b2=>xA (h:=ZM [_,_] rfl (Za (xM (h:=xNc (h:=xW ZaA (h:=Zr (Zu rfl rfl Zfh rfl (hh _ 2 _ rfl) (Zr (Zet (xs:=[]) (ys:=[_,_]) rfl rfl rfl rfl (Zr (Zqc 0 1 rfl rfl rfl rfl rfl Zto rfl (Z3.borrow2 fun hm1 hm2=>ZnC _ _ x.folders 86 _ (inF ow nm) _ ((hf.mono Zj.mono (Kn.le_add _ _)).mono Zj.mono (Kn.le_add _ _)) Ztn (fun f qa qb ca cb h1 h2=>ZpG f qa qb ca cb ow nm _ _ h1 h2 ho hn _ (ZgZ hm1) (ZgZ hm2))) (xA (h:=?_))))))))))))))))
 refine Zg ?_
 exact Zy .ret (.inl rfl) [_] t1 ⟨rfl,rfl,rfl⟩

set_option maxHeartbeats 400000 in
theorem ZiM (b o:Nat) (q1 q2 q3:Option Addr) (c1 c2 c3:Nat) (x:DHost) (B:Kn) (hh:Zak B b o [str x.domain,.slice q1 x.users.length c1,.slice q2 x.folders.length c2,.int .i64 x.queue.next,.slice q3 x.queue.items.length c3]) (hu:SlK B q1 c1 3 Zs x.users) (hi:SlK B q3 c3 4 ZB x.queue.items):Z3 (pj J) 47 [ptr ⟨b,o,none⟩] B (.bool (x.queue.items.all (ZbN x.users))):=by
 refine Zb 35 Tryz.func47 rfl rfl rfl (Nat.le_of_ble_eq_true rfl) ?_
 have hin:=hi.len
 refine Za (xA (h:=Zi (Za (xM (h:=xNc (h:=xW Ze5 (h:=xW Zc4 (h:=Zr (Zu rfl rfl ZlP rfl (hh _ 4 _ rfl) (xV Tryz.underlying38 (h:=xM (h:=Zn (ZD (α:=Nat) [0,11,12] (fun k=>[(13,.int .i64 k)]) [] (fun k=>[]) (fun k Bx=>Bx=B∧k≤x.queue.items.length∧∀y,y∈x.queue.items.take k→ZbN x.users y=true) (fun k=>x.queue.items.length - k) 0 t1 rfl (⟨rfl,Nat.zero_le _,by simp⟩) (fun k B1 hle1 hI=>?_))))))))))))))
 obtain ⟨rfl,hk,ha⟩:=hI
 refine ZJ [(0,_),(11,_),(12,_),(13,_)] [] t4 rfl (Za (ZF (h:=Zi (Zc rfl (fun g1=>?_) (fun g1=>?_)))))
 try simp only [sQ,ne_eq] at g1
 refine Zh (Ze (Zi (Zn (Za ?_))))
 obtain ⟨y,hy⟩:=ZU (xs:=x.queue.items) (i:=k) om
 obtain ⟨bb3,oo3,rfl⟩:=hi.base hy
 obtain ⟨_,⟨qi4,ci4,rfl,hi4,hb4,hb4b⟩,hc4⟩:=hi.elem hy
 have hi4n:=hi4.len
 refine xIx Tryz.underlying38 ZhF (h:=yL [_,_,_,_] ZmS hc4 0 (h:=xAl [_,_,_,_] ZmT (h:=fun b5=>xS [_,_,_,_] 0 [_,_,_,_] ZhF (h:=ZM [_] rfl (Zi (Za (xM (h:=xW ZfV (h:=x1 lk9 0 (h:=xR Zrn rfl (Zfi _ _ _ _ _ _ _ _ x y.fr om2 _ hh hu) (h:=?_)))))))))))
 refine xN (h:=Zc rfl (fun g2=>?_) (fun g2=>?_))
 try simp only [sQ,ne_eq] at g2
 refine Za (xA (h:=Zg (Zm (Zz (Zm (ZG (Zz (Zm ?_))))))))
 exact Zy .ret (.inl rfl) [_] t1 ⟨Zd (Zcc hy (by simp [ZbN,g2])).symm,rfl,rfl⟩
 try simp only [sQ,ne_eq] at g2
 refine Zh (Ze (Za (xW ZfU (h:=x1 ZlO 0 (h:=xV Tryz.underlying81 (h:=xM (h:=Zn (ZD (α:=Nat) [0,4,11,12,13,14,21,23,24] (fun j=>[(25,.int .i64 j)]) [] (fun j=>[]) (fun j Bx=>Bx=B1∧j≤y.left.length∧∀z,z∈y.left.take j→(Zae x.users z).2=true) (fun j=>y.left.length - j) 0 t1 rfl (⟨rfl,Nat.zero_le _,by simp⟩) (fun j B7 hle7 hI=>?_)))))))))
 obtain ⟨rfl,hj,hb⟩:=hI
 refine ZJ [(0,_),(4,_),(11,_),(12,_),(13,_),(14,_),(21,_),(23,_),(24,_),(25,_)] [_] t10 rfl (Za (ZF (h:=Zi (Zc rfl (fun g3=>?_) (fun g3=>?_)))))
 try simp only [sQ,ne_eq] at g3
 refine Zh (Ze (Zi (Zn (Za ?_))))
 obtain ⟨z,hz⟩:=ZU (xs:=y.left) (i:=j) om
 obtain ⟨bb9,oo9,rfl⟩:=hi4.base hz
 obtain ⟨_,⟨rfl,hb10⟩,hc10⟩:=hi4.elem hz
 refine xIx Tryz.underlying81 sz9 (h:=y1 lk9 hc10 0 (h:=xA (h:=Za (xM (h:=xM (h:=xR Zrn rfl (Zfi _ _ _ _ _ _ _ _ x z om2 _ hh hu) (h:=?_)))))))
 refine xN (h:=Zc rfl (fun g4=>?_) (fun g4=>?_))
 try simp only [sQ,ne_eq] at g4
 refine Za (xA (h:=Zg (Zz (Zm (ZG (Zz (Zz (Zm (ZG (Zz (Zm ?_)))))))))))
 exact Zy .ret (.inl rfl) [_] t1 ⟨Zd (Zcc hy (by rw [ZbN,Zcc hz g4,Bool.and_false])).symm,rfl,rfl⟩
 try simp only [sQ,ne_eq] at g4
 refine Zh (ZR (Ze (Zo (xD (h:=xM (h:=?_))))))
 exact ZH (j+1) [0] so2 ⟨rfl,oz,ZaI hz hb g4⟩ t10 rfl
 try simp only [sQ,ne_eq] at g3
 refine ZL (ZV (ZO (ZA (ZR (Ze (Zo (xD (h:=xM (h:=?_)))))))))
 exact ZH (k+1) [] so2 ⟨rfl,oz,ZaI hy ha (by rw [ZbN,g2,Zdx (ZaR oz hb)];rfl)⟩ t4 rfl
 try simp only [sQ,ne_eq] at g1
 refine ZL (ZV (ZO (ZA (Ze (Za (xA (h:=Zg ?_)))))))
 exact Zy .ret (.inl rfl) [_] t1 ⟨Zd (Zdx (ZaR oz ha)).symm,rfl,rfl⟩

set_option maxHeartbeats 400000 in
theorem ZlU (f g:DFolder) (qa qb qc qd:Option Addr) (ca cb cc cd:Nat) (B:Kn):Z3 (pj J) 63 [.agg #[str f.owner,str f.name,.slice qa f.grants.length ca,.int .i64 f.next,.slice qb f.mail.length cb],.agg #[str g.owner,str g.name,.slice qc g.grants.length cc,.int .i64 g.next,.slice qd g.mail.length cd]] B (.bool (Zei f g)):=by
 refine Zb 24 Tryz.func63 rfl rfl rfl (Nat.le_of_ble_eq_true rfl) ?_
 refine Za (xBx [_,_,_,_,_] (h:=fun b1=>xBx [_,_,_,_,_] (h:=fun b2=>xA (h:=ZM [_,_] rfl (Za (xW ZbB (h:=x1 lk9 0 (h:=xW ZbB (h:=x1 lk9 1 (h:=Zoj (h:=xM (h:=Zv (d:=10) rfl (fun g1=>?_) (fun g1=>?_)))))))))))))
 try simp only [sQ,ne_eq] at g1
 refine xP (h:=xP (h:=xP (h:=xP (h:=xP (h:=xP (h:=xP (h:=xP (h:=xP (h:=xP (h:=xP (h:=xP (h:=xT (h:=?_)))))))))))))
 refine xA (h:=Zg ?_)
 exact Zy .ret (.inl rfl) [_] t1 ⟨Zd (by rw [Bool.eq_iff_iff];simp [Zei,Zca,g1]),rfl,rfl⟩
 try simp only [sQ,ne_eq] at g1
 refine xW ZbB (h:=x1 lk9 0 (h:=xW ZbB (h:=x1 lk9 1 (h:=Zco (h:=xM (h:=Zv (d:=16) rfl (fun g2=>?_) (fun g2=>?_)))))))
 try simp only [sQ,ne_eq] at g2
 refine xW Zdh (h:=x1 lk9 0 (h:=xW Zdh (h:=x1 lk9 1 (h:=Zoj (h:=xT (h:=xF (h:=xA (h:=Zg ?_))))))))
 exact Zy .ret (.inl rfl) [_] t1 ⟨Zd (by rw [Bool.eq_iff_iff];simp [Zei,Zca,g1,g2]),rfl,rfl⟩
 try simp only [sQ,ne_eq] at g2
 refine xP (h:=xP (h:=xP (h:=xP (h:=xP (h:=xF (h:=xF (h:=xA (h:=Zg ?_))))))))
 exact Zy .ret (.inl rfl) [_] t1 ⟨Zd (by rw [Bool.eq_iff_iff];simp [Zei,Zca,g1,g2]),rfl,rfl⟩

set_option maxHeartbeats 400000 in
theorem ZiF (q:Option Addr) (cp:Nat) (us:List DUser) (B:Kn) (hu:SlK B q cp 3 Zs us):Z3 (pj J) 31 [.slice q us.length cp] B (.bool (Zaa us)):=by
 refine Zb 54 Tryz.func31 rfl rfl rfl (Nat.le_of_ble_eq_true rfl) ?_
 have hun:=hu.len
 refine Za (xA (h:=Zi (Za (xA (h:=Zn (ZD (α:=Nat × Str) [0] (fun g=>[(3,.int .i64 g.1)]) [] (fun g=>[]) (fun g Bx=>Bx=B∧g.1≤us.length∧ZcK (us.take g.1)=(true,g.2)∧Prev (fun y=>y.name) ([]:Str) us g.1 g.2) (fun g=>us.length - g.1) (0,[]) t1 rfl (⟨rfl,Nat.zero_le _,ZdS,.zero⟩) (fun g B1 hle1 hI=>?_)))))))
 obtain ⟨rfl,hk,hs,hp⟩:=hI
 refine ZJ [(0,_),(3,_)] [] t2 rfl (Zi (Za (xM (h:=xM (h:=xV Tryz.underlying36 (h:=ZF (h:=Zc rfl (fun g1=>?_) (fun g1=>?_))))))))
 try simp only [sQ,ne_eq] at g1
 refine Zh (Ze (Zi (Zn (Za (xM (h:=xM (h:=?_)))))))
 obtain ⟨m,hm⟩:=ZU (xs:=us) (i:=g.1) om
 obtain ⟨bb3,oo3,rfl⟩:=hu.base hm
 obtain ⟨_,⟨rfl,hb4,hb4b⟩,hc4⟩:=hu.elem hm
 refine xIx Tryz.underlying36 Zfc (h:=yL [_,_,_] Zio hc4 0 (h:=xAl [_,_,_] ZjY (h:=fun b5=>xS [_,_,_] 0 [_,_,_] Zfc (h:=ZM [_] rfl (Zi (Z2 (same _ _) mo kr ⟨rfl,rfl⟩ (fun _ _=>?_)))))))
 refine aW 0 rfl ZbC (h:=aT 1 rfl (Z5 fun D=>Zu rfl rfl lk9 rfl (atL 0 rfl rfl rfl) r4) (h:=aT 2 rfl (Z5 fun D=>ZQ rfl rfl ZpQ rfl (Zbp _ om2 _) r4) (h:=?_)))
 refine aN 3 rfl (h:=aM 4 rfl (h:=Zab (d:=19) rfl (fun g2=>?_) (fun g2=>?_)))
 try simp only [sQ,ne_eq] at g2
 refine aZ 5 rfl (h:=aZ 6 rfl (h:=aZ 7 rfl (h:=aPT 8 rfl (h:=aM 9 rfl (h:=aZ 10 rfl (h:=aZ 11 rfl (h:=aZ 12 rfl (h:=aZ 13 rfl (h:=aPT 14 rfl (h:=aM 15 rfl (h:=aZ 16 rfl (h:=aZ 17 rfl (h:=?_)))))))))))))
 refine aZ 18 rfl (h:=aZ 19 rfl (h:=aPT 20 rfl (h:=aM 21 rfl (h:=aZ 22 rfl (h:=aZ 23 rfl (h:=aZ 24 rfl (h:=aZ 25 rfl (h:=aZ 26 rfl (h:=aZ 27 rfl (h:=aZ 28 rfl (h:=aZ 29 rfl (h:=aZ 30 rfl (h:=?_)))))))))))))
 refine aZ 31 rfl (h:=aZ 32 rfl (h:=aZ 33 rfl (h:=aZ 34 rfl (h:=aPT 35 rfl (h:=Zt kr kr ?_)))))
 refine Ze (Zc (t:=true) rfl (fun _=>Za (xA (h:=Zg (Zz (Zm (ZG (Zz (Zm ?_)))))))) (fun h=>Bool.noConfusion h))
 exact Zy .ret (.inl rfl) [_] t1 ⟨Zd (ZbT hm hs (by simp [Zc6,ZbI,anyone,g1,g2])).symm,rfl,rfl⟩
 try simp only [sQ,ne_eq] at g2
 refine aW 5 rfl ZbC (h:=aT 6 rfl (Z5 fun D=>Zu rfl rfl lk9 rfl (atL 0 rfl rfl rfl) r4) (h:=ZmO 7 rfl (h:=aPF 8 rfl (h:=aM 9 rfl (h:=Zab (d:=24) rfl (fun g3=>?_) (fun g3=>?_))))))
 try simp only [sQ,ne_eq] at g3
 refine aZ 10 rfl (h:=aZ 11 rfl (h:=aZ 12 rfl (h:=aZ 13 rfl (h:=aPT 14 rfl (h:=aM 15 rfl (h:=aZ 16 rfl (h:=aZ 17 rfl (h:=aZ 18 rfl (h:=aZ 19 rfl (h:=aPT 20 rfl (h:=aM 21 rfl (h:=aZ 22 rfl (h:=?_)))))))))))))
 refine aZ 23 rfl (h:=aZ 24 rfl (h:=aZ 25 rfl (h:=aZ 26 rfl (h:=aZ 27 rfl (h:=aZ 28 rfl (h:=aZ 29 rfl (h:=aZ 30 rfl (h:=aZ 31 rfl (h:=aZ 32 rfl (h:=aZ 33 rfl (h:=aZ 34 rfl (h:=aPT 35 rfl (h:=?_)))))))))))))
 refine Zt kr kr ?_
 refine Ze (Zc (t:=true) rfl (fun _=>Za (xA (h:=Zg (Zz (Zm (ZG (Zz (Zm ?_)))))))) (fun h=>Bool.noConfusion h))
 exact Zy .ret (.inl rfl) [_] t1 ⟨Zd (ZbT hm hs (by simp [Zc6,ZbI,anyone,g1,g2,g3])).symm,rfl,rfl⟩
 try simp only [sQ,ne_eq] at g3
 refine aW 10 rfl Zh8 (h:=aT 11 rfl (Z5 fun D=>Zu rfl rfl lk9 rfl (atL 0 rfl rfl rfl) r4) (h:=aT 12 rfl (Z5 fun D=>ZQ rfl rfl ZpQ rfl (Zbp _ om2 _) r4) (h:=?_)))
 refine aN 13 rfl (h:=aPF 14 rfl (h:=aM 15 rfl (h:=Zab (d:=30) rfl (fun g4=>?_) (fun g4=>?_))))
 try simp only [sQ,ne_eq] at g4
 refine aZ 16 rfl (h:=aZ 17 rfl (h:=aZ 18 rfl (h:=aZ 19 rfl (h:=aPT 20 rfl (h:=aM 21 rfl (h:=aZ 22 rfl (h:=aZ 23 rfl (h:=aZ 24 rfl (h:=aZ 25 rfl (h:=aZ 26 rfl (h:=aZ 27 rfl (h:=aZ 28 rfl (h:=?_)))))))))))))
 refine aZ 29 rfl (h:=aZ 30 rfl (h:=aZ 31 rfl (h:=aZ 32 rfl (h:=aZ 33 rfl (h:=aZ 34 rfl (h:=aPT 35 rfl (h:=Zt kr kr ?_)))))))
 refine Ze (Zc (t:=true) rfl (fun _=>Za (xA (h:=Zg (Zz (Zm (ZG (Zz (Zm ?_)))))))) (fun h=>Bool.noConfusion h))
 exact Zy .ret (.inl rfl) [_] t1 ⟨Zd (ZbT hm hs (by simp [Zc6,ZbI,anyone,g1,g2,g3,g4])).symm,rfl,rfl⟩
 try simp only [sQ,ne_eq] at g4
 refine aW 16 rfl Ze4 (h:=aT 17 rfl (Z5 fun D=>Zu rfl rfl lk3 rfl (atL 0 rfl rfl rfl) r4) (h:=aT 18 rfl (Z5 fun D=>ZQ rfl rfl ZnX rfl (Zej _ _ _ _) r4) (h:=aN 19 rfl (h:=aPF 20 rfl (h:=aM 21 rfl (h:=Zab (d:=36) rfl (fun g5=>?_) (fun g5=>?_)))))))
 try simp only [sQ,ne_eq] at g5
 refine aZ 22 rfl (h:=aZ 23 rfl (h:=aZ 24 rfl (h:=aZ 25 rfl (h:=aZ 26 rfl (h:=aZ 27 rfl (h:=aZ 28 rfl (h:=aZ 29 rfl (h:=aZ 30 rfl (h:=aZ 31 rfl (h:=aZ 32 rfl (h:=aZ 33 rfl (h:=aZ 34 rfl (h:=?_)))))))))))))
 refine aPT 35 rfl (h:=Zt kr kr ?_)
 refine Ze (Zc (t:=true) rfl (fun _=>Za (xA (h:=Zg (Zz (Zm (ZG (Zz (Zm ?_)))))))) (fun h=>Bool.noConfusion h))
 exact Zy .ret (.inl rfl) [_] t1 ⟨Zd (ZbT hm hs (by simp [Zc6,ZbI,anyone,g1,g2,g3,g4,g5])).symm,rfl,rfl⟩
 try simp only [sQ,ne_eq] at g5
 refine aM 22 rfl (h:=ZmN 23 rfl (h:=aM 24 rfl (h:=Zab (d:=39) rfl (fun g6=>?_) (fun g6=>?_))))
 try simp only [sQ,ne_eq] at g6
 refine aM 25 rfl (h:=aM 26 rfl (h:=aU 27 rfl (h:=?_)))
 obtain ⟨y,hy⟩:=ZqS (xs:=us) (i:=(↑g.1 - 1)) om om
 obtain ⟨_,⟨rfl,hb10,hb10b⟩,hc10⟩:=hu.elem hy
 refine aIx 28 rfl Tryz.underlying36 Zfc (h:=?_)
 have hpe:=hp.at hy oz
 refine aW 29 rfl ZbC (h:=aT 30 rfl (Z5 fun D=>Zu rfl rfl lk9 rfl (hc10 _ 0 _ rfl) r4) (h:=aW 31 rfl ZbC (h:=aT 32 rfl (Z5 fun D=>Zu rfl rfl lk9 rfl (atL 0 rfl rfl rfl) r4) (h:=aT 33 rfl (Z5 fun D=>Zor rfl rfl rfl rfl r4) (h:=aPT 34 rfl (h:=aPF 35 rfl (h:=Zt kr kr ?_)))))))
 refine Ze (Zc rfl (fun g7=>?_) (fun g7=>?_))
 try simp only [sQ,ne_eq] at g7
 refine Za (xA (h:=Zg (Zz (Zm (ZG (Zz (Zm ?_)))))))
 exact Zy .ret (.inl rfl) [_] t1 ⟨Zd (ZbT hm hs (by simp [Zc6,ZbI,anyone,g1,g2,g3,g4,g5,g6,g7,hpe])).symm,rfl,rfl⟩
 try simp only [sQ,ne_eq] at g7
 refine Zh (ZR (Ze (Zo (xM (h:=xD (h:=xA (h:=?_)))))))
 exact ZH (g.1+1,m.name) [] so2 ⟨rfl,oz,Zbv hm hs (by rw [hpe];simp [Zc6,ZbI,anyone,g2,g3,g4,g7];simp at g5;omega),.succ hm⟩ t2 rfl
 try simp only [sQ,ne_eq] at g6
 refine aZ 25 rfl (h:=aZ 26 rfl (h:=aZ 27 rfl (h:=aZ 28 rfl (h:=aZ 29 rfl (h:=aZ 30 rfl (h:=aZ 31 rfl (h:=aZ 32 rfl (h:=aZ 33 rfl (h:=aPF 34 rfl (h:=aPF 35 rfl (h:=Zt kr kr ?_)))))))))))
 refine Ze (Zc (t:=false) rfl (fun h=>Bool.noConfusion h) (fun _=>Zh (ZR (Ze (Zo (xM (h:=xD (h:=xA (h:=?_)))))))))
 exact ZH (g.1+1,m.name) [] so2 ⟨rfl,oz,Zbv hm hs (by rw [hp.at0 oz];simp [Zc6,ZbI,anyone,g2,g3,g4,ZjI (ZgD g2)];simp at g5;omega),.succ hm⟩ t2 rfl
 try simp only [sQ,ne_eq] at g1
 refine ZL (ZV (ZO (ZA (Ze (Za (xM (h:=xV Tryz.underlying36 (h:=xR ZnX rfl (Zej _ _ _ _) (h:=xA (h:=Zg ?_))))))))))
 exact Zy .ret (.inl rfl) [_] t1 ⟨Zd (by rw [Zfu (ZcQ hs oz),Bool.eq_iff_iff];simp;omega),rfl,rfl⟩

set_option maxHeartbeats 400000 in
theorem Zlo (q:Option Addr) (cp:Nat) (gs:List DGrant) (B:Kn) (hg:SlK B q cp 2 Zah gs):Z3 (pj J) 61 [.slice q gs.length cp] B (.bool (Zb4 gs)):=by
 refine Zb 47 Tryz.func61 rfl rfl rfl (Nat.le_of_ble_eq_true rfl) ?_
 have hgn:=hg.len
 refine Za (xA (h:=Zi (Za (xA (h:=Zn (ZD (α:=Nat × Str) [0] (fun g=>[(3,.int .i64 g.1)]) [] (fun g=>[]) (fun g Bx=>Bx=B∧g.1≤gs.length∧ZbA (gs.take g.1)=(true,g.2)∧Prev (fun y=>y.user) ([]:Str) gs g.1 g.2) (fun g=>gs.length - g.1) (0,[]) t1 rfl (⟨rfl,Nat.zero_le _,ZdS,.zero⟩) (fun g B1 hle1 hI=>?_)))))))
 obtain ⟨rfl,hk,hs,hp⟩:=hI
 refine ZJ [(0,_),(3,_)] [] t2 rfl (Zi (Za (xM (h:=xM (h:=xV Tryz.underlying87 (h:=ZF (h:=Zc rfl (fun g1=>?_) (fun g1=>?_))))))))
 try simp only [sQ,ne_eq] at g1
 refine Zh (Ze (Zi (Zn (Zi (Z2 (same _ _) mo kr ⟨rfl,rfl⟩ (fun _ _=>?_))))))
 refine aM 0 rfl (h:=aM 1 rfl (h:=?_))
 obtain ⟨m,hm⟩:=ZU (xs:=gs) (i:=g.1) om
 obtain ⟨bb3,oo3,rfl⟩:=hg.base hm
 obtain ⟨_,⟨rfl,hb4⟩,hc4⟩:=hg.elem hm
 refine aIx 2 rfl Tryz.underlying87 ZdO (h:=aW 3 rfl ZbH (h:=aT 4 rfl (Z5 fun D=>Zu rfl rfl lk9 rfl (hc4 _ 0 _ rfl) r4) (h:=aT 5 rfl (Z5 fun D=>ZQ rfl rfl ZpQ rfl (Zbp _ om2 _) r4) (h:=?_))))
 refine aN 6 rfl (h:=aM 7 rfl (h:=Zab (d:=17) rfl (fun g2=>?_) (fun g2=>?_)))
 try simp only [sQ,ne_eq] at g2
 refine aZ 8 rfl (h:=aZ 9 rfl (h:=aZ 10 rfl (h:=aZ 11 rfl (h:=aZ 12 rfl (h:=aZ 13 rfl (h:=aZ 14 rfl (h:=aPT 15 rfl (h:=aM 16 rfl (h:=aZ 17 rfl (h:=aZ 18 rfl (h:=aZ 19 rfl (h:=aZ 20 rfl (h:=?_)))))))))))))
 refine aZ 21 rfl (h:=aZ 22 rfl (h:=aZ 23 rfl (h:=aZ 24 rfl (h:=aZ 25 rfl (h:=aZ 26 rfl (h:=aZ 27 rfl (h:=aZ 28 rfl (h:=aZ 29 rfl (h:=aZ 30 rfl (h:=aZ 31 rfl (h:=aZ 32 rfl (h:=aPT 33 rfl (h:=?_)))))))))))))
 refine Zt kr kr ?_
 refine Ze (Zc (t:=true) rfl (fun _=>Za (xA (h:=Zg (Zz (Zm (ZG (Zz (Zm ?_)))))))) (fun h=>Bool.noConfusion h))
 exact Zy .ret (.inl rfl) [_] t1 ⟨Zd (Zb2 hm hs (by simp [Zbb,g1,g2])).symm,rfl,rfl⟩
 try simp only [sQ,ne_eq] at g2
 refine aM 8 rfl (h:=aM 9 rfl (h:=aIx 10 rfl Tryz.underlying87 ZdO (h:=aW 11 rfl ZcY (h:=aT 12 rfl (Z5 fun D=>Zu rfl rfl lk3 rfl (hc4 _ 1 _ rfl) r4) (h:=aT 13 rfl (Z5 fun D=>ZQ rfl rfl ZnX rfl (Zej _ _ _ _) r4) (h:=aN 14 rfl (h:=aPF 15 rfl (h:=aM 16 rfl (h:=Zab (d:=26) rfl (fun g4=>?_) (fun g4=>?_))))))))))
 try simp only [sQ,ne_eq] at g4
 refine aZ 17 rfl (h:=aZ 18 rfl (h:=aZ 19 rfl (h:=aZ 20 rfl (h:=aZ 21 rfl (h:=aZ 22 rfl (h:=aZ 23 rfl (h:=aZ 24 rfl (h:=aZ 25 rfl (h:=aZ 26 rfl (h:=aZ 27 rfl (h:=aZ 28 rfl (h:=aZ 29 rfl (h:=?_)))))))))))))
 refine aZ 30 rfl (h:=aZ 31 rfl (h:=aZ 32 rfl (h:=aPT 33 rfl (h:=Zt kr kr ?_))))
 refine Ze (Zc (t:=true) rfl (fun _=>Za (xA (h:=Zg (Zz (Zm (ZG (Zz (Zm ?_)))))))) (fun h=>Bool.noConfusion h))
 exact Zy .ret (.inl rfl) [_] t1 ⟨Zd (Zb2 hm hs (by simp [Zbb,g1,g2,g4])).symm,rfl,rfl⟩
 try simp only [sQ,ne_eq] at g4
 refine aM 17 rfl (h:=ZmN 18 rfl (h:=aM 19 rfl (h:=Zab (d:=29) rfl (fun g6=>?_) (fun g6=>?_))))
 try simp only [sQ,ne_eq] at g6
 refine aM 20 rfl (h:=aM 21 rfl (h:=aU 22 rfl (h:=?_)))
 obtain ⟨y,hy⟩:=ZqS (xs:=gs) (i:=(↑g.1 - 1)) om om
 obtain ⟨_,⟨rfl,hb8⟩,hc8⟩:=hg.elem hy
 refine aIx 23 rfl Tryz.underlying87 ZdO (h:=?_)
 have hpe:=hp.at hy oz
 refine aW 24 rfl ZbH (h:=aT 25 rfl (Z5 fun D=>Zu rfl rfl lk9 rfl (hc8 _ 0 _ rfl) r4) (h:=aM 26 rfl (h:=aM 27 rfl (h:=aIx 28 rfl Tryz.underlying87 ZdO (h:=aW 29 rfl ZbH (h:=aT 30 rfl (Z5 fun D=>Zu rfl rfl lk9 rfl (hc4 _ 0 _ rfl) r4) (h:=aT 31 rfl (Z5 fun D=>Zor rfl rfl rfl rfl r4) (h:=aPT 32 rfl (h:=aPF 33 rfl (h:=Zt kr kr ?_))))))))))
 refine Ze (Zc rfl (fun g7=>?_) (fun g7=>?_))
 try simp only [sQ,ne_eq] at g7
 refine Za (xA (h:=Zg (Zz (Zm (ZG (Zz (Zm ?_)))))))
 exact Zy .ret (.inl rfl) [_] t1 ⟨Zd (Zb2 hm hs (by simp [Zbb,g1,g2,g4,g6,g7,hpe])).symm,rfl,rfl⟩
 try simp only [sQ,ne_eq] at g7
 refine Zh (ZR (Ze (Zo (xM (h:=xD (h:=xA (h:=?_)))))))
 exact ZH (g.1+1,m.user) [] so2 ⟨rfl,oz,Zbv hm hs (by rw [hpe];simp [Zbb,g2,g7];simp at g4;omega),.succ hm⟩ t2 rfl
 try simp only [sQ,ne_eq] at g6
 refine aZ 20 rfl (h:=aZ 21 rfl (h:=aZ 22 rfl (h:=aZ 23 rfl (h:=aZ 24 rfl (h:=aZ 25 rfl (h:=aZ 26 rfl (h:=aZ 27 rfl (h:=aZ 28 rfl (h:=aZ 29 rfl (h:=aZ 30 rfl (h:=aZ 31 rfl (h:=aPF 32 rfl (h:=?_)))))))))))))
 refine aPF 33 rfl (h:=Zt kr kr ?_)
 refine Ze (Zc (t:=false) rfl (fun h=>Bool.noConfusion h) (fun _=>Zh (ZR (Ze (Zo (xM (h:=xD (h:=xA (h:=?_)))))))))
 exact ZH (g.1+1,m.user) [] so2 ⟨rfl,oz,Zbv hm hs (by rw [hp.at0 oz];simp [Zbb,g2,ZjI (ZgD g2)];simp at g4;omega),.succ hm⟩ t2 rfl
 try simp only [sQ,ne_eq] at g1
 refine ZL (ZV (ZO (ZA (Ze (Za (xM (h:=xV Tryz.underlying87 (h:=Zbx (h:=xA (h:=Zg ?_))))))))))
 exact Zy .ret (.inl rfl) [_] t1 ⟨Zd (by rw [Zil (ZcQ hs oz),Bool.eq_iff_iff];simp;try omega),rfl,rfl⟩

set_option maxHeartbeats 400000 in
theorem Zkn (q1 q2 q3:Option Addr) (c1 c2 c3:Nat) (x:DHost) (q:Option Addr) (cp:Nat) (ns:List Str) (B:Kn) (hu:SlK B q1 c1 3 Zs x.users) (hn:SlK B q cp 1 Zd4 ns):Z3 (pj J) 36 [.agg #[str x.domain,.slice q1 x.users.length c1,.slice q2 x.folders.length c2,.int .i64 x.queue.next,.slice q3 x.queue.items.length c3],.slice q ns.length cp] B (.bool (ZhY x.users ns)):=by
 refine Zb 20 Tryz.func36 rfl rfl rfl (Nat.le_of_ble_eq_true rfl) ?_
 have hnn:=hn.len
 have hun:=hu.len
 refine Za (xBx [_,_,_,_,_] (h:=fun b1=>xA (h:=ZM [_] rfl (Zi (Za (xA (h:=Zn (ZD (α:=Nat) [0,1,2] (fun k=>[(5,.int .i64 k)]) [] (fun k=>[]) (fun k Bx=>Bx=B∧k≤ns.length∧∀z,z∈ns.take k→decide (0≤Zfj x.users z)=true) (fun k=>ns.length - k) 0 t1 rfl (⟨rfl,Nat.zero_le _,by simp⟩) (fun k B2 hle2 hI=>?_)))))))))
 obtain ⟨rfl,hk,ha⟩:=hI
 refine ZJ [(0,_),(1,_),(2,_),(5,_)] [_] t4 rfl (Zi (Za (xM (h:=xM (h:=xV Tryz.underlying81 (h:=ZF (h:=Zc rfl (fun g1=>?_) (fun g1=>?_))))))))
 try simp only [sQ,ne_eq] at g1
 refine Zh (Ze (Zi (Zn (Zi (Z2 (same _ _) mo kr ⟨rfl,rfl⟩ (fun _ _=>?_))))))
 refine aW 0 rfl ZbK (h:=aT 1 rfl (Z5 fun D=>Zu rfl rfl ZiS rfl (atL 0 rfl rfl rfl) r4) (h:=aM 2 rfl (h:=aM 3 rfl (h:=?_))))
 obtain ⟨z,hz⟩:=ZU (xs:=ns) (i:=k) om
 obtain ⟨bb4,oo4,rfl⟩:=hn.base hz
 obtain ⟨_,⟨rfl,hb5⟩,hc5⟩:=hn.elem hz
 refine aIx 4 rfl Tryz.underlying81 sz9 (h:=aT 5 rfl (Z5 fun D=>Zu rfl rfl lk9 rfl (hc5 _ 0 _ rfl) r4) (h:=aT 6 rfl (Z5 fun D=>ZQ rfl rfl Zrq rfl (Zek _ _ _ _ _ hu) r4) (h:=Zod 7 rfl (h:=Zt kr kr ?_))))
 refine Ze (Zc rfl (fun g2=>?_) (fun g2=>?_))
 try simp only [sQ,ne_eq] at g2
 refine Za (xA (h:=Zg (Zz (Zm (ZG (Zz (Zm ?_)))))))
 exact Zy .ret (.inl rfl) [_] t1 ⟨Zd (Zcc hz (by simp;omega)).symm,rfl,rfl⟩
 try simp only [sQ,ne_eq] at g2
 refine Zh (ZR (Ze (Zo (xM (h:=xD (h:=xA (h:=?_)))))))
 exact ZH (k+1) [0] so2 ⟨rfl,oz,ZaI hz ha (by simp;omega)⟩ t4 rfl
 try simp only [sQ,ne_eq] at g1
 refine ZL (ZV (ZO (ZA (Ze (Za (xA (h:=Zg ?_)))))))
 exact Zy .ret (.inl rfl) [_] t1 ⟨Zd (Zdx (ZaR oz ha)).symm,rfl,rfl⟩

set_option maxHeartbeats 400000 in
theorem ZlT (q1 q2 q3:Option Addr) (c1 c2 c3:Nat) (x:DHost) (u:Str) (B:Kn) (hf:SlK B q2 c2 5 Zj x.folders):Z3 (pj J) 34 [.agg #[str x.domain,.slice q1 x.users.length c1,.slice q2 x.folders.length c2,.int .i64 x.queue.next,.slice q3 x.queue.items.length c3],str u] B (.int .i64 (Zd7 x.folders u)):=by
 refine Zb 32 Tryz.func34 rfl rfl rfl (Nat.le_of_ble_eq_true rfl) ?_
 have hfn:=hf.len
 refine Za (xBx [_,_,_,_,_] (h:=fun b1=>xA (h:=ZM [_] rfl (Za (xA (h:=Zi (Za (xA (h:=Zn (ZD (α:=Nat × Nat) [0,1,2,4] (fun g=>[(5,.int .i64 g.2),(6,.int .i64 g.1)]) [] (fun g=>[]) (fun g Bx=>Bx=B∧g.1≤x.folders.length∧g.2=Zd7 (x.folders.take g.1) u∧g.2≤g.1*4000000000000) (fun g=>x.folders.length - g.1) (0,0) t2 rfl (⟨rfl,Nat.zero_le _,by simp [Zd7],oz⟩) (fun g B2 hle2 hI=>?_)))))))))))
 obtain ⟨rfl,hk,hs,hl⟩:=hI
 refine ZJ [(0,_),(1,_),(2,_),(4,_),(5,_),(6,_)] [_] t6 rfl (Zi (Za (xM (h:=xW ZaA (h:=x1 Zfh 0 (h:=xV Tryz.underlying37 (h:=ZF (h:=Zc rfl (fun g1=>?_) (fun g1=>?_)))))))))
 try simp only [sQ,ne_eq] at g1
 refine Zh (Ze (Zi (Zn (Za (xW ZaA (h:=x1 Zfh 0 (h:=xM (h:=?_))))))))
 obtain ⟨m,hm⟩:=ZU (xs:=x.folders) (i:=g.1) om
 obtain ⟨bb4,oo4,rfl⟩:=hf.base hm
 obtain ⟨_,⟨qg5,cg5,qm5,cm5,rfl,hg5,hm5,hb5,hb5b⟩,hc5⟩:=hf.elem hm
 have hg5n:=hg5.len
 have hm5n:=hm5.len
 have hm5s:=Zam hm5
 refine xIx Tryz.underlying37 ZeU (h:=xW ZbB (h:=y1 lk9 hc5 0 (h:=xM (h:=Zco (h:=Zc rfl (fun g2=>?_) (fun g2=>?_))))))
 try simp only [sQ,ne_eq] at g2
 refine Zo (xM (h:=xW ZaA (h:=x1 Zfh 0 (h:=xM (h:=xIx Tryz.underlying37 ZeU (h:=xW ZfS (h:=yL [_,_] ZnA hc5 3 (h:=xR ZtC rfl (ZlV _ _ (⟨m.next,m.mail⟩:DBox) _ hm5) (h:=xD (h:=xA (h:=ZR (Ze (Zo ?_)))))))))))))
 refine xM (h:=xD (h:=xA (h:=?_)))
 exact ZH (g.1+1,g.2+ZaY m.mail) [0] so2 ⟨rfl,so,by rw [Zgw hm,← hs,if_pos g2],so⟩ t6 rfl
 try simp only [sQ,ne_eq] at g2
 refine Zh (ZR (Ze (Zo (xM (h:=xD (h:=xA (h:=?_)))))))
 exact ZH (g.1+1,g.2) [0] so2 ⟨rfl,so,by rw [Zgw hm,← hs,if_neg g2];simp only [Nat.add_zero],Nat.le_trans hl (Nat.mul_le_mul_right _ (Nat.le_succ _))⟩ t6 rfl
 try simp only [sQ,ne_eq] at g1
 refine ZL (ZV (ZO (ZA (Ze (Za (xM (h:=xA (h:=Zg ?_))))))))
 exact Zy .ret (.inl rfl) [_] t1 ⟨ZC (by rw [← Zk4 hs oz]),rfl,rfl⟩

set_option maxHeartbeats 400000 in
theorem ZhW (q1 q2 q3:Option Addr) (c1 c2 c3:Nat) (x:DHost) (B:Kn) (hu:SlK B q1 c1 3 Zs x.users) (hf:SlK B q2 c2 5 Zj x.folders):Z3 (pj J) 33 [.agg #[str x.domain,.slice q1 x.users.length c1,.slice q2 x.folders.length c2,.int .i64 x.queue.next,.slice q3 x.queue.items.length c3]] B (.bool (Zbj x.users x.folders)):=by
 refine Zb 60 Tryz.func33 rfl rfl rfl (Nat.le_of_ble_eq_true rfl) ?_
 have hfn:=hf.len
 have hun:=hu.len
 refine Za (xBx [_,_,_,_,_] (h:=fun b1=>xA (h:=ZM [_] rfl (Zi (Za (xA (h:=Zn (ZD (α:=Nat × Option DFolder) [0,1] (fun g=>[(3,.int .i64 g.1)]) [] (fun g=>[]) (fun g Bx=>Bx=B∧g.1≤x.folders.length∧ZbR x.users (x.folders.take g.1)=(true,g.2)∧Prev some none x.folders g.1 g.2) (fun g=>x.folders.length - g.1) (0,none) t1 rfl (⟨rfl,Nat.zero_le _,ZdS,.zero⟩) (fun g B2 hle2 hI=>?_)))))))))
 obtain ⟨rfl,hk,hs,hp⟩:=hI
 refine ZJ [(0,_),(1,_),(3,_)] [_] t3 rfl (Zi (Za (xM (h:=xW ZaA (h:=x1 Zfh 0 (h:=xV Tryz.underlying37 (h:=ZF (h:=Zc rfl (fun g1=>?_) (fun g1=>?_)))))))))
 try simp only [sQ,ne_eq] at g1
 refine Zh (Ze (Zi (Zn (Za (xW ZaA (h:=x1 Zfh 0 (h:=xM (h:=?_))))))))
 obtain ⟨m,hm⟩:=ZU (xs:=x.folders) (i:=g.1) om
 obtain ⟨bb4,oo4,rfl⟩:=hf.base hm
 obtain ⟨_,⟨qg5,cg5,qm5,cm5,rfl,hg5,hm5,hb5,hb5b⟩,hc5⟩:=hf.elem hm
 have hg5n:=hg5.len
 have hm5n:=hm5.len
 have hm5s:=Zam hm5
 refine xIx Tryz.underlying37 ZeU (h:=yL [_,_,_,_,_] ZiR hc5 0 (h:=xAl [_,_,_,_,_] Zoi (h:=fun b6=>xS [_,_,_,_,_] 1 [_,_,_,_,_] ZeU (h:=ZM [_,_] rfl (Zi (Z2 (same _ _) mo kr ⟨rfl,rfl⟩ (fun _ _=>?_)))))))
 refine aW 0 rfl ZbK (h:=aT 1 rfl (Z5 fun D=>Zu rfl rfl ZiS rfl (atL 0 rfl rfl rfl) r4) (h:=aW 2 rfl ZbB (h:=aT 3 rfl (Z5 fun D=>Zu rfl rfl lk9 rfl (atL 1 rfl rfl rfl) r4) (h:=aT 4 rfl (Z5 fun D=>ZQ rfl rfl Zrq rfl (Zek _ _ _ _ _ hu) r4) (h:=Zod 5 rfl (h:=aM 6 rfl (h:=Zab (d:=23) rfl (fun g2=>?_) (fun g2=>?_))))))))
 try simp only [sQ,ne_eq] at g2
 refine aZ 7 rfl (h:=aZ 8 rfl (h:=aZ 9 rfl (h:=aZ 10 rfl (h:=aPT 11 rfl (h:=aM 12 rfl (h:=aZ 13 rfl (h:=aZ 14 rfl (h:=aZ 15 rfl (h:=aZ 16 rfl (h:=aPT 17 rfl (h:=aM 18 rfl (h:=aZ 19 rfl (h:=?_)))))))))))))
 refine aZ 20 rfl (h:=aZ 21 rfl (h:=aZ 22 rfl (h:=aPT 23 rfl (h:=aM 24 rfl (h:=aZ 25 rfl (h:=aZ 26 rfl (h:=aZ 27 rfl (h:=aZ 28 rfl (h:=aZ 29 rfl (h:=aZ 30 rfl (h:=aZ 31 rfl (h:=aZ 32 rfl (h:=?_)))))))))))))
 refine aZ 33 rfl (h:=aZ 34 rfl (h:=aZ 35 rfl (h:=aZ 36 rfl (h:=aZ 37 rfl (h:=aPT 38 rfl (h:=Zt kr kr ?_))))))
 refine Ze (Zc (t:=true) rfl (fun _=>Za (xA (h:=Zg (Zz (Zm (ZG (Zz (Zm ?_)))))))) (fun h=>Bool.noConfusion h))
 exact Zy .ret (.inl rfl) [_] t1 ⟨Zd (Zbi hm hs (by simp [ZaN,Z1,DFolder.box,g1,g2];try omega)).symm,rfl,rfl⟩
 try simp only [sQ,ne_eq] at g2
 refine aW 7 rfl Zdh (h:=aT 8 rfl (Z5 fun D=>Zu rfl rfl lk9 rfl (atL 1 rfl rfl rfl) r4) (h:=aT 9 rfl (Z5 fun D=>ZQ rfl rfl ZpQ rfl (Zbp _ om2 _) r4) (h:=?_)))
 refine aN 10 rfl (h:=aPF 11 rfl (h:=aM 12 rfl (h:=Zab (d:=29) rfl (fun g3=>?_) (fun g3=>?_))))
 try simp only [sQ,ne_eq] at g3
 refine aZ 13 rfl (h:=aZ 14 rfl (h:=aZ 15 rfl (h:=aZ 16 rfl (h:=aPT 17 rfl (h:=aM 18 rfl (h:=aZ 19 rfl (h:=aZ 20 rfl (h:=aZ 21 rfl (h:=aZ 22 rfl (h:=aPT 23 rfl (h:=aM 24 rfl (h:=aZ 25 rfl (h:=?_)))))))))))))
 refine aZ 26 rfl (h:=aZ 27 rfl (h:=aZ 28 rfl (h:=aZ 29 rfl (h:=aZ 30 rfl (h:=aZ 31 rfl (h:=aZ 32 rfl (h:=aZ 33 rfl (h:=aZ 34 rfl (h:=aZ 35 rfl (h:=aZ 36 rfl (h:=aZ 37 rfl (h:=aPT 38 rfl (h:=?_)))))))))))))
 refine Zt kr kr ?_
 refine Ze (Zc (t:=true) rfl (fun _=>Za (xA (h:=Zg (Zz (Zm (ZG (Zz (Zm ?_)))))))) (fun h=>Bool.noConfusion h))
 exact Zy .ret (.inl rfl) [_] t1 ⟨Zd (Zbi hm hs (by simp [ZaN,Z1,DFolder.box,g1,g2,g3];try omega)).symm,rfl,rfl⟩
 try simp only [sQ,ne_eq] at g3
 refine aW 13 rfl ZfT (h:=aT 14 rfl (Z5 fun D=>Zu rfl rfl Zp5 rfl (atL 1 rfl rfl rfl) r4) (h:=aT 15 rfl (Z5 fun D=>ZQ rfl rfl ZtF rfl (Zlo _ _ _ _ hg5) r4) (h:=aN 16 rfl (h:=aPF 17 rfl (h:=aM 18 rfl (h:=Zab (d:=35) rfl (fun g4=>?_) (fun g4=>?_)))))))
 try simp only [sQ,ne_eq] at g4
 refine aZ 19 rfl (h:=aZ 20 rfl (h:=aZ 21 rfl (h:=aZ 22 rfl (h:=aPT 23 rfl (h:=aM 24 rfl (h:=aZ 25 rfl (h:=aZ 26 rfl (h:=aZ 27 rfl (h:=aZ 28 rfl (h:=aZ 29 rfl (h:=aZ 30 rfl (h:=aZ 31 rfl (h:=?_)))))))))))))
 refine aZ 32 rfl (h:=aZ 33 rfl (h:=aZ 34 rfl (h:=aZ 35 rfl (h:=aZ 36 rfl (h:=aZ 37 rfl (h:=aPT 38 rfl (h:=Zt kr kr ?_)))))))
 refine Ze (Zc (t:=true) rfl (fun _=>Za (xA (h:=Zg (Zz (Zm (ZG (Zz (Zm ?_)))))))) (fun h=>Bool.noConfusion h))
 exact Zy .ret (.inl rfl) [_] t1 ⟨Zd (Zbi hm hs (by simp [ZaN,Z1,DFolder.box,g1,g2,g3,g4];try omega)).symm,rfl,rfl⟩
 try simp only [sQ,ne_eq] at g4
 refine aW 19 rfl ZfS (h:=aT 20 rfl (Z5 fun D=>ZK [_,_] rfl rfl ZnA rfl (Zby 1 rfl rfl rfl) r4) (h:=aT 21 rfl (Z5 fun D=>ZQ rfl rfl ZtE rfl (Zln _ _ (⟨m.next,m.mail⟩:DBox) _ hm5) r4) (h:=aN 22 rfl (h:=aPF 23 rfl (h:=aM 24 rfl (h:=Zab (d:=41) rfl (fun g5=>?_) (fun g5=>?_)))))))
 try simp only [sQ,ne_eq] at g5
 refine aZ 25 rfl (h:=aZ 26 rfl (h:=aZ 27 rfl (h:=aZ 28 rfl (h:=aZ 29 rfl (h:=aZ 30 rfl (h:=aZ 31 rfl (h:=aZ 32 rfl (h:=aZ 33 rfl (h:=aZ 34 rfl (h:=aZ 35 rfl (h:=aZ 36 rfl (h:=aZ 37 rfl (h:=?_)))))))))))))
 refine aPT 38 rfl (h:=Zt kr kr ?_)
 refine Ze (Zc (t:=true) rfl (fun _=>Za (xA (h:=Zg (Zz (Zm (ZG (Zz (Zm ?_)))))))) (fun h=>Bool.noConfusion h))
 exact Zy .ret (.inl rfl) [_] t1 ⟨Zd (Zbi hm hs (by simp [ZaN,Z1,DFolder.box,g1,g2,g3,g4,g5];try omega)).symm,rfl,rfl⟩
 try simp only [sQ,ne_eq] at g5
 refine aM 25 rfl (h:=ZmN 26 rfl (h:=aM 27 rfl (h:=Zab (d:=44) rfl (fun g6=>?_) (fun g6=>?_))))
 try simp only [sQ,ne_eq] at g6
 refine aW 28 rfl ZaA (h:=aT 29 rfl (Z5 fun D=>Zu rfl rfl Zfh rfl (atL 0 rfl rfl rfl) r4) (h:=aM 30 rfl (h:=aU 31 rfl (h:=?_))))
 obtain ⟨y,hy⟩:=ZqS (xs:=x.folders) (i:=(↑g.1 - 1)) om om
 obtain ⟨_,⟨qg12,cg12,qm12,cm12,rfl,hg12,hm12,hb12,hb12b⟩,hc12⟩:=hf.elem hy
 have hg12n:=hg12.len
 have hm12n:=hm12.len
 have hm12s:=Zam hm12
 refine aIx 32 rfl Tryz.underlying37 ZeU (h:=?_)
 have hpe:=hp.at hy oz
 refine aT 33 rfl (Z5 fun D=>ZK [_,_,_,_,_] rfl rfl ZiR rfl (Zka hc12 0 rfl rfl) r4) (h:=aT 34 rfl (Z5 fun D=>ZK [_,_,_,_,_] rfl rfl ZiR rfl (Zby 1 rfl rfl rfl) r4) (h:=aT 35 rfl (Z5 fun D=>ZQ rfl rfl ZtD rfl (ZlU y m _ _ _ _ _ _ _ _ _) r4) (h:=aN 36 rfl (h:=aPT 37 rfl (h:=aPF 38 rfl (h:=Zt kr kr ?_))))))
 refine Ze (Zc rfl (fun g7=>?_) (fun g7=>?_))
 try simp only [sQ,ne_eq] at g7
 refine Za (xA (h:=Zg (Zz (Zm (ZG (Zz (Zm ?_)))))))
 exact Zy .ret (.inl rfl) [_] t1 ⟨Zd (Zbi hm hs (by simp [ZaN,Z1,DFolder.box,g1,g2,g3,g4,g5,g6,g7,hpe];try omega)).symm,rfl,rfl⟩
 try simp only [sQ,ne_eq] at g7
 refine Zh (ZR (Ze (Zo (xM (h:=xD (h:=xA (h:=?_)))))))
 exact ZH (g.1+1,some m) [0] so2 ⟨rfl,oz,Zbv hm hs (by rw [hpe];simp [ZaN,Z1,DFolder.box,g3,g4,g5,g7];omega),.succ hm⟩ t3 rfl
 try simp only [sQ,ne_eq] at g6
 refine aZ 28 rfl (h:=aZ 29 rfl (h:=aZ 30 rfl (h:=aZ 31 rfl (h:=aZ 32 rfl (h:=aZ 33 rfl (h:=aZ 34 rfl (h:=aZ 35 rfl (h:=aZ 36 rfl (h:=aPF 37 rfl (h:=aPF 38 rfl (h:=Zt kr kr ?_)))))))))))
 refine Ze (Zc (t:=false) rfl (fun h=>Bool.noConfusion h) (fun _=>Zh (ZR (Ze (Zo (xM (h:=xD (h:=xA (h:=?_)))))))))
 exact ZH (g.1+1,some m) [0] so2 ⟨rfl,oz,Zbv hm hs (by rw [hp.at0 oz];simp [ZaN,Z1,DFolder.box,g3,g4,g5];omega),.succ hm⟩ t3 rfl
 try simp only [sQ,ne_eq] at g1
 refine ZL (ZV (ZO (ZA (Ze (Za (xW ZaA (h:=x1 Zfh 0 (h:=xV Tryz.underlying37 (h:=Zbx (h:=xA (h:=Zg ?_)))))))))))
 exact Zy .ret (.inl rfl) [_] t1 ⟨Zd (by rw [Zhf (ZcQ hs oz),Bool.eq_iff_iff];simp;try omega),rfl,rfl⟩

end Go.Proofs.YtglldnolbfgppaaGreatDoor
