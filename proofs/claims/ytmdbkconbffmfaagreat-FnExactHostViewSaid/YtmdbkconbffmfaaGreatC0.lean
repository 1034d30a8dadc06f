/-
  WHAT THE FUNCTIONS THAT THE LAWS REACH COMPUTE: each function's contract, proved off its printed body (the text is written by program). No condition beyond those that each theorem states.
-/
import Derived.Test.YtmdbkconbffmfaaGreatRows
import Derived.Test.YtmdbkconbffmfaaGreatL0
import Derived.KernelRfl
namespace Go.Proofs.YtmdbkconbffmfaaGreat
open Go Go.BL
set_option linter.unusedVariables false
set_option linter.unusedSimpArgs false
noncomputable abbrev pj (J : JoinT) : PJ := ⟨Tryz.prog, J⟩
noncomputable abbrev wgL : Go.Conc.Lib.WgLink := { add := 104, done := 106, wait := 110, relMerge := 133, disable := 134, enable := 135, inBubble := 136, associate := 137, fatal := 138, uOr := 139, uAdd := 140, raceRead := 141, uLoad := 142, uStore := 143, disassociate := 144, semrelease := 145, acquire := 147, isAssociated := 148, uCas := 149, raceWrite := 150, semacquire := 151, orU64 := 167, addU64 := 168, loadU64 := 169, storeU64 := 170, casU64 := 172, tWg := 158, tUP := 188, tAssoc := 189, tAU := 155, tU64 := 153, tUint := 193, tU32 := 156, tNoCopy := 150, tANoCopy := 151, tAlign64 := 152, tWgP := 186, tPU32 := 194, tPAU := 219, tPU64 := 221 }
theorem Zj0 : Go.Conc.Lib.WgLib Tryz.prog wgL :=
  ⟨Tryz.func104, Tryz.func106, Tryz.func110, Tryz.func133, Tryz.func134, Tryz.func135, Tryz.func136, Tryz.func137, Tryz.func138, Tryz.func139, Tryz.func140, Tryz.func141, Tryz.func142, Tryz.func143, Tryz.func144, Tryz.func145, Tryz.func147, Tryz.func148, Tryz.func149, Tryz.func150, Tryz.func151, Tryz.func167, Tryz.func168, Tryz.func169, Tryz.func170, Tryz.func172, Tryz.underlying186, Tryz.runUnderlying186, Tryz.sizeOf186, Tryz.isAgg186, Tryz.zeroValue186, Tryz.underlying188, Tryz.runUnderlying188, Tryz.sizeOf188, Tryz.isAgg188, Tryz.zeroValue188, Tryz.underlying189, Tryz.runUnderlying189, Tryz.sizeOf189, Tryz.isAgg189, Tryz.zeroValue189, Tryz.underlying158, Tryz.runUnderlying158, Tryz.sizeOf158, Tryz.isAgg158, Tryz.zeroValue158, Tryz.underlying155, Tryz.runUnderlying155, Tryz.sizeOf155, Tryz.isAgg155, Tryz.zeroValue155, Tryz.underlying153, Tryz.runUnderlying153, Tryz.sizeOf153, Tryz.isAgg153, Tryz.zeroValue153, Tryz.underlying193, Tryz.runUnderlying193, Tryz.sizeOf193, Tryz.isAgg193, Tryz.zeroValue193, Tryz.underlying156, Tryz.runUnderlying156, Tryz.sizeOf156, Tryz.isAgg156, Tryz.zeroValue156, Tryz.underlying194, Tryz.runUnderlying194, Tryz.sizeOf194, Tryz.isAgg194, Tryz.zeroValue194, Tryz.underlying219, Tryz.runUnderlying219, Tryz.sizeOf219, Tryz.isAgg219, Tryz.zeroValue219, Tryz.underlying221, Tryz.runUnderlying221, Tryz.sizeOf221, Tryz.isAgg221, Tryz.zeroValue221, Tryz.underlying0, Tryz.runUnderlying0, Tryz.sizeOf0, Tryz.isAgg0, Tryz.zeroValue0, Tryz.underlying3, Tryz.runUnderlying3, Tryz.sizeOf3, Tryz.isAgg3, Tryz.zeroValue3, Tryz.underlying4, Tryz.runUnderlying4, Tryz.sizeOf4, Tryz.isAgg4, Tryz.zeroValue4, Tryz.underlying9, Tryz.runUnderlying9, Tryz.sizeOf9, Tryz.isAgg9, Tryz.zeroValue9, Tryz.underlying20, Tryz.runUnderlying20, Tryz.sizeOf20, Tryz.isAgg20, Tryz.zeroValue20, Tryz.underlying21, Tryz.runUnderlying21, Tryz.sizeOf21, Tryz.isAgg21, Tryz.zeroValue21, (by kernel_rfl), (by kernel_rfl)⟩
theorem ZpB : enters Tryz.prog 89 = true := by kernel_rfl
theorem mo : Tryz.prog.follows .mixedOrders = true := by kernel_rfl
theorem Zbm : Zy Tryz.prog 143 1 = some 1 := by kernel_rfl
theorem lk3 : lk Tryz.prog 3 = some none := by kernel_rfl
theorem ZfZ : Zy Tryz.prog 143 0 = some 0 := by kernel_rfl
theorem lk9 : lk Tryz.prog 9 = some none := by kernel_rfl
theorem ZsU : enters Tryz.prog 99 = true := by kernel_rfl
theorem sz3 : ZU Tryz.prog 3 = some 1 := by kernel_rfl
theorem ZtH : enters Tryz.prog 162 = true := by kernel_rfl
theorem Zrr : enters Tryz.prog 127 = true := by kernel_rfl
theorem ZtX : enters Tryz.prog 128 = true := by kernel_rfl
theorem Zsc : ZcX Tryz.prog 143 = some [(0, 1), (1, 1)] := by kernel_rfl
theorem ZoB : Zay Tryz.prog 143 = some (.agg #[.string ⟨#[]⟩, .int .i64 0]) := by kernel_rfl
theorem Zr7 : ZU Tryz.prog 143 = some 2 := by kernel_rfl
theorem sz9 : ZU Tryz.prog 9 = some 1 := by kernel_rfl
theorem zo9 : Zay Tryz.prog 9 = some (.string ⟨#[]⟩) := by kernel_rfl
theorem Zrm : ZcI Tryz.prog 103 9 1 16 = true := by kernel_rfl
theorem Zr9 : (match Program.underlying Tryz.prog 103 with | some (.slice _) => true | _ => false) = true := by kernel_rfl
theorem Zva : enters Tryz.prog 87 = true := by kernel_rfl
theorem Zrp : enters Tryz.prog 88 = true := by kernel_rfl
theorem ZbV : ZU Tryz.prog 101 = some 3 := by kernel_rfl
theorem ZaX : Zy Tryz.prog 101 0 = some 0 := by kernel_rfl
theorem ZtK : enters Tryz.prog 159 = true := by kernel_rfl
theorem ZnY : Zy Tryz.prog 135 0 = some 0 := by kernel_rfl
theorem ZkH : Zy Tryz.prog 135 1 = some 1 := by kernel_rfl
theorem Zgn : lk Tryz.prog 103 = some none := by kernel_rfl
theorem Zt2 : enters Tryz.prog 122 = true := by kernel_rfl
theorem ZnX : Zy Tryz.prog 135 2 = some 2 := by kernel_rfl
theorem ZtA : enters Tryz.prog 174 = true := by kernel_rfl
theorem ZjJ : enters Tryz.prog 107 = true := by kernel_rfl
theorem ZtG : enters Tryz.prog 163 = true := by kernel_rfl
theorem ZtW : enters Tryz.prog 129 = true := by kernel_rfl
theorem Zdl : Zy Tryz.prog 42 1 = some 1 := by kernel_rfl
theorem Zmw : lk Tryz.prog 40 = some none := by kernel_rfl
theorem Zc3 : ZU Tryz.prog 105 = some 4 := by kernel_rfl
theorem ZhB : lk Tryz.prog 105 = some (some 4) := by kernel_rfl
theorem Zh9 : Zay Tryz.prog 105 = some (.agg #[.int .i64 0, .string ⟨#[]⟩, .string ⟨#[]⟩, .slice none 0 0]) := by kernel_rfl
theorem Zeg : Zy Tryz.prog 105 0 = some 0 := by kernel_rfl
theorem Zef : Zy Tryz.prog 105 1 = some 1 := by kernel_rfl
theorem Zee : Zy Tryz.prog 105 3 = some 3 := by kernel_rfl
theorem Zf0 : Zy Tryz.prog 105 2 = some 2 := by kernel_rfl
theorem Zsd : ZcX Tryz.prog 135 = some [(0, 1), (1, 1), (2, 1)] := by kernel_rfl
theorem ZrK : Zay Tryz.prog 135 = some (.agg #[.string ⟨#[]⟩, .slice none 0 0, .string ⟨#[]⟩]) := by kernel_rfl
theorem Zu9 : enters Tryz.prog 90 = true := by kernel_rfl
theorem Zhi : Zy Tryz.prog 42 0 = some 0 := by kernel_rfl
theorem Zez : lk Tryz.prog 183 = some none := by kernel_rfl
theorem zo3 : Zay Tryz.prog 3 = some (.int .i64 0) := by kernel_rfl
theorem Ztr : ZcI Tryz.prog 183 3 1 8 = true := by kernel_rfl
theorem Ztf : (match Program.underlying Tryz.prog 183 with | some (.slice _) => true | _ => false) = true := by kernel_rfl
theorem Zr5 : ZU Tryz.prog 183 = some 1 := by kernel_rfl
theorem Zdh : Zik Tryz.prog 181 "Less" 192 false = true := by kernel_rfl
theorem Zod : enters Tryz.prog 192 = true := by kernel_rfl
theorem Zdg : Zik Tryz.prog 181 "Swap" 195 false = true := by kernel_rfl
theorem Zoc : enters Tryz.prog 195 = true := by kernel_rfl
theorem Zl3 : Zik Tryz.prog 181 "Push" 194 true = true := by kernel_rfl
theorem Zty : enters Tryz.prog 194 = true := by kernel_rfl
theorem Zji : Zik Tryz.prog 181 "Len" 191 false = true := by kernel_rfl
theorem Zsx : enters Tryz.prog 191 = true := by kernel_rfl
theorem ZtF : enters Tryz.prog 164 = true := by kernel_rfl
theorem ZtE : enters Tryz.prog 165 = true := by kernel_rfl
theorem Zns : Zik Tryz.prog 181 "Pop" 193 true = true := by kernel_rfl
theorem Ztz : enters Tryz.prog 193 = true := by kernel_rfl
theorem ZtV : enters Tryz.prog 130 = true := by kernel_rfl
theorem ZtU : enters Tryz.prog 131 = true := by kernel_rfl
theorem Zuh : enters Tryz.prog 101 = true := by kernel_rfl
theorem Zug : enters Tryz.prog 102 = true := by kernel_rfl
theorem Zb9 : Zy Tryz.prog 126 0 = some 0 := by kernel_rfl
theorem Ze4 : Zy Tryz.prog 126 1 = some 1 := by kernel_rfl
theorem ZtJ : enters Tryz.prog 160 = true := by kernel_rfl
theorem ZdM : Zy Tryz.prog 126 2 = some 2 := by kernel_rfl
theorem ZtC : enters Tryz.prog 171 = true := by kernel_rfl
theorem Zbu : Zy Tryz.prog 33 1 = some 1 := by kernel_rfl
theorem ZiO : lk Tryz.prog 31 = some none := by kernel_rfl
theorem Zcv : ZU Tryz.prog 126 = some 3 := by kernel_rfl
theorem Zjq : lk Tryz.prog 126 = some (some 3) := by kernel_rfl
theorem Zt1 : enters Tryz.prog 123 = true := by kernel_rfl
theorem ZfA : Zy Tryz.prog 33 0 = some 0 := by kernel_rfl
theorem Zh8 : Zay Tryz.prog 126 = some (.agg #[.int .i64 0, .int .i64 0, .string ⟨#[]⟩]) := by kernel_rfl
theorem ZtS : enters Tryz.prog 146 = true := by kernel_rfl
theorem ZiN : lk Tryz.prog 33 = some (some 2) := by kernel_rfl
theorem ZsA : enters Tryz.prog 109 = true := by kernel_rfl
theorem Zf1 : Zy Tryz.prog 101 1 = some 1 := by kernel_rfl
theorem ZdN : Zy Tryz.prog 101 2 = some 2 := by kernel_rfl
theorem ZeA : lk Tryz.prog 101 = some (some 3) := by kernel_rfl
theorem ZfH : Zay Tryz.prog 101 = some (.agg #[.string ⟨#[]⟩, .string ⟨#[]⟩, .int .i64 0]) := by kernel_rfl
theorem Zui : enters Tryz.prog 100 = true := by kernel_rfl
theorem ZuE : enters Tryz.prog 68 = true := by kernel_rfl
theorem Zti : ZcX Tryz.prog 101 = some [(0, 1), (1, 1), (2, 1)] := by kernel_rfl
theorem ZtN : enters Tryz.prog 156 = true := by kernel_rfl
theorem ZtM : enters Tryz.prog 157 = true := by kernel_rfl
theorem ZbI : Zy Tryz.prog 44 1 = some 1 := by kernel_rfl
theorem ZiM : lk Tryz.prog 38 = some none := by kernel_rfl
theorem Zsy : enters Tryz.prog 118 = true := by kernel_rfl
theorem Zar : Zy Tryz.prog 44 2 = some 2 := by kernel_rfl
theorem Zd7 : lk Tryz.prog 39 = some none := by kernel_rfl
theorem ZaQ : ZU Tryz.prog 35 = some 5 := by kernel_rfl
theorem Za0 : Zy Tryz.prog 35 0 = some 0 := by kernel_rfl
theorem ZbP : Zy Tryz.prog 35 1 = some 1 := by kernel_rfl
theorem Zcd : lk Tryz.prog 35 = some (some 5) := by kernel_rfl
theorem Zvm : enters Tryz.prog 74 = true := by kernel_rfl
theorem Zvl : enters Tryz.prog 75 = true := by kernel_rfl
theorem Zfz : Zy Tryz.prog 44 3 = some 3 := by kernel_rfl
theorem ZsV : enters Tryz.prog 83 = true := by kernel_rfl
theorem ZbO : ZU Tryz.prog 117 = some 2 := by kernel_rfl
theorem ZbK : Zy Tryz.prog 117 0 = some 0 := by kernel_rfl
theorem ZcH : Zy Tryz.prog 117 1 = some 1 := by kernel_rfl
theorem ZrG : enters Tryz.prog 46 = true := by kernel_rfl
theorem ZbJ : Zy Tryz.prog 35 3 = some 3 := by kernel_rfl
theorem Zu5 : enters Tryz.prog 94 = true := by kernel_rfl
theorem Zca : Zay Tryz.prog 35 = some (.agg #[.string ⟨#[]⟩, .string ⟨#[]⟩, .slice none 0 0, .int .i64 0, .slice none 0 0]) := by kernel_rfl
theorem Zce : Zy Tryz.prog 35 2 = some 2 := by kernel_rfl
theorem Zmx : lk Tryz.prog 30 = some none := by kernel_rfl
theorem Zu8 : enters Tryz.prog 91 = true := by kernel_rfl
theorem Zu7 : enters Tryz.prog 92 = true := by kernel_rfl
theorem Zu6 : enters Tryz.prog 93 = true := by kernel_rfl
theorem ZjE : Zy Tryz.prog 44 0 = some 0 := by kernel_rfl
theorem ZvC : enters Tryz.prog 57 = true := by kernel_rfl
theorem ZvB : enters Tryz.prog 58 = true := by kernel_rfl
theorem ZqW : lk Tryz.prog 42 = some (some 2) := by kernel_rfl
theorem ZvA : enters Tryz.prog 59 = true := by kernel_rfl
theorem Ze7 : lk Tryz.prog 44 = some (some 5) := by kernel_rfl
theorem Zvz : enters Tryz.prog 60 = true := by kernel_rfl
theorem Ztv : enters Tryz.prog 28 = true := by kernel_rfl
theorem Zvy : enters Tryz.prog 61 = true := by kernel_rfl
theorem Zvx : enters Tryz.prog 62 = true := by kernel_rfl
theorem Znz : lk Tryz.prog 117 = some (some 2) := by kernel_rfl
theorem ZfG : Zay Tryz.prog 117 = some (.agg #[.string ⟨#[]⟩, .int .i64 0]) := by kernel_rfl
theorem ZtO : enters Tryz.prog 155 = true := by kernel_rfl
theorem Zsz : enters Tryz.prog 117 = true := by kernel_rfl
theorem Zsu : Extern.findNext Tryz.f166 = none := by kernel_rfl
theorem Zsv : Extern.find Tryz.f166 = some Extern.BytealgCompare.compare := by kernel_rfl
theorem ZtT : enters Tryz.prog 132 = true := by kernel_rfl
theorem ZsB : enters Tryz.prog 103 = true := by kernel_rfl
theorem ZtB : enters Tryz.prog 173 = true := by kernel_rfl
theorem ZtQ : enters Tryz.prog 153 = true := by kernel_rfl
theorem Ztu : enters Tryz.prog 34 = true := by kernel_rfl
theorem Zua : enters Tryz.prog 112 = true := by kernel_rfl
theorem sz4 : ZU Tryz.prog 4 = some 1 := by kernel_rfl
theorem lk4 : lk Tryz.prog 4 = some none := by kernel_rfl
theorem ZtR : enters Tryz.prog 152 = true := by kernel_rfl
theorem Zu1 : enters Tryz.prog 98 = true := by kernel_rfl
theorem Zsk : lk Tryz.prog 148 = some none := by kernel_rfl
theorem ZqX : lk Tryz.prog 112 = some none := by kernel_rfl
theorem Zue : enters Tryz.prog 108 = true := by kernel_rfl
theorem ZsZ : Zay Tryz.prog 158 = some (.agg #[.int .u64 0, .int .u32 0]) := by kernel_rfl
theorem Zts : ZcI Tryz.prog 148 4 1 1 = true := by kernel_rfl
theorem zo4 : Zay Tryz.prog 4 = some (.bool false) := by kernel_rfl
theorem Zs0 : Zay Tryz.prog 148 = some (.slice none 0 0) := by kernel_rfl
theorem Ztd : ZU Tryz.prog 148 = some 1 := by kernel_rfl
theorem Zuf : enters Tryz.prog 104 = true := by kernel_rfl
theorem Zuc : enters Tryz.prog 110 = true := by kernel_rfl
theorem Zub : enters Tryz.prog 111 = true := by kernel_rfl
theorem Zvs : enters Tryz.prog 67 = true := by kernel_rfl
theorem Zvr : enters Tryz.prog 69 = true := by kernel_rfl
theorem Zvq : enters Tryz.prog 70 = true := by kernel_rfl
theorem Zvp : enters Tryz.prog 71 = true := by kernel_rfl
theorem Zvo : enters Tryz.prog 72 = true := by kernel_rfl
theorem Zvn : enters Tryz.prog 73 = true := by kernel_rfl
theorem Zqh : Zy Tryz.prog 89 0 = some 0 := by kernel_rfl
theorem Zqg : Zy Tryz.prog 89 1 = some 1 := by kernel_rfl
theorem ZnW : Zy Tryz.prog 172 0 = some 0 := by kernel_rfl
theorem ZnV : Zy Tryz.prog 208 2 = some 2 := by kernel_rfl
theorem Zup : ZU Tryz.prog 89 = some 3 := by kernel_rfl
theorem Zuy : lk Tryz.prog 89 = some (some 3) := by kernel_rfl
theorem ZvF : enters Tryz.prog 54 = true := by kernel_rfl
theorem Zr6 : ZU Tryz.prog 172 = some 2 := by kernel_rfl
theorem Zsj : lk Tryz.prog 172 = some (some 2) := by kernel_rfl
theorem Zt6 : enters Tryz.prog 119 = true := by kernel_rfl
theorem Zr4 : ZU Tryz.prog 208 = some 3 := by kernel_rfl
theorem Zsi : lk Tryz.prog 208 = some (some 3) := by kernel_rfl
theorem ZtL : enters Tryz.prog 158 = true := by kernel_rfl
theorem Zn1 : Zy Tryz.prog 130 1 = some 1 := by kernel_rfl
theorem Zn0 : Zy Tryz.prog 130 2 = some 2 := by kernel_rfl
theorem ZnZ : Zy Tryz.prog 130 3 = some 3 := by kernel_rfl
theorem Zt3 : enters Tryz.prog 121 = true := by kernel_rfl
theorem Zr8 : ZU Tryz.prog 130 = some 4 := by kernel_rfl
theorem Zsl : lk Tryz.prog 130 = some (some 4) := by kernel_rfl
theorem Zvb : enters Tryz.prog 86 = true := by kernel_rfl
theorem Zqf : Zy Tryz.prog 94 1 = some 1 := by kernel_rfl
theorem Zuw : lk Tryz.prog 92 = some none := by kernel_rfl
theorem Zt4 : enters Tryz.prog 120 = true := by kernel_rfl
theorem Zqp : Zy Tryz.prog 26 1 = some 1 := by kernel_rfl
theorem ZuB : lk Tryz.prog 24 = some none := by kernel_rfl
theorem ZvD : enters Tryz.prog 56 = true := by kernel_rfl
theorem Zqe : Zy Tryz.prog 96 0 = some 0 := by kernel_rfl
theorem Zqd : Zy Tryz.prog 96 1 = some 1 := by kernel_rfl
theorem Zqc : Zy Tryz.prog 96 2 = some 2 := by kernel_rfl
theorem Zux : lk Tryz.prog 91 = some none := by kernel_rfl
theorem Zvd : enters Tryz.prog 84 = true := by kernel_rfl
theorem Zqb : Zy Tryz.prog 96 3 = some 3 := by kernel_rfl
theorem Zuv : lk Tryz.prog 94 = some (some 2) := by kernel_rfl
theorem Zvc : enters Tryz.prog 85 = true := by kernel_rfl
theorem Zuo : ZU Tryz.prog 96 = some 5 := by kernel_rfl
theorem Zuu : lk Tryz.prog 96 = some (some 5) := by kernel_rfl
theorem ZvE : enters Tryz.prog 55 = true := by kernel_rfl
theorem Zqo : Zy Tryz.prog 28 0 = some 0 := by kernel_rfl
theorem Zqn : Zy Tryz.prog 28 1 = some 1 := by kernel_rfl
theorem ZuD : lk Tryz.prog 22 = some none := by kernel_rfl
theorem ZvU : enters Tryz.prog 24 = true := by kernel_rfl
theorem Zqm : Zy Tryz.prog 28 2 = some 2 := by kernel_rfl
theorem ZuC : lk Tryz.prog 23 = some none := by kernel_rfl
theorem ZvT : enters Tryz.prog 25 = true := by kernel_rfl
theorem Zql : Zy Tryz.prog 28 3 = some 3 := by kernel_rfl
theorem ZuA : lk Tryz.prog 26 = some (some 2) := by kernel_rfl
theorem ZvS : enters Tryz.prog 26 = true := by kernel_rfl
theorem Zsq : Zy Tryz.prog 89 2 = some 2 := by kernel_rfl
theorem Zrh : Zy Tryz.prog 172 1 = some 1 := by kernel_rfl
theorem Zrg : Zy Tryz.prog 208 0 = some 0 := by kernel_rfl
theorem Zrf : Zy Tryz.prog 208 1 = some 1 := by kernel_rfl
theorem ZuZ : ZcI Tryz.prog 38 101 3 40 = true := by kernel_rfl
theorem Zvv : enters Tryz.prog 64 = true := by kernel_rfl
theorem Ztq : ZcI Tryz.prog 30 117 2 24 = true := by kernel_rfl
theorem Zt0 : enters Tryz.prog 124 = true := by kernel_rfl
theorem Ztp : ZcI Tryz.prog 31 126 3 32 = true := by kernel_rfl
theorem ZtI : enters Tryz.prog 161 = true := by kernel_rfl
theorem Zri : Zy Tryz.prog 130 0 = some 0 := by kernel_rfl
theorem ZtY : enters Tryz.prog 126 = true := by kernel_rfl
theorem Zte : ZU Tryz.prog 103 = some 1 := by kernel_rfl
theorem ZuY : ZcI Tryz.prog 40 105 4 64 = true := by kernel_rfl
theorem Zu2 : enters Tryz.prog 97 = true := by kernel_rfl
theorem Zum : Zay Tryz.prog 42 = some (.agg #[.int .i64 0, .slice none 0 0]) := by kernel_rfl
theorem Zst : Zy Tryz.prog 26 0 = some 0 := by kernel_rfl
theorem Zvt : enters Tryz.prog 66 = true := by kernel_rfl
theorem ZuR : ZU Tryz.prog 40 = some 1 := by kernel_rfl
theorem Zuq : ZU Tryz.prog 42 = some 2 := by kernel_rfl
theorem Zqw : Zay Tryz.prog 33 = some (.agg #[.int .i64 0, .slice none 0 0]) := by kernel_rfl
theorem Zsp : Zy Tryz.prog 94 0 = some 0 := by kernel_rfl
theorem ZtZ : enters Tryz.prog 125 = true := by kernel_rfl
theorem Zur : ZU Tryz.prog 31 = some 1 := by kernel_rfl
theorem ZrD : ZU Tryz.prog 33 = some 2 := by kernel_rfl
theorem Zu4 : enters Tryz.prog 95 = true := by kernel_rfl
theorem ZsR : ZU Tryz.prog 30 = some 1 := by kernel_rfl
theorem Zu3 : enters Tryz.prog 96 = true := by kernel_rfl
theorem ZoA : ZcI Tryz.prog 39 35 5 88 = true := by kernel_rfl
theorem Zvu : enters Tryz.prog 65 = true := by kernel_rfl
theorem ZrJ : Zay Tryz.prog 44 = some (.agg #[.string ⟨#[]⟩, .slice none 0 0, .slice none 0 0, .int .i64 0, .slice none 0 0]) := by kernel_rfl
theorem ZvR : enters Tryz.prog 30 = true := by kernel_rfl
theorem ZuT : ZU Tryz.prog 38 = some 1 := by kernel_rfl
theorem ZvQ : enters Tryz.prog 31 = true := by kernel_rfl
theorem ZuS : ZU Tryz.prog 39 = some 1 := by kernel_rfl
theorem ZvP : enters Tryz.prog 32 = true := by kernel_rfl
theorem ZsQ : ZU Tryz.prog 44 = some 5 := by kernel_rfl
theorem Zvi : enters Tryz.prog 78 = true := by kernel_rfl
theorem Zvk : enters Tryz.prog 76 = true := by kernel_rfl
theorem Zt9 : enters Tryz.prog 113 = true := by kernel_rfl
theorem ZtP : enters Tryz.prog 154 = true := by kernel_rfl
theorem Zt8 : enters Tryz.prog 114 = true := by kernel_rfl
theorem Zvh : enters Tryz.prog 79 = true := by kernel_rfl
theorem Zvj : enters Tryz.prog 77 = true := by kernel_rfl
theorem ZvO : enters Tryz.prog 36 = true := by kernel_rfl
theorem ZvN : enters Tryz.prog 37 = true := by kernel_rfl
theorem ZsX : enters Tryz.prog 10 = true := by kernel_rfl
theorem ZvM : enters Tryz.prog 38 = true := by kernel_rfl
theorem Zrq : enters Tryz.prog 19 = true := by kernel_rfl
theorem ZvL : enters Tryz.prog 39 = true := by kernel_rfl
theorem Zus : (match Program.underlying Tryz.prog 31 with | some (.slice _) => true | _ => false) = true := by kernel_rfl
theorem Zth : ZcX Tryz.prog 33 = some [(0, 1), (1, 1)] := by kernel_rfl
theorem Zut : (match Program.underlying Tryz.prog 30 with | some (.slice _) => true | _ => false) = true := by kernel_rfl
theorem Zsw : enters Tryz.prog 53 = true := by kernel_rfl
theorem ZrH : enters Tryz.prog 33 = true := by kernel_rfl
theorem Zlk : ZcX Tryz.prog 35 = some [(0, 1), (1, 1), (2, 1), (3, 2)] := by kernel_rfl
theorem ZuJ : enters Tryz.prog 35 = true := by kernel_rfl
theorem sz5 : ZU Tryz.prog 5 = some 1 := by kernel_rfl
theorem zo5 : Zay Tryz.prog 5 = some (.int .u8 0) := by kernel_rfl
theorem Zmm : enters Tryz.prog 49 = true := by kernel_rfl
theorem Zrs : enters Tryz.prog 116 = true := by kernel_rfl
theorem Zvf : enters Tryz.prog 81 = true := by kernel_rfl
theorem Ztt : enters Tryz.prog 47 = true := by kernel_rfl
theorem Zvw : enters Tryz.prog 63 = true := by kernel_rfl
theorem Ztw : enters Tryz.prog 27 = true := by kernel_rfl
theorem ZuK : enters Tryz.prog 29 = true := by kernel_rfl
theorem Zve : enters Tryz.prog 82 = true := by kernel_rfl
theorem ZjD : Zy Tryz.prog 55 0 = some 0 := by kernel_rfl
theorem ZrF : enters Tryz.prog 48 = true := by kernel_rfl
theorem ZoT : (match Program.underlying Tryz.prog 39 with | some (.slice _) => true | _ => false) = true := by kernel_rfl
theorem ZvG : enters Tryz.prog 52 = true := by kernel_rfl
theorem Zqk : Zy Tryz.prog 52 0 = some 0 := by kernel_rfl
theorem Zqj : Zy Tryz.prog 52 1 = some 1 := by kernel_rfl
theorem Zqi : Zy Tryz.prog 52 2 = some 2 := by kernel_rfl
theorem Zul : Zay Tryz.prog 55 = some (.agg #[.string ⟨#[]⟩, .string ⟨#[]⟩, .string ⟨#[]⟩]) := by kernel_rfl
theorem Zss : Zy Tryz.prog 55 1 = some 1 := by kernel_rfl
theorem Zsr : Zy Tryz.prog 55 2 = some 2 := by kernel_rfl
theorem Zuz : lk Tryz.prog 55 = some (some 3) := by kernel_rfl
theorem ZuQ : ZU Tryz.prog 55 = some 3 := by kernel_rfl
theorem ZuI : enters Tryz.prog 42 = true := by kernel_rfl
theorem ZuG : enters Tryz.prog 50 = true := by kernel_rfl
theorem Zt7 : enters Tryz.prog 115 = true := by kernel_rfl
theorem ZvI : enters Tryz.prog 43 = true := by kernel_rfl
theorem Zvg : enters Tryz.prog 80 = true := by kernel_rfl
theorem ZvK : enters Tryz.prog 40 = true := by kernel_rfl
theorem Ztx : enters Tryz.prog 20 = true := by kernel_rfl
theorem ZvJ : enters Tryz.prog 41 = true := by kernel_rfl
theorem ZuH : enters Tryz.prog 44 = true := by kernel_rfl
theorem ZuF : enters Tryz.prog 51 = true := by kernel_rfl
theorem ZvH : enters Tryz.prog 45 = true := by kernel_rfl
theorem Zky : lk Tryz.prog 28 = some (some 5) := by kernel_rfl
theorem en6 : enters Tryz.prog 6 = true := by kernel_rfl
theorem en8 : enters Tryz.prog 8 = true := by kernel_rfl
theorem en7 : enters Tryz.prog 7 = true := by kernel_rfl
theorem en9 : enters Tryz.prog 9 = true := by kernel_rfl
theorem Zud : enters Tryz.prog 11 = true := by kernel_rfl
theorem Zt5 : enters Tryz.prog 12 = true := by kernel_rfl
theorem ZvY : enters Tryz.prog 13 = true := by kernel_rfl
theorem ZuN : enters Tryz.prog 14 = true := by kernel_rfl
theorem ZsT : lk Tryz.prog 52 = some (some 3) := by kernel_rfl
theorem ZvX : enters Tryz.prog 15 = true := by kernel_rfl
theorem ZtD : enters Tryz.prog 17 = true := by kernel_rfl
theorem ZvW : enters Tryz.prog 16 = true := by kernel_rfl
theorem ZuM : enters Tryz.prog 18 = true := by kernel_rfl
theorem ZsW : enters Tryz.prog 21 = true := by kernel_rfl
theorem ZvV : enters Tryz.prog 22 = true := by kernel_rfl
theorem ZuL : enters Tryz.prog 23 = true := by kernel_rfl
set_option maxRecDepth 4000
variable {J : JoinT}
abbrev cur (b : Nat) (l : List UInt8) (i : Nat) : Cells := ZaK b [str l, .int .i64 i] 143
set_option maxHeartbeats 400000 in
theorem Zft (n lo hi:Int) (B:Kn):Zaa (pj J) 89 [.int .i64 n,.int .i64 lo,.int .i64 hi] B (.bool (decide (lo≤n) && decide (n≤hi))):=by
 refine Zb 15 Tryz.func89 rfl rfl rfl (Nat.le_of_ble_eq_true rfl) ?_
 refine Za (xA (h:=ZX [(0,_),(1,_),(2,_),(6,_)] t4 (Za (xM (h:=xM (h:=ZdW (h:=xM (h:=Zw (d:=10) rfl (fun g1=>?_) (fun g1=>?_)))))))))
 try simp only [sQ,ne_eq] at g1
 refine xM (h:=xM (h:=ZbQ (h:=xT (h:=xA (h:=ZX [(0,_),(1,_),(2,_),(6,_)] t4 (Zi ?_))))))
 exact ZB .ret (.inl rfl) [_] t1 ⟨by exact Zh (by rw [Bool.eq_iff_iff];simp [];omega),rfl,rfl⟩
 try simp only [sQ,ne_eq] at g1
 refine xP (h:=xP (h:=xP (h:=xF (h:=xA (h:=ZX [(0,_),(1,_),(2,_),(6,_)] t4 (Zi ?_))))))
 exact ZB .ret (.inl rfl) [_] t1 ⟨by exact Zh (by rw [Bool.eq_iff_iff];simp [];omega),rfl,rfl⟩

set_option maxHeartbeats 400000 in
theorem Zl2 (c:UInt8) (B:Kn):Zaa (pj J) 162 [.int .u8 c.toNat] B (.bool (ZaW c)):=by
 refine Zb 17 Tryz.func162 rfl rfl rfl (Nat.le_of_ble_eq_true rfl) ?_
 refine Za (xA (h:=ZX [(0,_),(2,_)] t2 (Za (xM (h:=ZdW (h:=xM (h:=Zw (d:=5) rfl (fun g1=>?_) (fun g1=>?_))))))))
 try simp only [sQ,ne_eq] at g1
 refine xM (h:=ZbQ (h:=xT (h:=xM (h:=Zw (d:=9) rfl (fun g2=>?_) (fun g2=>?_)))))
 try simp only [sQ,ne_eq] at g2
 refine xP (h:=xP (h:=xP (h:=xP (h:=xP (h:=xP (h:=xT (h:=xA (h:=ZX [(0,_),(2,_)] t2 (Zi ?_)))))))))
 exact ZB .ret (.inl rfl) [_] t1 ⟨by exact Zh (by rw [Bool.eq_iff_iff];simp [ZaW];omega),rfl,rfl⟩
 try simp only [sQ,ne_eq] at g2
 refine xM (h:=ZdW (h:=xM (h:=Zw (d:=12) rfl (fun g3=>?_) (fun g3=>?_))))
 try simp only [sQ,ne_eq] at g3
 refine xM (h:=ZbQ (h:=xT (h:=xF (h:=xA (h:=ZX [(0,_),(2,_)] t2 (Zi ?_))))))
 exact ZB .ret (.inl rfl) [_] t1 ⟨by exact Zh (by rw [Bool.eq_iff_iff];simp [ZaW];omega),rfl,rfl⟩
 try simp only [sQ,ne_eq] at g3
 refine xP (h:=xP (h:=xF (h:=xF (h:=xA (h:=ZX [(0,_),(2,_)] t2 (Zi ?_))))))
 exact ZB .ret (.inl rfl) [_] t1 ⟨by exact Zh (by rw [Bool.eq_iff_iff];simp [ZaW];omega),rfl,rfl⟩
 try simp only [sQ,ne_eq] at g1
 refine xP (h:=xP (h:=xF (h:=xM (h:=xM (h:=ZdW (h:=xM (h:=Zw (d:=12) rfl (fun g4=>?_) (fun g4=>?_))))))))
 try simp only [sQ,ne_eq] at g4
 refine xM (h:=ZbQ (h:=xT (h:=xF (h:=xA (h:=ZX [(0,_),(2,_)] t2 (Zi ?_))))))
 exact ZB .ret (.inl rfl) [_] t1 ⟨by exact Zh (by rw [Bool.eq_iff_iff];simp [ZaW];omega),rfl,rfl⟩
 try simp only [sQ,ne_eq] at g4
 refine xP (h:=xP (h:=xF (h:=xF (h:=xA (h:=ZX [(0,_),(2,_)] t2 (Zi ?_))))))
 exact ZB .ret (.inl rfl) [_] t1 ⟨by exact Zh (by rw [Bool.eq_iff_iff];simp [ZaW];omega),rfl,rfl⟩

set_option maxHeartbeats 400000 in
theorem ZbW (l:List UInt8) (hl:l.length≤2000000) (B:Kn):Zaa (pj J) 88 [str l] B (.bool (Zak l)):=by
 refine Zb 37 Tryz.func88 rfl rfl rfl (Nat.le_of_ble_eq_true rfl) ?_
 refine Za (xA (h:=ZX [(0,_),(2,_)] t2 (Zg (Za (xA (h:=ZX [(0,_),(2,_),(3,_)] t3 (Zl (ZiR (α:=Nat) (fun k=>[(0,str l),(3,.int .i64 k)]) (fun k=>[]) (fun k Bx=>Bx=B∧k≤l.length∧(l.take k).all ZaW=true) (fun k=>l.length - k) 0 t2 rfl (⟨rfl,Nat.zero_le _,by simp⟩) (fun k B1 hle1 hI=>?_)))))))))
 obtain ⟨rfl,hk,ha⟩:=hI
 refine Zg (Za (xM (h:=xM (h:=xVs Tryz.underlying9 (h:=ZF (h:=ZX [(0,_),(3,_),(7,_)] t3 (Zc rfl (fun g1=>?_) (fun g1=>?_))))))))
 try simp only [sQ,ne_eq] at g1
 obtain ⟨c,hc⟩ :∃c,l[k]? = some c:=⟨_,List.getElem?_eq_getElem oz⟩
 refine Zf (Zd (Zg (Zl (ZlJ 33 (!(ZaW c)) [0,3,7] ?_ ?_))))
 refine xM (h:=xM (h:=Zo (Zdv rfl rfl Tryz.underlying9 rfl rfl oz (by simpa using hc) ?_)))
 refine ZdW (h:=xM (h:=Zw (d:=14) rfl (fun g1=>?_) (fun g1=>?_)))
 try simp only [sQ,ne_eq] at g1
 refine xM (h:=xM (h:=Zo (Zdv rfl rfl Tryz.underlying9 rfl rfl oz (by simpa using hc) ?_)))
 refine ZbQ (h:=xT (h:=xN (h:=xM (h:=Zw (d:=21) rfl (fun g2=>?_) (fun g2=>?_)))))
 try simp only [sQ,ne_eq] at g2
 refine xM (h:=xM (h:=Zo (Zdv rfl rfl Tryz.underlying9 rfl rfl oz (by simpa using hc) ?_)))
 refine ZdW (h:=xM (h:=Zw (d:=26) rfl (fun g3=>?_) (fun g3=>?_)))
 try simp only [sQ,ne_eq] at g3
 refine xM (h:=xM (h:=Zo (Zdv rfl rfl Tryz.underlying9 rfl rfl oz (by simpa using hc) ?_)))
 refine ZbQ (h:=xT (h:=xN (h:=xT (h:=?_))))
 exact ⟨rfl,rfl,rfl,Ziq rfl (by rw [Bool.eq_iff_iff];simp [ZaW,];omega),t3⟩
 try simp only [sQ,ne_eq] at g3
 refine xP (h:=xP (h:=xP (h:=xP (h:=xF (h:=xN (h:=xT (h:=?_)))))))
 exact ⟨rfl,rfl,rfl,Ziq rfl (by rw [Bool.eq_iff_iff];simp [ZaW,];omega),t3⟩
 try simp only [sQ,ne_eq] at g2
 refine xP (h:=xP (h:=xP (h:=xP (h:=xP (h:=xP (h:=xP (h:=xP (h:=xP (h:=xP (h:=xP (h:=xF (h:=?_))))))))))))
 exact ⟨rfl,rfl,rfl,Ziq rfl (by rw [Bool.eq_iff_iff];simp [ZaW,];omega),t3⟩
 try simp only [sQ,ne_eq] at g1
 refine xP (h:=xP (h:=xP (h:=xP (h:=xF (h:=xN (h:=xM (h:=xM (h:=xM (h:=Zo (Zdv rfl rfl Tryz.underlying9 rfl rfl oz (by simpa using hc) ?_))))))))))
 refine ZdW (h:=xM (h:=Zw (d:=26) rfl (fun g4=>?_) (fun g4=>?_)))
 try simp only [sQ,ne_eq] at g4
 refine xM (h:=xM (h:=Zo (Zdv rfl rfl Tryz.underlying9 rfl rfl oz (by simpa using hc) ?_)))
 refine ZbQ (h:=xT (h:=xN (h:=xT (h:=?_))))
 exact ⟨rfl,rfl,rfl,Ziq rfl (by rw [Bool.eq_iff_iff];simp [ZaW,];omega),t3⟩
 try simp only [sQ,ne_eq] at g4
 refine xP (h:=xP (h:=xP (h:=xP (h:=xF (h:=xN (h:=xT (h:=?_)))))))
 exact ⟨rfl,rfl,rfl,Ziq rfl (by rw [Bool.eq_iff_iff];simp [ZaW,];omega),t3⟩
 refine ZX [(0,_),(3,_),(7,_),(33,_)] t4 (Zc rfl (fun g9=>?_) (fun g9=>?_))
 try simp only [sQ,ne_eq] at g9
 refine Za (xA (h:=ZX [(0,_),(2,_),(3,_),(7,_),(33,_)] t5 (Zi (ZE (Zn (ZqL (ZE (Zn ?_))))))))
 exact ZB .ret (.inl rfl) [_] t1 ⟨Zh (by simp [Zak,ZpM hc g9]),rfl,rfl⟩
 try simp only [sQ,ne_eq] at g9
 refine Zf (ZP (Zd (Zk (xM (h:=Zo (Zgm rfl rfl rfl rfl (by first | exact ZbR oz oz | rfl) ?_))))))
 refine xA (h:=?_)
 exact ZlV (k+1) oz ⟨rfl,oz,ZlH hc g9 ha⟩ t2 rfl
 try simp only [sQ,ne_eq] at g1
 refine ZI (ZY (ZlU (Zv (Zd (Za (xM (h:=xVs Tryz.underlying9 (h:=xR ZpB rfl (Zft _ _ _ _) (h:=xA (h:=ZX [(0,_),(2,_),(3,_),(7,_)] t4 (Zi ?_)))))))))))
 exact ZB .ret (.inl rfl) [_] t1 ⟨Zh (by (obtain rfl:k=l.length:=oz);rw [List.take_length] at ha;rw [Bool.eq_iff_iff];simp [Zak,ha];omega),rfl,rfl⟩

set_option maxHeartbeats 400000 in
theorem ZlC (b:Nat) (l:List UInt8) (i:Nat) (hi:i≤l.length) (hl:l.length≤2000000) (B:Kn):Zqu (pj J) 99 [ptr ⟨b,0,none⟩] B (cur b l i) (.bool (decide (i=l.length))) (cur b l i):=by
 refine Zb 13 Tryz.func99 rfl rfl rfl (Nat.le_of_ble_eq_true rfl) ?_
 refine Za (xA (h:=ZX [(0,_),(2,_)] t2 (Zg (Zan (same _ _) mo kr ⟨rfl,rfl⟩ (fun _ _=>?_)))))
 refine aM 0 rfl (h:=aNc 1 rfl (h:=aW 2 rfl Zbm (h:=aT 3 rfl (Zaq fun D=>Zs rfl rfl lk3 rfl (atL 0 rfl rfl rfl) r4) (h:=aM 4 rfl (h:=aNc 5 rfl (h:=aW 6 rfl ZfZ (h:=aT 7 rfl (Zaq fun D=>Zs rfl rfl lk9 rfl (atL 0 rfl rfl rfl) r4) (h:=aT 8 rfl (Zaq fun D=>Zp3 rfl rfl Tryz.underlying9 rfl r4) (h:=Zoy 9 rfl (h:=aA 10 rfl (h:=Zz kr kr ?_)))))))))))
 refine Zd (ZX [(0,_),(2,_)] t2 (Zi ?_))
 exact ZpA .ret (.inl rfl) [_] 0 rfl t1 ⟨Zh (by rw [Bool.eq_iff_iff];simp;omega),rfl,rfl⟩

set_option maxHeartbeats 400000 in
theorem Zr3 (b:Nat) (l:List UInt8) (i:Nat) (hi:i≤l.length) (hl:l.length≤2000000) (x:UInt8) (B:Kn):Zqu (pj J) 128 [ptr ⟨b,0,none⟩,.int .u8 x.toNat] B (cur b l i) (.bool (decide (l[i]? = some x))) (cur b l (if l[i]? = some x then i+1 else i)):=by
 refine Zb 27 Tryz.func128 rfl rfl rfl (Nat.le_of_ble_eq_true rfl) ?_
 refine Za (xA (h:=ZX [(0,_),(1,_),(4,_)] t3 (Zg (ZgB 19 (decide (l[i]?≠some x)) [0,1,4] (same _ _) mo kr ⟨rfl,rfl⟩ (fun _ _=>?_) ?_))))
 refine aM 0 rfl (h:=aT 1 rfl (Zaq fun D=>ZiQ 0 rfl rfl rfl ZsU rfl (ZlC _ _ _ oz oz _) r4) (h:=?_))
 refine aM 2 rfl (h:=Zav (d:=7) rfl (fun g1=>?_) (fun g1=>?_))
 try simp only [sQ,ne_eq] at g1
 refine aZ 3 rfl (h:=aZ 4 rfl (h:=aZ 5 rfl (h:=aZ 6 rfl (h:=aZ 7 rfl (h:=aZ 8 rfl (h:=aZ 9 rfl (h:=aZ 10 rfl (h:=aZ 11 rfl (h:=aZ 12 rfl (h:=aZ 13 rfl (h:=aPT 14 rfl (h:=Zz kr kr ?_))))))))))))
 exact ⟨rfl,rfl,rfl,Ziq rfl (by first | (simp [g1];done) | (rw [Bool.eq_iff_iff];simp [hc,← UInt8.toNat_inj];omega)),t3⟩
 try simp only [sQ,ne_eq] at g1
 obtain ⟨c,hc⟩ :∃c,l[i]? = some c:=⟨_,List.getElem?_eq_getElem oz⟩
 refine aM 3 rfl (h:=aNc 4 rfl (h:=aW 5 rfl ZfZ (h:=aT 6 rfl (Zaq fun D=>Zs rfl rfl lk9 rfl (atL 0 rfl rfl rfl) r4) (h:=aM 7 rfl (h:=aNc 8 rfl (h:=aW 9 rfl Zbm (h:=aT 10 rfl (Zaq fun D=>Zs rfl rfl lk3 rfl (atL 0 rfl rfl rfl) r4) (h:=aT 11 rfl (Zaq fun D=>Zdv rfl rfl Tryz.underlying9 rfl rfl oz (by simpa using hc) r4) (h:=?_)))))))))
 refine aM 12 rfl (h:=ZsO 13 rfl (h:=aPF 14 rfl (h:=Zz kr kr ?_)))
 exact ⟨rfl,rfl,rfl,Ziq rfl (by first | (simp [g1];done) | (rw [Bool.eq_iff_iff];simp [hc,← UInt8.toNat_inj];omega)),t3⟩
 refine ZX [(0,_),(1,_),(4,_),(19,_)] t4 (Zc rfl (fun g2=>?_) (fun g2=>?_))
 try simp only [sQ,ne_eq] at g2
 refine Za (xA (h:=ZX [(0,_),(1,_),(4,_),(19,_)] t4 (Zi (Zn ?_))))
 exact ZpA .ret (.inl rfl) [_] 0 rfl t1 ⟨Zh (by simp [g2]),rfl,by rw [if_neg g2]⟩
 try simp only [sQ,ne_eq] at g2
 refine Zf (Zd (Za (xM (h:=xNc (h:=xW Zbm (h:=x1 lk3 0 (h:=Zo (Zgm rfl rfl rfl rfl (by first | exact ZbR oz oz | rfl) ?_))))))))
 refine xNc (h:=xW Zbm (h:=xS [_] 0 [_,_] sz3 (h:=ZL [(0,_),(1,_),(4,_),(19,_)] [_] t4 rfl (Za (xA (h:=ZX [(0,_),(1,_),(4,_),(19,_)] t4 (Zi ?_)))))))
 exact ZpA .ret (.inl rfl) [_] 0 rfl t1 ⟨Zh (by simp [g2]),rfl,by rw [if_pos g2];rfl⟩

set_option maxHeartbeats 400000 in
theorem Znp (b:Nat) (l:List UInt8) (i:Nat) (hi:i≤l.length) (hl:l.length≤2000000) (B:Kn):Zqu (pj J) 127 [ptr ⟨b,0,none⟩] B (cur b l i) (.tuple #[str (word l i),.bool (ZcT (word l i))]) (cur b l (i+(word l i).length)):=by
 refine Zb 54 Tryz.func127 rfl rfl rfl (Nat.le_of_ble_eq_true rfl) ?_
 refine Za (xA (h:=xA (h:=ZX [(0,_),(2,_),(3,_)] t3 (Za (xM (h:=xNc (h:=xW Zbm (h:=x1 lk3 0 (h:=xA (h:=ZX [(0,_),(2,_),(3,_),(4,_)] t4 (Zg (Zl ?_))))))))))))
 refine ZiR (α:=Nat) (fun k=>[(0,ptr ⟨b,0,none⟩),(4,.int .i64 i)]) (fun k=>[cur b l (i+k)]) (fun k Bx=>Bx=B∧i+k≤l.length∧((l.drop i).take k).all ZaW=true) (fun k=>l.length - i - k) 0 t2 rfl (⟨rfl,oz,by simp⟩) (fun k B1 hle1 hI=>?_)
 obtain ⟨rfl,hk,ha⟩:=hI
 refine Zg (ZgB 24 (match l[i+k]? with | some c=>ZaW c | none=>false) [0,4] (same _ _) mo kr ⟨rfl,rfl⟩ (fun _ _=>?_) ?_)
 refine aM 0 rfl (h:=aT 1 rfl (Zaq fun D=>ZiQ 0 rfl rfl rfl ZsU rfl (ZlC _ _ _ oz oz _) r4) (h:=?_))
 refine aN 2 rfl (h:=aM 3 rfl (h:=Zav (d:=13) rfl (fun g1=>?_) (fun g1=>?_)))
 try simp only [sQ,ne_eq] at g1
 obtain ⟨c,hc⟩ :∃c,l[i+k]? = some c:=⟨_,List.getElem?_eq_getElem oz⟩
 refine aM 4 rfl (h:=aNc 5 rfl (h:=aW 6 rfl ZfZ (h:=aT 7 rfl (Zaq fun D=>Zs rfl rfl lk9 rfl (atL 0 rfl rfl rfl) r4) (h:=aM 8 rfl (h:=aNc 9 rfl (h:=aW 10 rfl Zbm (h:=aT 11 rfl (Zaq fun D=>Zs rfl rfl lk3 rfl (atL 0 rfl rfl rfl) r4) (h:=aT 12 rfl (Zaq fun D=>Zdv rfl rfl Tryz.underlying9 rfl rfl oz hc r4) (h:=?_)))))))))
 refine aT 13 rfl (Zaq fun D=>Zam rfl rfl ZtH rfl (Zl2 _ _) r4) (h:=aPT 14 rfl (h:=Zz kr kr ?_))
 exact ⟨rfl,rfl,rfl,Ziq rfl (by first | (rw [hc];done) | (rw [List.getElem?_eq_none oz])),t2⟩
 try simp only [sQ,ne_eq] at g1
 refine aZ 4 rfl (h:=aZ 5 rfl (h:=aZ 6 rfl (h:=aZ 7 rfl (h:=aZ 8 rfl (h:=aZ 9 rfl (h:=aZ 10 rfl (h:=aZ 11 rfl (h:=aZ 12 rfl (h:=aZ 13 rfl (h:=aPF 14 rfl (h:=Zz kr kr ?_)))))))))))
 exact ⟨rfl,rfl,rfl,Ziq rfl (by first | (rw [hc];done) | (rw [List.getElem?_eq_none oz])),t2⟩
 refine ZX [(0,_),(4,_),(24,_)] t3 (Zc rfl (fun g2=>?_) (fun g2=>?_))
 try simp only [sQ,ne_eq] at g2
 refine Zf (Zd (Zl (Zk (xM (h:=xNc (h:=xW Zbm (h:=x1 lk3 0 (h:=Zo (Zgm rfl rfl rfl rfl (by first | exact ZbR oz oz | rfl) ?_)))))))))
 refine xNc (h:=xW Zbm (h:=xS [_] 0 [_,_] sz3 (h:=ZP ?_)))
 obtain ⟨c,hc,hn⟩:=Zm9 g2
 exact ZlV (k+1) (by have:=Zbe hc;omega) ⟨rfl,by have:=Zbe hc;omega,ZlH (by simpa using hc) hn ha⟩ t2 rfl
 try simp only [sQ,ne_eq] at g2
 have hw:word l i=(l.drop i).take k:=ZoC ha (fun c hc=>by rw [hc] at g2;exact g2)
 have hwl:(word l i).length=k:=by rw [hw,List.length_take,List.length_drop];omega
 refine ZI (ZY (ZlU (Zv (Zd (Za (xM (h:=xNc (h:=xW Zbm (h:=x1 lk3 0 (h:=xM (h:=Zo (Zia rfl rfl rfl rfl (by first | exact ZbR oz oz | rfl) ?_))))))))))))
 refine xA (h:=ZX [(0,_),(4,_),(5,_),(24,_)] t4 (Zg (Zan (same _ _) mo kr ⟨rfl,rfl⟩ (fun _ _=>?_))))
 refine aM 0 rfl (h:=aNc 1 rfl (h:=aW 2 rfl ZfZ (h:=aT 3 rfl (Zaq fun D=>Zs rfl rfl lk9 rfl (atL 0 rfl rfl rfl) r4) (h:=aM 4 rfl (h:=aM 5 rfl (h:=aNc 6 rfl (h:=aW 7 rfl Zbm (h:=aT 8 rfl (Zaq fun D=>Zs rfl rfl lk3 rfl (atL 0 rfl rfl rfl) r4) (h:=aT 9 rfl (Zaq fun D=>Zfa rfl rfl Tryz.underlying9 rfl (a:=i) (b:=i+k) ⟨_,_,rfl,rfl⟩ ⟨_,_,rfl,oz⟩ oz oz r4) (h:=?_))))))))))
 refine aM 10 rfl (h:=Zuk 11 rfl (h:=aM 12 rfl (h:=Zav (d:=50) rfl (fun g1=>?_) (fun g1=>?_))))
 try simp only [sQ,ne_eq] at g1
 refine aM 13 rfl (h:=Zrz 14 rfl (h:=aPT 15 rfl (h:=aA 16 rfl (h:=aA 17 rfl (h:=Zz kr kr ?_)))))
 refine Zd (ZX [(0,_),(2,_),(3,_),(4,_),(5,_),(24,_)] t6 (Zi ?_))
 exact ZpA .ret (.inl rfl) [_,_] 0 rfl t2 ⟨ZhO (by rw [ZeI,hw]) (Zh (by rw [Bool.eq_iff_iff];simp [ZcT,hwl];omega)),rfl,by rw [hwl]⟩
 try simp only [sQ,ne_eq] at g1
 refine aZ 13 rfl (h:=aZ 14 rfl (h:=aPF 15 rfl (h:=aA 16 rfl (h:=aA 17 rfl (h:=Zz kr kr ?_)))))
 refine Zd (ZX [(0,_),(2,_),(3,_),(4,_),(5,_),(24,_)] t6 (Zi ?_))
 exact ZpA .ret (.inl rfl) [_,_] 0 rfl t2 ⟨ZhO (by rw [ZeI,hw]) (Zh (by rw [Bool.eq_iff_iff];simp [ZcT,hwl];omega)),rfl,by rw [hwl]⟩

set_option maxHeartbeats 400000 in
theorem ZpC (b:Nat) (l:List UInt8) (i:Nat) (hi:i≤l.length) (hl:l.length≤2000000) (B:Kn):Zqu (pj J) 98 [ptr ⟨b,0,none⟩] B (cur b l i) (.tuple #[str (Zhq l i),.bool (ZkK l i)]) (cur b l (dom l i).2):=by
 refine Zb 53 Tryz.func98 rfl rfl rfl (Nat.le_of_ble_eq_true rfl) ?_
 refine Za (xA (h:=xA (h:=ZX [(0,_),(2,_),(3,_)] t3 (Za (xM (h:=xNc (h:=xW Zbm (h:=x1 lk3 0 (h:=xA (h:=ZX [(0,_),(2,_),(3,_),(4,_)] t4 (Zg (Za ?_))))))))))))
 refine xM (h:=Zo (ZhJ 0 rfl rfl rfl Zrr rfl (Znp _ _ _ oz oz _) ?_))
 refine xM (h:=xE (h:=xE (h:=xA (h:=xA (h:=ZL [(0,_),(2,_),(3,_),(4,_),(6,_)] [_] t5 rfl (Za (xM (h:=xN (h:=ZX [(0,_),(2,_),(3,_),(4,_),(6,_),(20,_)] t6 (Zc rfl (fun g1=>?_) (fun g1=>?_)))))))))))
 try simp only [sQ,ne_eq] at g1
 refine Za (xA (h:=xA (h:=ZX [(0,_),(2,_),(3,_),(4,_),(6,_),(20,_)] t6 (Zi (Zn ?_)))))
 exact ZpA .ret (.inl rfl) [_,_] 0 rfl t2 ⟨ZhO (by simp [Zhq,ZkJ g1]) (Zh (by simp [ZkK,ZkJ g1])),rfl,by rw [ZkJ g1]⟩
 try simp only [sQ,ne_eq] at g1
 refine Zf (Zd (Zg (Za (xA (h:=ZX [(0,_),(2,_),(3,_),(4,_),(6,_),(7,_),(20,_)] t7 (Zl (ZiR (α:=Nat × Nat) (fun x=>[(0,ptr ⟨b,0,none⟩),(4,.int .i64 i),(7,.int .i64 x.1)]) (fun x=>[cur b l x.2]) (fun x Bx=>Bx=B∧1≤x.1∧x.1≤3∧i≤x.2∧x.2≤l.length∧dom l i=more (3 - x.1) l x.2) (fun x=>3 - x.1) (1,i+(word l i).length) t3 rfl (⟨rfl,oz,oz,oz,Zgz hi,ZpD g1⟩) (fun x B1 hle1 hI=>?_))))))))
 obtain ⟨rfl,hk1,hk3,hix,hxl,hd⟩:=hI
 refine Zg (Za (xM (h:=ZF (h:=xM (h:=Zw (d:=23) rfl (fun g2=>?_) (fun g2=>?_))))))
 try simp only [sQ,ne_eq] at g2
 refine xM (h:=Zo (ZhJ 0 rfl rfl rfl ZtX rfl (Zr3 _ _ _ oz oz 46 _) ?_))
 refine xT (h:=ZL [(0,_),(4,_),(7,_),(26,_)] [_] t4 rfl (Zc rfl (fun g3=>?_) (fun g3=>?_)))
 try simp only [sQ,ne_eq] at g3
 rw [if_pos g3]
 have hx2:=Zbe g3
 refine Zf (Zd (Zg (Zl (Za (xM (h:=Zo (ZhJ 0 rfl rfl rfl Zrr rfl (Znp _ _ _ oz oz _) ?_)))))))
 refine xM (h:=xE (h:=xE (h:=xA (h:=xA (h:=ZL [(0,_),(4,_),(7,_),(9,_),(26,_)] [_] t5 rfl (Za (xM (h:=xN (h:=ZX [(0,_),(4,_),(7,_),(9,_),(26,_),(35,_)] t6 (Zc rfl (fun g4=>?_) (fun g4=>?_)))))))))))
 try simp only [sQ,ne_eq] at g4
 refine Za (xA (h:=xA (h:=ZX [(0,_),(2,_),(3,_),(4,_),(7,_),(9,_),(26,_),(35,_)] t8 (Zi (ZE (Zn (ZqL (ZE (Zn ?_)))))))))
 have hdd:=hd.trans (Zpc oz g3 g4)
 exact ZpA .ret (.inl rfl) [_,_] 0 rfl t2 ⟨ZhO (by simp [Zhq,hdd]) (Zh (by simp [ZkK,hdd])),rfl,by rw [hdd]⟩
 try simp only [sQ,ne_eq] at g4
 refine Zf (ZP (Zd (Zk (xM (h:=Zo (Zgm rfl rfl rfl rfl (by first | exact ZbR oz oz | rfl) ?_))))))
 refine xA (h:=?_)
 exact ZlV (x.1+1,x.2+1+(word l (x.2+1)).length) (so) ⟨rfl,so,so,so,Zgz oz,by rw [hd,Znu oz g3 g4];rw [show 3 - (x.1+1)=3 - x.1 - 1 from by omega]⟩ t3 rfl
 try simp only [sQ,ne_eq] at g3
 rw [if_neg g3]
 replace hd:=hd.trans (Zg1 g3)
 refine ZI (ZY (ZlU (Zv (Zd (Zg (Zan (same _ _) mo kr ⟨rfl,rfl⟩ (fun _ _=>?_)))))))
 refine aM 0 rfl (h:=aNc 1 rfl (h:=aW 2 rfl ZfZ (h:=aT 3 rfl (Zaq fun D=>Zs rfl rfl lk9 rfl (atL 0 rfl rfl rfl) r4) (h:=aM 4 rfl (h:=aM 5 rfl (h:=aNc 6 rfl (h:=aW 7 rfl Zbm (h:=aT 8 rfl (Zaq fun D=>Zs rfl rfl lk3 rfl (atL 0 rfl rfl rfl) r4) (h:=aT 9 rfl (Zaq fun D=>Zfa rfl rfl Tryz.underlying9 rfl (a:=i) (b:=x.2) ⟨_,_,rfl,rfl⟩ ⟨_,_,rfl,rfl⟩ oz oz r4) (h:=?_))))))))))
 refine aM 10 rfl (h:=aNc 11 rfl (h:=aW 12 rfl Zbm (h:=aT 13 rfl (Zaq fun D=>Zs rfl rfl lk3 rfl (atL 0 rfl rfl rfl) r4) (h:=aM 14 rfl (h:=aT 15 rfl (Zaq fun D=>Zia rfl rfl rfl rfl (by first | exact ZbR oz oz | rfl) r4) (h:=?_))))))
 refine Zrz 16 rfl (h:=aA 17 rfl (h:=aA 18 rfl (h:=Zz kr kr ?_)))
 refine Zd (ZX [(0,_),(2,_),(3,_),(4,_),(7,_),(26,_)] t6 (Zi ?_))
 exact ZpA .ret (.inl rfl) [_,_] 0 rfl t2 ⟨ZhO (by simp [Zhq,hd]) (Zh (by rw [Bool.eq_iff_iff];simp [ZkK,hd];omega)),rfl,by rw [hd]⟩
 try simp only [sQ,ne_eq] at g2
 replace hd:dom l i=(true,x.2):=hd.trans (by rw [show 3 - x.1=0 from by omega];rfl)
 refine xP (h:=xP (h:=xF (h:=ZX [(0,_),(4,_),(7,_),(26,_)] t4 (Zc (t:=false) rfl (fun h=>Bool.noConfusion h) (fun _=>ZI (ZY (ZlU (Zv (Zd (Zg (Zan (same _ _) mo kr ⟨rfl,rfl⟩ (fun _ _=>?_))))))))))))
 refine aM 0 rfl (h:=aNc 1 rfl (h:=aW 2 rfl ZfZ (h:=aT 3 rfl (Zaq fun D=>Zs rfl rfl lk9 rfl (atL 0 rfl rfl rfl) r4) (h:=aM 4 rfl (h:=aM 5 rfl (h:=aNc 6 rfl (h:=aW 7 rfl Zbm (h:=aT 8 rfl (Zaq fun D=>Zs rfl rfl lk3 rfl (atL 0 rfl rfl rfl) r4) (h:=aT 9 rfl (Zaq fun D=>Zfa rfl rfl Tryz.underlying9 rfl (a:=i) (b:=x.2) ⟨_,_,rfl,rfl⟩ ⟨_,_,rfl,rfl⟩ oz oz r4) (h:=?_))))))))))
 refine aM 10 rfl (h:=aNc 11 rfl (h:=aW 12 rfl Zbm (h:=aT 13 rfl (Zaq fun D=>Zs rfl rfl lk3 rfl (atL 0 rfl rfl rfl) r4) (h:=aM 14 rfl (h:=aT 15 rfl (Zaq fun D=>Zia rfl rfl rfl rfl (by first | exact ZbR oz oz | rfl) r4) (h:=?_))))))
 refine Zrz 16 rfl (h:=aA 17 rfl (h:=aA 18 rfl (h:=Zz kr kr ?_)))
 refine Zd (ZX [(0,_),(2,_),(3,_),(4,_),(7,_),(26,_)] t6 (Zi ?_))
 exact ZpA .ret (.inl rfl) [_,_] 0 rfl t2 ⟨ZhO (by simp [Zhq,hd]) (Zh (by rw [Bool.eq_iff_iff];simp [ZkK,hd];omega)),rfl,by rw [hd]⟩

set_option maxHeartbeats 400000 in
theorem Zbr (l:List UInt8) (hl:l.length≤2000000) (B:Kn):Zaa (pj J) 107 [str l] B (.bool (Zak l)):=by
 refine Zb 16 Tryz.func107 rfl rfl rfl (Nat.le_of_ble_eq_true rfl) ?_
 refine Za (xA (h:=ZX [(0,_),(2,_)] t2 (Za (xM (h:=xB [(0,_)] [_,_] [_,_] Zsc ZoB (h:=xAl [_,_] ZoB (h:=fun b0=>xS [_,_] 0 [_,_] Zr7 (h:=ZL [(0,_),(2,_),(3,_)] [_] t3 rfl (Za (Zo (ZhJ 0 rfl rfl rfl Zrr rfl (Znp _ _ 0 oz hl _) ?_)))))))))))
 refine xM (h:=xE (h:=xE (h:=xA (h:=xA (h:=ZL [(0,_),(2,_),(3,_),(5,_)] [_] t4 rfl (Za (xM (h:=xM (h:=Zw (d:=13) rfl (fun g1=>?_) (fun g1=>?_))))))))))
 try simp only [sQ,ne_eq] at g1
 refine Zo (ZiQ 0 rfl rfl rfl ZsU rfl (ZlC _ _ (0+(word l 0).length) (Zgz (Nat.zero_le _)) oz _) ?_)
 refine xT (h:=xA (h:=ZX [(0,_),(2,_),(3,_),(5,_)] t4 (Zi ?_)))
 exact ZB .ret (.inl rfl) [_] t1 ⟨Zh (by rw [ZcD];simp [g1];try omega),rfl,rfl⟩
 try simp only [sQ,ne_eq] at g1
 refine xP (h:=xF (h:=xA (h:=ZX [(0,_),(2,_),(3,_),(5,_)] t4 (Zi ?_))))
 exact ZB .ret (.inl rfl) [_] t1 ⟨Zh (by rw [ZcD];simp [g1];try omega),rfl,rfl⟩

abbrev ZsY (s : Cells) (q : Option Addr) (m cp : Nat) (ls : List (List UInt8)) : Prop := Zhy s q m cp 9 1 (ls.map str)
theorem ZiV {s:Cells} {q:Option Addr} {m cp:Nat} {ls:List (List UInt8)} {a:List UInt8} (h:Zhy s q m cp 9 1 (ls.map str ++ [str a])):ZsY s q m cp (ls ++ [a]):=by
 unfold ZsY
 rw [List.map_append]
 exact h
set_option maxHeartbeats 400000 in
theorem Zq0 (l:List UInt8) (hl:l.length≤2000000) (x0:UInt8) (B:Kn):ZuP (pj J) 87 [str l,.int .u8 x0.toNat] B (fun v s=>∃q cp,v = .slice q (cut x0 l).length cp∧ZsY s q (cut x0 l).length cp (cut x0 l)):=by
 refine Zb 35 Tryz.func87 rfl rfl rfl (Nat.le_of_ble_eq_true rfl) ?_
 refine Za (xA (h:=ZX [(0,_),(1,_),(4,_)] t3 (Za (xBs [] [] Tryz.underlying103 sz9 zo9 (h:=fun b0=>xA (h:=ZL [(0,_),(1,_),(4,_),(5,_)] [_] t4 rfl (Za (xA (h:=ZX [(0,_),(1,_),(4,_),(5,_),(6,_)] t5 (Zg (Za (xA (h:=?_)))))))))))))
 refine ZX [(0,_),(1,_),(4,_),(5,_),(6,_),(7,_)] t6 (Zl (ZiR (α:=CutSt) (fun x=>[(0,str l),(1,.int .u8 x0.toNat),(5,.slice x.q x.m x.cp),(6,.int .i64 x.f),(7,.int .i64 x.i)]) (fun x=>[x.s]) (fun x Bx=>Bx=B∧x.f≤x.i∧x.i≤l.length∧x.m≤x.i∧x.m=x.ps.length∧ZsY x.s x.q x.m x.cp x.ps∧cut x0 l=x.ps ++ glue ((l.take x.i).drop x.f) (cut x0 (l.drop x.i))) (fun x=>l.length - x.i) ⟨0,0,0,[],some ⟨b0,0,none⟩,0,ZaK b0 [] 9⟩ t5 rfl (⟨rfl,Nat.le_refl _,Nat.zero_le _,Nat.le_refl _,rfl,Zhy.lit rfl,by simp [Zlv (ZlF x0 l)]⟩) (fun x B1 hle1 hI=>?_)))
 obtain ⟨rfl,hf,hi,hn,hm,hv,hc⟩:=hI
 refine Zg (Za (xM (h:=xM (h:=xVs Tryz.underlying9 (h:=ZF (h:=ZX [(0,_),(1,_),(5,_),(6,_),(7,_),(12,_)] t6 (Zc rfl (fun g1=>?_) (fun g1=>?_))))))))
 try simp only [sQ,ne_eq] at g1
 obtain ⟨c,hx⟩ :∃c,l[x.i]? = some c:=⟨_,List.getElem?_eq_getElem oz⟩
 refine Zf (Zd (Zg (Zl (Za (xM (h:=xM (h:=Zo (Zdv rfl rfl Tryz.underlying9 rfl rfl oz hx ?_))))))))
 refine xM (h:=ZkZ (h:=ZX [(0,_),(1,_),(5,_),(6,_),(7,_),(12,_),(19,_)] t7 (Zc rfl (fun g2=>?_) (fun g2=>?_))))
 try simp only [sQ,ne_eq] at g2
 refine Za (xM (h:=xM (h:=xM (h:=xM (h:=Zo (Zfa rfl rfl Tryz.underlying9 rfl (a:=x.f) (b:=x.i) ⟨_,_,rfl,rfl⟩ ⟨_,_,rfl,rfl⟩ oz oz ?_))))))
 refine xBs [(0,_)] [_] Tryz.underlying103 sz9 zo9 (h:=fun b1=>Zo (Zfb 0 rfl (hv) rfl rfl Zrm Zr9 rfl rfl (ZbL.box 1 rfl) rfl rfl oz (fun l1 p1 c1 hv1=>?_)))
 refine xA (h:=ZL [(0,_),(1,_),(5,_),(6,_),(7,_),(12,_),(19,_)] [_,_] t7 rfl (ZoF [0] rfl (Zk (xM (h:=Zo (Zgm rfl rfl rfl rfl (by first | exact ZbR oz oz | rfl) ?_))))))
 refine xA (h:=ZP (Zd (Zk (xM (h:=Zo (Zgm rfl rfl rfl rfl (by first | exact ZbR oz oz | rfl) ?_))))))
 refine xA (h:=?_)
 exact ZlV ⟨x.i+1,x.i+1,x.m+1,x.ps ++ [(l.take x.i).drop x.f],p1,c1,l1⟩ (so) ⟨rfl,Nat.le_refl _,so,so,by simp [hm],ZiV hv1,by rw [hc,Zrw hx (Zta g2),List.append_assoc];simp [Zpv,Zlv (ZlF x0 _)]⟩ t5 rfl
 try simp only [sQ,ne_eq] at g2
 refine Zf (ZP (Zd (Zk (xM (h:=Zo (Zgm rfl rfl rfl rfl (by first | exact ZbR oz oz | rfl) ?_))))))
 refine xA (h:=?_)
 exact ZlV ⟨x.i+1,x.f,x.m,x.ps,x.q,x.cp,x.s⟩ (so) ⟨rfl,so,so,so,hm,hv,by rw [hc,ZpF hx (Zs9 g2),ZnT,ZmV hx hf]⟩ t5 rfl
 try simp only [sQ,ne_eq] at g1
 obtain hie:x.i=l.length:=by omega
 rw [hie,List.take_length,List.drop_length] at hc
 refine ZI (ZY (ZlU (Zv (Zd (Za (xM (h:=xM (h:=xM (h:=Zo (Zfa rfl rfl Tryz.underlying9 rfl (a:=x.f) (b:=l.length) ⟨_,_,rfl,rfl⟩ rfl oz oz ?_))))))))))
 refine xBs [(0,_)] [_] Tryz.underlying103 sz9 zo9 (h:=fun b1=>Zo (Zfb 0 rfl (hv) rfl rfl Zrm Zr9 rfl rfl (ZbL.box 1 rfl) rfl rfl oz (fun l2 p2 c2 hv2=>?_)))
 refine xA (h:=ZL [(0,_),(1,_),(4,_),(5,_),(6,_),(7,_),(12,_)] [_,_] t7 rfl (Zi ?_))
 have he:cut x0 l=x.ps ++ [l.drop x.f]:=by rw [hc];simp [cut,glue]
 have hlen:(cut x0 l).length=x.m+1:=by rw [he];simp [hm]
 exact Zbx .ret (.inl rfl) [_] [0] rfl t1 ⟨rfl,_,rfl,p2,c2,by rw [hlen];rfl,by rw [hlen,he];rw [List.take_length] at hv2;exact ZiV hv2⟩

set_option maxHeartbeats 400000 in
theorem Zi7 (l:List UInt8) (hl:l.length≤2000000) (B:Kn):Zaa (pj J) 57 [str l] B (.bool (Zb8 l)):=by
 refine Zb 27 Tryz.func57 rfl rfl rfl (Nat.le_of_ble_eq_true rfl) ?_
 refine Za (xA (h:=ZX [(0,_),(2,_)] t2 (Za (xM (h:=Zo (ZrP rfl rfl Zva rfl (Zq0 _ hl 46 _) ?_))))))
 rintro _ s ⟨q,cp,rfl,hv⟩
 refine xA (h:=ZL [(0,_),(2,_),(3,_)] [_] t3 rfl (Zg (Za (xA (h:=ZX [(0,_),(2,_),(3,_),(4,_)] t4 (Zl (ZiR (α:=Nat) (fun k=>[(0,str l),(3,.slice q (cut 46 l).length cp),(4,.int .i64 k)]) (fun k=>[s]) (fun k Bx=>Bx=B∧k≤(cut 46 l).length∧((cut 46 l).take k).all Zak=true) (fun k=>(cut 46 l).length - k) 0 t3 rfl (⟨rfl,Nat.zero_le _,by simp⟩) (fun k B1 hle1 hI=>?_))))))))
 obtain ⟨rfl,hk,ha⟩:=hI
 have hcc:=ZjN 46 l
 refine Zg (Za (xM (h:=xM (h:=xV Tryz.underlying103 (h:=ZF (h:=ZX [(0,_),(3,_),(4,_),(10,_)] t4 (Zc rfl (fun g1=>?_) (fun g1=>?_))))))))
 try simp only [sQ,ne_eq] at g1
 obtain ⟨y,hy⟩ :∃y,(cut 46 l)[k]? = some y:=⟨_,List.getElem?_eq_getElem oz⟩
 have hyl:=ZkL 46 l y (List.mem_of_getElem? hy)
 obtain ⟨a,rfl,hsp,hat⟩:=hv.at (B:=B1) (L:=[s]) (i:=k) (v:=str y) 0 rfl (by rw [List.getElem?_map,hy];rfl)
 refine Zf (Zd (Zg (Zl (Za (xM (h:=xM (h:=Zo (Zbk rfl rfl Tryz.underlying103 sz9 rfl rfl oz oz ?_))))))))
 refine Zo (Zs rfl rfl lk9 rfl (ZsH hat) (xR Zrp rfl (ZbW _ oz _) (h:=?_)))
 refine xN (h:=ZX [(0,_),(3,_),(4,_),(10,_),(18,_)] t5 (Zc rfl (fun g2=>?_) (fun g2=>?_)))
 try simp only [sQ,ne_eq] at g2
 refine Za (xA (h:=ZX [(0,_),(2,_),(3,_),(4,_),(10,_),(18,_)] t6 (Zi (ZE (Zn (ZqL (ZE (Zn ?_))))))))
 exact ZB .ret (.inl rfl) [_] t1 ⟨Zh (by simp [Zb8,ZjV hy g2]),rfl,rfl⟩
 try simp only [sQ,ne_eq] at g2
 refine Zf (ZP (Zd (Zk (xM (h:=Zo (Zgm rfl rfl rfl rfl (by first | exact ZbR oz oz | rfl) ?_))))))
 refine xA (h:=?_)
 exact ZlV (k+1) oz ⟨rfl,oz,Zhx hy g2 ha⟩ t3 rfl
 try simp only [sQ,ne_eq] at g1
 obtain hke:k=(cut 46 l).length:=by omega
 rw [hke,List.take_length] at ha
 refine ZI (ZY (ZlU (Zv (Zd (Za (xM (h:=xV Tryz.underlying103 (h:=ZbQ (h:=xM (h:=Zw (d:=22) rfl (fun g3=>?_) (fun g3=>?_)))))))))))
 try simp only [sQ,ne_eq] at g3
 refine xM (h:=xVs Tryz.underlying9 (h:=ZbQ (h:=xT (h:=xA (h:=ZX [(0,_),(2,_),(3,_),(4,_),(10,_)] t5 (Zi ?_))))))
 exact ZB .ret (.inl rfl) [_] t1 ⟨Zh (by rw [Bool.eq_iff_iff];simp [Zb8,ha];omega),rfl,rfl⟩
 try simp only [sQ,ne_eq] at g3
 refine xP (h:=xP (h:=xP (h:=xF (h:=xA (h:=ZX [(0,_),(2,_),(3,_),(4,_),(10,_)] t5 (Zi ?_))))))
 exact ZB .ret (.inl rfl) [_] t1 ⟨Zh (by rw [Bool.eq_iff_iff];simp [Zb8,ha];omega),rfl,rfl⟩

set_option maxHeartbeats 400000 in
theorem Zdi (q:Option Addr) (cp:Nat) (us:List DUser) (u:Str) (B:Kn) (hu:SlK B q cp 3 Zq us):Zaa (pj J) 46 [.slice q us.length cp,str u] B (.int .i64 (ZeB us u)):=by
 refine Zb 20 Tryz.func46 rfl rfl rfl (Nat.le_of_ble_eq_true rfl) ?_
 have hun:=hu.len
 refine Za (xA (h:=Zg (Za (xA (h:=Zl (ZC (α:=Nat) [0,1] (fun k=>[(5,.int .i64 k)]) [] (fun k=>[]) (fun k Bx=>Bx=B∧k≤us.length∧∀x,x∈us.take k→x.name≠u) (fun k=>us.length - k) 0 t1 rfl (⟨rfl,Nat.zero_le _,by simp⟩) (fun k B1 hle1 hI=>?_)))))))
 obtain ⟨rfl,hk,ha⟩:=hI
 refine ZL [(0,_),(1,_),(5,_)] [] t3 rfl (Zg (Za (xM (h:=xM (h:=xV Tryz.underlying38 (h:=ZF (h:=Zc rfl (fun g1=>?_) (fun g1=>?_))))))))
 try simp only [sQ,ne_eq] at g1
 refine Zf (Zd (Zg (Zl (Za (xM (h:=xM (h:=?_)))))))
 obtain ⟨x,hx⟩:=ZW (xs:=us) (i:=k) om
 obtain ⟨bb3,oo3,rfl⟩:=hu.base hx
 obtain ⟨_,⟨rfl,hb4,hb4b⟩,hc4⟩:=hu.elem hx
 refine xIx Tryz.underlying38 ZbV (h:=xW ZaX (h:=y1 lk9 hc4 0 (h:=xM (h:=Zc9 (h:=Zc rfl (fun g2=>?_) (fun g2=>?_))))))
 try simp only [sQ,ne_eq] at g2
 refine Za (xM (h:=xA (h:=Zi (ZE (Zn (ZS (ZE (Zn ?_))))))))
 exact ZB .ret (.inl rfl) [_] t1 ⟨ZN (Zpl hx g2 ha).symm,rfl,rfl⟩
 try simp only [sQ,ne_eq] at g2
 refine Zf (ZP (Zd (Zk (xM (h:=xD (h:=xA (h:=?_)))))))
 exact ZD (k+1) [] so2 ⟨rfl,oz,Za1 hx ha g2⟩ t3 rfl
 try simp only [sQ,ne_eq] at g1
 refine ZI (ZY (ZM (Zv (Zd (Za (xA (h:=Zi ?_)))))))
 exact ZB .ret (.inl rfl) [_] t1 ⟨ZN (ZnK (Za6 oz ha)).symm,rfl,rfl⟩

set_option maxHeartbeats 400000 in
theorem ZkI (q q':Option Addr) (cp cp':Nat) (xs ys:List Str) (B:Kn) (ha:SlK B q cp 1 Zek xs) (hb:SlK B q' cp' 1 Zek ys):Zaa (pj J) 154 [.slice q xs.length cp,.slice q' ys.length cp'] B (.bool (decide (xs=ys))):=by
 refine Zb 26 Tryz.func154 rfl rfl rfl (Nat.le_of_ble_eq_true rfl) ?_
 have han:=ha.len
 have hbn:=hb.len
 refine Za (xA (h:=Zg (Za (xM (h:=xV Tryz.underlying103 (h:=xM (h:=xV Tryz.underlying103 (h:=ZaL (h:=Zc rfl (fun g1=>?_) (fun g1=>?_))))))))))
 try simp only [sQ,ne_eq] at g1
 refine Za (xA (h:=Zi (Zn ?_)))
 exact ZB .ret (.inl rfl) [_] t1 ⟨Zh (Zf3 g1),rfl,rfl⟩
 try simp only [sQ,ne_eq] at g1
 refine Zf (Zd (Zg (Za (xA (h:=Zl (ZC (α:=Nat) [0,1,10] (fun k=>[(5,.int .i64 k)]) [] (fun k=>[]) (fun k Bx=>Bx=B∧k≤xs.length∧xs.take k=ys.take k) (fun k=>xs.length - k) 0 t1 rfl (⟨rfl,Nat.zero_le _,by simp⟩) (fun k B1 hle1 hI=>?_)))))))
 obtain ⟨rfl,hk,he⟩:=hI
 refine ZL [(0,_),(1,_),(5,_),(10,_)] [] t4 rfl (Zg (Za (xM (h:=xM (h:=xV Tryz.underlying103 (h:=ZF (h:=Zc rfl (fun g2=>?_) (fun g2=>?_))))))))
 try simp only [sQ,ne_eq] at g2
 refine Zf (Zd (Zg (Zl (Zg (Zan (same _ _) mo kr ⟨rfl,rfl⟩ (fun _ _=>?_))))))
 refine aM 0 rfl (h:=aM 1 rfl (h:=?_))
 obtain ⟨x,hx⟩:=ZW (xs:=xs) (i:=k) om
 obtain ⟨bb3,oo3,rfl⟩:=ha.base hx
 obtain ⟨_,⟨rfl,hb4⟩,hc4⟩:=ha.elem hx
 refine aIx 2 rfl Tryz.underlying103 sz9 (h:=aT 3 rfl (Zaq fun D=>Zs rfl rfl lk9 rfl (hc4 _ 0 _ rfl) r4) (h:=aM 4 rfl (h:=aM 5 rfl (h:=?_))))
 obtain ⟨y,hy⟩:=ZW (xs:=ys) (i:=k) om
 obtain ⟨bb6,oo6,rfl⟩:=hb.base hy
 obtain ⟨_,⟨rfl,hb7⟩,hc7⟩:=hb.elem hy
 refine aIx 6 rfl Tryz.underlying103 sz9 (h:=aT 7 rfl (Zaq fun D=>Zs rfl rfl lk9 rfl (hc7 _ 0 _ rfl) r4) (h:=ZjY 8 rfl (h:=Zz kr kr ?_)))
 refine Zd (Zc rfl (fun g3=>?_) (fun g3=>?_))
 try simp only [sQ,ne_eq] at g3
 refine Za (xA (h:=Zi (ZE (Zn (ZS (ZE (Zn ?_)))))))
 exact ZB .ret (.inl rfl) [_] t1 ⟨Zh (Zew hx hy g3),rfl,rfl⟩
 try simp only [sQ,ne_eq] at g3
 refine Zf (ZP (Zd (Zk (xM (h:=xD (h:=xA (h:=?_)))))))
 exact ZD (k+1) [] so2 ⟨rfl,oz,Zbo hx hy g3 he⟩ t4 rfl
 try simp only [sQ,ne_eq] at g2
 refine ZI (ZY (ZM (Zv (Zd (Za (xA (h:=Zi ?_)))))))
 exact ZB .ret (.inl rfl) [_] t1 ⟨Zh (eqT oz oz he),rfl,rfl⟩

set_option maxHeartbeats 400000 in
theorem Zpg (q:Option Addr) (cp:Nat) (xs:List Str) (u:Str) (B:Kn) (ha:SlK B q cp 1 Zek xs):Zaa (pj J) 159 [.slice q xs.length cp,str u] B (.bool (decide (u∈xs))):=by
 refine Zb 18 Tryz.func159 rfl rfl rfl (Nat.le_of_ble_eq_true rfl) ?_
 have han:=ha.len
 refine Za (xA (h:=Zg (Za (xA (h:=Zl (ZC (α:=Nat) [0,1] (fun k=>[(5,.int .i64 k)]) [] (fun k=>[]) (fun k Bx=>Bx=B∧k≤xs.length∧∀x,x∈xs.take k→x≠u) (fun k=>xs.length - k) 0 t1 rfl (⟨rfl,Nat.zero_le _,by simp⟩) (fun k B1 hle1 hI=>?_)))))))
 obtain ⟨rfl,hk,hn⟩:=hI
 refine ZL [(0,_),(1,_),(5,_)] [] t3 rfl (Zg (Za (xM (h:=xM (h:=xV Tryz.underlying103 (h:=ZF (h:=Zc rfl (fun g1=>?_) (fun g1=>?_))))))))
 try simp only [sQ,ne_eq] at g1
 refine Zf (Zd (Zg (Zl (Za (xM (h:=xM (h:=?_)))))))
 obtain ⟨x,hx⟩:=ZW (xs:=xs) (i:=k) om
 obtain ⟨bb3,oo3,rfl⟩:=ha.base hx
 obtain ⟨_,⟨rfl,hb4⟩,hc4⟩:=ha.elem hx
 refine xIx Tryz.underlying103 sz9 (h:=y1 lk9 hc4 0 (h:=xM (h:=Zc9 (h:=Zc rfl (fun g2=>?_) (fun g2=>?_)))))
 try simp only [sQ,ne_eq] at g2
 refine Za (xA (h:=Zi (ZE (Zn (ZS (ZE (Zn ?_)))))))
 exact ZB .ret (.inl rfl) [_] t1 ⟨Zh (ZuV hx g2),rfl,rfl⟩
 try simp only [sQ,ne_eq] at g2
 refine Zf (ZP (Zd (Zk (xM (h:=xD (h:=xA (h:=?_)))))))
 exact ZD (k+1) [] so2 ⟨rfl,oz,Za1 hx hn g2⟩ t3 rfl
 try simp only [sQ,ne_eq] at g1
 refine ZI (ZY (ZM (Zv (Zd (Za (xA (h:=Zi ?_)))))))
 exact ZB .ret (.inl rfl) [_] t1 ⟨Zh (ZuW (Za6 oz hn)),rfl,rfl⟩

set_option maxHeartbeats 400000 in
theorem Zl9 (q:Option Addr) (cp:Nat) (xs:List Str) (B:Kn) (ha:SlK B q cp 1 Zek xs):Zaa (pj J) 122 [.slice q xs.length cp] B (.bool (ZcC xs)):=by
 refine Zb 29 Tryz.func122 rfl rfl rfl (Nat.le_of_ble_eq_true rfl) ?_
 have han:=ha.len
 refine Za (xA (h:=Zg (Za (xA (h:=Zl (ZC (α:=Nat) [0] (fun k=>[(3,.int .i64 k)]) [] (fun k=>[]) (fun k Bx=>Bx=B∧k≤xs.length∧(xs.take k).all Zak=true∧(xs.take k).Nodup) (fun k=>xs.length - k) 0 t1 rfl (⟨rfl,Nat.zero_le _,by simp,by simp⟩) (fun k B1 hle1 hI=>?_)))))))
 obtain ⟨rfl,hk,hv,hn⟩:=hI
 refine ZL [(0,_),(3,_)] [] t2 rfl (Zg (Za (xM (h:=xM (h:=xV Tryz.underlying103 (h:=ZF (h:=Zc rfl (fun g1=>?_) (fun g1=>?_))))))))
 try simp only [sQ,ne_eq] at g1
 refine Zf (Zd (Zg (Zl (Zg (Zan (same _ _) mo kr ⟨rfl,rfl⟩ (fun _ _=>?_))))))
 refine aM 0 rfl (h:=aM 1 rfl (h:=?_))
 obtain ⟨x,hx⟩:=ZW (xs:=xs) (i:=k) om
 obtain ⟨bb3,oo3,rfl⟩:=ha.base hx
 obtain ⟨_,⟨rfl,hb4⟩,hc4⟩:=ha.elem hx
 refine aIx 2 rfl Tryz.underlying103 sz9 (h:=aT 3 rfl (Zaq fun D=>Zs rfl rfl lk9 rfl (hc4 _ 0 _ rfl) r4) (h:=aT 4 rfl (Zaq fun D=>Zam rfl rfl Zrp rfl (ZbW _ om2 _) r4) (h:=?_)))
 refine aN 5 rfl (h:=aM 6 rfl (h:=Zav (d:=16) rfl (fun g2=>?_) (fun g2=>?_)))
 try simp only [sQ,ne_eq] at g2
 refine aZ 7 rfl (h:=aZ 8 rfl (h:=aZ 9 rfl (h:=aZ 10 rfl (h:=aZ 11 rfl (h:=aZ 12 rfl (h:=aZ 13 rfl (h:=aZ 14 rfl (h:=aPT 15 rfl (h:=Zz kr kr ?_)))))))))
 refine Zd (Zc (t:=true) rfl (fun _=>Za (xA (h:=Zi (ZE (Zn (ZS (ZE (Zn ?_)))))))) (fun h=>Bool.noConfusion h))
 exact ZB .ret (.inl rfl) [_] t1 ⟨Zh (Zge hx g2),rfl,rfl⟩
 try simp only [sQ,ne_eq] at g2
 refine aM 7 rfl (h:=aM 8 rfl (h:=?_))
 obtain ⟨hq6,q6,cp6,hv6,hr6⟩:=ha.cutE 0 k om om
 have hr6n:=hr6.len
 refine aT 9 rfl (Zaq fun D=>ZmK (a:=0) (b:=k) hv6 om hq6 rfl rfl Tryz.underlying103 sz9 rfl rfl ⟨_,_,rfl,by first | omega | (simp;done) | (simp;omega)⟩ r4) (h:=?_)
 refine aM 10 rfl (h:=aM 11 rfl (h:=aIx 12 rfl Tryz.underlying103 sz9 (h:=aT 13 rfl (Zaq fun D=>Zs rfl rfl lk9 rfl (hc4 _ 0 _ rfl) r4) (h:=aT 14 rfl (Zaq fun D=>Zam rfl rfl ZtK rfl (Zpg _ _ _ _ _ hr6) r4) (h:=aPF 15 rfl (h:=Zz kr kr ?_))))))
 refine Zd (Zc rfl (fun g3=>?_) (fun g3=>?_))
 try simp only [sQ,ne_eq] at g3
 refine Za (xA (h:=Zi (ZE (Zn (ZS (ZE (Zn ?_)))))))
 exact ZB .ret (.inl rfl) [_] t1 ⟨Zh (Zgd hx (by simpa using g3)),rfl,rfl⟩
 try simp only [sQ,ne_eq] at g3
 refine Zf (ZP (Zd (Zk (xM (h:=xD (h:=xA (h:=?_)))))))
 exact ZD (k+1) [] so2 ⟨rfl,oz,Zhx hx g2 hv,Znn hx hn (by simpa using g3)⟩ t2 rfl
 try simp only [sQ,ne_eq] at g1
 refine ZI (ZY (ZM (Zv (Zd (Za (xM (h:=xV Tryz.underlying103 (h:=ZbQ (h:=xA (h:=Zi ?_))))))))))
 exact ZB .ret (.inl rfl) [_] t1 ⟨Zh (Zg0 oz hv hn),rfl,rfl⟩

set_option maxHeartbeats 400000 in
theorem Zi5 (q:Option Addr) (cp:Nat) (x:DLetter) (B:Kn) (ha:SlK B q cp 1 Zek x.to_) (h1:x.fr.length≤2000000) (h2:x.text.length≤2000000):Zaa (pj J) 90 [.agg #[str x.fr,.slice q x.to_.length cp,str x.text]] B (.bool (Zci x)):=by
 refine Zb 23 Tryz.func90 rfl rfl rfl (Nat.le_of_ble_eq_true rfl) ?_
 refine Za (xBx [_,_,_] (h:=fun b1=>xA (h:=ZH [_] rfl (Za (xW ZnY (h:=x1 lk9 0 (h:=xR Zrp rfl (ZbW _ om2 _) (h:=?_))))))))
 refine xM (h:=Zw (d:=6) rfl (fun g1=>?_) (fun g1=>?_))
 try simp only [sQ,ne_eq] at g1
 refine xW ZkH (h:=x1 Zgn 0 (h:=xR Zt2 rfl (Zl9 _ _ _ _ ha) (h:=xT (h:=xM (h:=Zw (d:=11) rfl (fun g2=>?_) (fun g2=>?_))))))
 try simp only [sQ,ne_eq] at g2
 refine xW ZkH (h:=x1 Zgn 0 (h:=xV Tryz.underlying103 (h:=ZdV (h:=xT (h:=xM (h:=Zw (d:=17) rfl (fun g3=>?_) (fun g3=>?_)))))))
 try simp only [sQ,ne_eq] at g3
 refine xW ZnX (h:=x1 lk9 0 (h:=xVs Tryz.underlying9 (h:=ZbQ (h:=xT (h:=xA (h:=Zi ?_))))))
 exact ZB .ret (.inl rfl) [_] t1 ⟨Zh (by rw [Bool.eq_iff_iff];simp [Zci,g1,g2,g3];try omega),rfl,rfl⟩
 try simp only [sQ,ne_eq] at g3
 refine xP (h:=xP (h:=xP (h:=xP (h:=xF (h:=xA (h:=Zi ?_))))))
 exact ZB .ret (.inl rfl) [_] t1 ⟨Zh (by rw [Bool.eq_iff_iff];simp [Zci,g1,g2,g3];try omega),rfl,rfl⟩
 try simp only [sQ,ne_eq] at g2
 refine xP (h:=xP (h:=xP (h:=xP (h:=xF (h:=xM (h:=xP (h:=xP (h:=xP (h:=xP (h:=xF (h:=xA (h:=Zi ?_))))))))))))
 exact ZB .ret (.inl rfl) [_] t1 ⟨Zh (by rw [Bool.eq_iff_iff];simp [Zci,g1,g2];try omega),rfl,rfl⟩
 try simp only [sQ,ne_eq] at g1
 refine xP (h:=xP (h:=xP (h:=xF (h:=xM (h:=xP (h:=xP (h:=xP (h:=xP (h:=xF (h:=xM (h:=xP (h:=xP (h:=?_)))))))))))))
 refine xP (h:=xP (h:=xF (h:=xA (h:=Zi ?_))))
 exact ZB .ret (.inl rfl) [_] t1 ⟨Zh (by rw [Bool.eq_iff_iff];simp [Zci,g1];try omega),rfl,rfl⟩

set_option maxHeartbeats 400000 in
theorem Zq8 (q:Option Addr) (cp:Nat) (xs:List Str) (v:Str) (B:Kn) (ha:SlK B q cp 1 Zek xs):Zaa (pj J) 174 [.slice q xs.length cp,str v] B (.int .i64 (Ztn xs v)):=by
 refine Zb 19 Tryz.func174 rfl rfl rfl (Nat.le_of_ble_eq_true rfl) ?_
 have han:=ha.len
 refine Za (xA (h:=Zg (Za (xM (h:=xV Tryz.underlying103 (h:=xM (h:=Zl (ZC (α:=Nat) [0,1,7] (fun k=>[(8,.int .i64 k)]) [] (fun k=>[]) (fun k Bx=>Bx=B∧k≤xs.length∧∀x,x∈xs.take k→decide (x=v)=false) (fun k=>xs.length - k) 0 t1 rfl (⟨rfl,Nat.zero_le _,by simp⟩) (fun k B1 hle1 hI=>?_)))))))))
 obtain ⟨rfl,hk,hn⟩:=hI
 refine ZL [(0,_),(1,_),(7,_),(8,_)] [] t4 rfl (Za (ZF (h:=Zg (Zc rfl (fun g1=>?_) (fun g1=>?_)))))
 try simp only [sQ,ne_eq] at g1
 refine Zf (Zd (Zg (Zl (Za (xM (h:=xA (h:=Za (xM (h:=xM (h:=xM (h:=?_)))))))))))
 obtain ⟨x,hx⟩:=ZW (xs:=xs) (i:=k) om
 obtain ⟨bb3,oo3,rfl⟩:=ha.base hx
 obtain ⟨_,⟨rfl,hb4⟩,hc4⟩:=ha.elem hx
 refine xIx Tryz.underlying103 sz9 (h:=y1 lk9 hc4 0 (h:=Zc9 (h:=Zc rfl (fun g2=>?_) (fun g2=>?_))))
 try simp only [sQ,ne_eq] at g2
 refine Za (xM (h:=xA (h:=Zi (ZE (Zn (ZS (ZE (Zn ?_))))))))
 exact ZB .ret (.inl rfl) [_] t1 ⟨ZN (Zgv hx (by simp [g2]) hn).symm,rfl,rfl⟩
 try simp only [sQ,ne_eq] at g2
 refine Zf (ZP (Zd (Zk (xD (h:=xM (h:=?_))))))
 exact ZD (k+1) [] so2 ⟨rfl,oz,Za1 hx hn (by simp [Ne.symm g2])⟩ t4 rfl
 try simp only [sQ,ne_eq] at g1
 refine ZI (ZY (ZM (Zv (Zd (Za (xA (h:=Zi ?_)))))))
 exact ZB .ret (.inl rfl) [_] t1 ⟨ZN (Zeb (Za6 oz hn)).symm,rfl,rfl⟩

set_option maxHeartbeats 400000 in
theorem Zmo (q:Option Addr) (cp:Nat) (xs:List Str) (v:Str) (B:Kn) (ha:SlK B q cp 1 Zek xs):Zaa (pj J) 163 [.slice q xs.length cp,str v] B (.bool (decide (v∈xs))):=by
 refine Zb 9 Tryz.func163 rfl rfl rfl (Nat.le_of_ble_eq_true rfl) ?_
 refine Za (xA (h:=Za (xM (h:=xM (h:=xR ZtA rfl (Zq8 _ _ _ _ _ ha) (h:=ZdW (h:=xA (h:=Zi ?_))))))))
 exact ZB .ret (.inl rfl) [_] t1 ⟨Zh (by rw [Bool.eq_iff_iff];simp [Zpm]),rfl,rfl⟩

set_option maxHeartbeats 400000 in
theorem Zkl (q:Option Addr) (cp:Nat) (xs:List Str) (B:Kn) (ha:SlK B q cp 1 Zek xs):Zaa (pj J) 129 [.slice q xs.length cp] B (.bool (decide (1≤xs.length) && ZcC xs)):=by
 refine Zb 31 Tryz.func129 rfl rfl rfl (Nat.le_of_ble_eq_true rfl) ?_
 have han:=ha.len
 refine Za (xA (h:=Zg (Za (xM (h:=xV Tryz.underlying103 (h:=ZF (h:=xM (h:=Zw (d:=8) rfl (fun g1=>?_) (fun g1=>?_)))))))))
 try simp only [sQ,ne_eq] at g1
 refine xP (h:=xP (h:=xP (h:=xT (h:=Zc (t:=true) rfl (fun _=>Za (xA (h:=Zi (Zn ?_)))) (fun h=>Bool.noConfusion h)))))
 exact ZB .ret (.inl rfl) [_] t1 ⟨Zh (by simp;omega),rfl,rfl⟩
 try simp only [sQ,ne_eq] at g1
 refine xM (h:=xV Tryz.underlying103 (h:=ZdV (h:=xF (h:=Zc rfl (fun g2=>?_) (fun g2=>?_)))))
 try simp only [sQ,ne_eq] at g2
 refine Za (xA (h:=Zi (Zn ?_)))
 exact ZB .ret (.inl rfl) [_] t1 ⟨Zh (by simp [ZcC];omega),rfl,rfl⟩
 try simp only [sQ,ne_eq] at g2
 refine Zf (Zd (Zg (Za (xM (h:=xV Tryz.underlying103 (h:=xM (h:=Zl (ZC (α:=Nat) [0,12,13,14] (fun k=>[(15,.int .i64 k)]) [] (fun k=>[]) (fun k Bx=>Bx=B∧k≤xs.length∧(xs.take k).all Zak=true∧(xs.take k).Nodup) (fun k=>xs.length - k) 0 t1 rfl (⟨rfl,Nat.zero_le _,by simp,by simp⟩) (fun k B1 hle1 hI=>?_)))))))))
 obtain ⟨rfl,hk,hv,hn⟩:=hI
 refine ZL [(0,_),(12,_),(13,_),(14,_),(15,_)] [] t5 rfl (Za (ZF (h:=Zg (Zc rfl (fun g3=>?_) (fun g3=>?_)))))
 try simp only [sQ,ne_eq] at g3
 refine Zf (Zd (Zg (Zl (Za (xM (h:=?_))))))
 obtain ⟨x,hx⟩:=ZW (xs:=xs) (i:=k) om
 obtain ⟨bb3,oo3,rfl⟩:=ha.base hx
 obtain ⟨_,⟨rfl,hb4⟩,hc4⟩:=ha.elem hx
 refine xIx Tryz.underlying103 sz9 (h:=y1 lk9 hc4 0 (h:=xA (h:=xA (h:=Za (xM (h:=xR ZjJ rfl (Zbr _ om2 _) (h:=?_)))))))
 refine xN (h:=xM (h:=Zw (d:=23) rfl (fun g4=>?_) (fun g4=>?_)))
 try simp only [sQ,ne_eq] at g4
 refine xP (h:=xP (h:=xP (h:=xP (h:=xP (h:=xT (h:=Zc (t:=true) rfl (fun _=>Za (xA (h:=Zi (ZE (Zn (ZS (ZE (Zn ?_)))))))) (fun h=>Bool.noConfusion h)))))))
 exact ZB .ret (.inl rfl) [_] t1 ⟨Zh (by rw [← Zge hx g4,Bool.and_false]),rfl,rfl⟩
 try simp only [sQ,ne_eq] at g4
 refine xM (h:=xM (h:=?_))
 obtain ⟨hq6,q6,cp6,hv6,hr6⟩:=ha.cutE 0 k om om
 have hr6n:=hr6.len
 refine Zo (ZmK (a:=0) (b:=k) hv6 om hq6 rfl rfl Tryz.underlying103 sz9 rfl rfl ⟨_,_,rfl,by first | omega | (simp;done) | (simp;omega)⟩ ?_)
 refine xM (h:=xR ZtG rfl (Zmo _ _ _ _ _ hr6) (h:=xF (h:=Zc rfl (fun g5=>?_) (fun g5=>?_))))
 try simp only [sQ,ne_eq] at g5
 refine Za (xA (h:=Zi (ZE (Zn (ZS (ZE (Zn ?_)))))))
 exact ZB .ret (.inl rfl) [_] t1 ⟨Zh (by rw [← Zgd hx (by simpa using g5),Bool.and_false]),rfl,rfl⟩
 try simp only [sQ,ne_eq] at g5
 refine Zf (ZP (Zd (Zk (xD (h:=xM (h:=?_))))))
 exact ZD (k+1) [] so2 ⟨rfl,oz,Zhx hx g4 hv,Znn hx hn (by simpa using g5)⟩ t5 rfl
 try simp only [sQ,ne_eq] at g3
 refine ZI (ZY (ZM (Zv (Zd (Za (xA (h:=Zi ?_)))))))
 exact ZB .ret (.inl rfl) [_] t1 ⟨Zh (by rw [← Zg0 oz hv hn];simp;omega),rfl,rfl⟩

set_option maxHeartbeats 400000 in
theorem Zju (q:Option Addr) (cp:Nat) (x:DLetter) (B:Kn) (ha:SlK B q cp 1 Zek x.to_) (h1:x.fr.length≤2000000) (h2:x.text.length≤2000000):Zaa (pj J) 101 [.agg #[str x.fr,.slice q x.to_.length cp,str x.text]] B (.bool (Zci x)):=by
 refine Zb 17 Tryz.func101 rfl rfl rfl (Nat.le_of_ble_eq_true rfl) ?_
 refine Za (xBx [_,_,_] (h:=fun b1=>xA (h:=ZH [_] rfl (Za (xW ZnY (h:=x1 lk9 0 (h:=xR ZjJ rfl (Zbr _ om2 _) (h:=?_))))))))
 refine xM (h:=Zw (d:=6) rfl (fun g1=>?_) (fun g1=>?_))
 try simp only [sQ,ne_eq] at g1
 refine xW ZkH (h:=x1 Zgn 0 (h:=xR ZtW rfl (Zkl _ _ _ _ ha) (h:=xT (h:=xM (h:=Zw (d:=11) rfl (fun g2=>?_) (fun g2=>?_))))))
 try simp only [sQ,ne_eq] at g2
 refine xW ZnX (h:=x1 lk9 0 (h:=xVs Tryz.underlying9 (h:=ZbQ (h:=xT (h:=xA (h:=Zi ?_))))))
 exact ZB .ret (.inl rfl) [_] t1 ⟨Zh (by rw [Zd8];simp [g1,g2]),rfl,rfl⟩
 try simp only [sQ,ne_eq] at g2
 refine xP (h:=xP (h:=xP (h:=xP (h:=xF (h:=xA (h:=Zi ?_))))))
 exact ZB .ret (.inl rfl) [_] t1 ⟨Zh (by rw [Zd8];simp [g1,g2]),rfl,rfl⟩
 try simp only [sQ,ne_eq] at g1
 refine xP (h:=xP (h:=xP (h:=xF (h:=xM (h:=xP (h:=xP (h:=xP (h:=xP (h:=xF (h:=xA (h:=Zi ?_)))))))))))
 exact ZB .ret (.inl rfl) [_] t1 ⟨Zh (by rw [Zd8];simp [g1]),rfl,rfl⟩

set_option maxHeartbeats 400000 in
theorem Zkh (aq:Option Addr) (cq:Nat) (q:DQueue) (B:Kn) (hq:SlK B aq cq 4 ZG q.items):Zaa (pj J) 59 [.agg #[.int .i64 q.next,.slice aq q.items.length cq]] B (.bool (ZaO q)):=by
 refine Zb 48 Tryz.func59 rfl rfl rfl (Nat.le_of_ble_eq_true rfl) ?_
 have hqn:=hq.len
 refine Za (xBx [_,_] (h:=fun b1=>xA (h:=ZH [_] rfl (Za (xA (h:=Zg (Za (xA (h:=Zl (ZC (α:=Nat × Int) [0,1] (fun p=>[(3,.int .i64 p.2),(4,.int .i64 p.1)]) [] (fun p=>[]) (fun p Bx=>Bx=B∧p.1≤q.items.length∧Zdc 0 q.items=Zdc p.2 (q.items.drop p.1)∧0≤p.2∧p.2≤99) (fun p=>q.items.length - p.1) (0,0) t2 rfl (⟨rfl,Nat.zero_le _,rfl,by decide,by decide⟩) (fun p B2 hle2 hI=>?_)))))))))))
 obtain ⟨rfl,hk,hs,hl0,hl1⟩:=hI
 refine ZL [(0,_),(1,_),(3,_),(4,_)] [_] t4 rfl (Zg (Za (xM (h:=xW Zdl (h:=x1 Zmw 0 (h:=xV Tryz.underlying40 (h:=ZF (h:=Zc rfl (fun g1=>?_) (fun g1=>?_)))))))))
 try simp only [sQ,ne_eq] at g1
 refine Zf (Zd (Zg (Zl (Za (xW Zdl (h:=x1 Zmw 0 (h:=xM (h:=?_))))))))
 obtain ⟨x,hx⟩:=ZW (xs:=q.items) (i:=p.1) om
 obtain ⟨bb4,oo4,rfl⟩:=hq.base hx
 obtain ⟨_,⟨qi5,ci5,rfl,hi5,hb5,hb5b⟩,hc5⟩:=hq.elem hx
 have hi5n:=hi5.len
 refine xIx Tryz.underlying40 Zc3 (h:=?_)
 replace hs:=Znb hs hx
 refine yL [_,_,_,_] ZhB hc5 0 (h:=xAl [_,_,_,_] Zh9 (h:=fun b6=>xS [_,_,_,_] 1 [_,_,_,_] Zc3 (h:=ZH [_,_] rfl (Zg (Za (xW Zeg (h:=x1 lk3 1 (h:=xM (h:=xD (h:=xR ZpB rfl (Zft _ _ _ _) (h:=xN (h:=xM (h:=?_)))))))))))))
 refine Zw (d:=24) rfl (fun g2=>?_) (fun g2=>?_)
 try simp only [sQ,ne_eq] at g2
 refine xP (h:=xP (h:=xP (h:=xP (h:=xP (h:=xP (h:=xP (h:=xP (h:=xP (h:=xT (h:=Zc (t:=true) rfl (fun _=>Za (xA (h:=?_))) (fun h=>Bool.noConfusion h)))))))))))
 refine Zi (Zn (ZE (Zn (ZS (ZE (Zn ?_))))))
 exact ZB .ret (.inl rfl) [_] t1 ⟨Zh (Zlj (by rw [hs,if_neg];intro h;simp [h.1] at g2)),rfl,rfl⟩
 try simp only [sQ,ne_eq] at g2
 simp only [Bool.and_eq_true,decide_eq_true_eq] at g2
 refine xW Zef (h:=x1 lk9 1 (h:=xW Zee (h:=x1 Zgn 1 (h:=xW Zf0 (h:=x1 lk9 1 (h:=xB [(0,_),(1,_),(2,_)] [_,_,_] [_,_,_] Zsd ZrK (h:=xR Zu9 rfl (Zi5 _ _ ⟨x.fr,x.left,x.text⟩ _ hi5 oa oa) (h:=?_))))))))
 refine xN (h:=xF (h:=Zc rfl (fun g3=>?_) (fun g3=>?_)))
 try simp only [sQ,ne_eq] at g3
 refine Za (xA (h:=Zi (Zn (ZE (Zn (ZS (ZE (Zn ?_))))))))
 exact ZB .ret (.inl rfl) [_] t1 ⟨Zh (Zlj (by rw [hs,if_neg];intro h;rw [Zfu,g3] at h;cases h.2)),rfl,rfl⟩
 try simp only [sQ,ne_eq] at g3
 refine Zf (Zd (Zk (xW Zeg (h:=x1 lk3 1 (h:=xA (h:=ZP (Zd (Zk (xM (h:=xD (h:=xA (h:=?_))))))))))))
 exact ZD (p.1+1,x.id) [0] so2 ⟨rfl,so,by rw [hs,if_pos ⟨g2,g3⟩],so,so⟩ t4 rfl
 try simp only [sQ,ne_eq] at g1
 rw [Zof oz,Zdc] at hs
 refine ZI (ZY (ZM (Zv (Zd (Za (xW Zhi (h:=x1 lk3 0 (h:=xM (h:=xD (h:=xR ZpB rfl (Zft _ _ _ _) (h:=xM (h:=Zw (d:=42) rfl (fun g1=>?_) (fun g1=>?_)))))))))))))
 try simp only [sQ,ne_eq] at g1
 refine xW Zdl (h:=x1 Zmw 0 (h:=xV Tryz.underlying40 (h:=ZbQ (h:=xT (h:=xA (h:=Zi ?_))))))
 exact ZB .ret (.inl rfl) [_] t1 ⟨Zh (by rw [← Zli hs,Bool.eq_iff_iff];simp [g1,g1];try omega),rfl,rfl⟩
 try simp only [sQ,ne_eq] at g1
 refine xP (h:=xP (h:=xP (h:=xP (h:=xF (h:=xA (h:=Zi ?_))))))
 exact ZB .ret (.inl rfl) [_] t1 ⟨Zh (by rw [← Zli hs,Bool.eq_iff_iff];simp [g1,g1];try omega),rfl,rfl⟩

set_option maxHeartbeats 400000 in
theorem ZnM (q:Option Addr) (m cp:Nat) (B:Kn):Zaa (pj J) 191 [.slice q m cp] B (.int .i64 m):=by
 refine Zb 5 Tryz.func191 rfl rfl rfl (Nat.le_of_ble_eq_true rfl) ?_
 refine Za (xA (h:=Za (xM (h:=xV Tryz.underlying183 (h:=xA (h:=Zi ?_))))))
 exact ZB .ret (.inl rfl) [_] t1 ⟨rfl,rfl,rfl⟩

set_option maxHeartbeats 400000 in
theorem Zfw (q:Option Addr) (cp:Nat) (xs:List Int) (i j:Nat) (a b:Int) (hi:xs[i]? = some a) (hj:xs[j]? = some b) (B:Kn) (hx:SlK B q cp 1 ZbN xs):Zaa (pj J) 192 [.slice q xs.length cp,.int .i64 i,.int .i64 j] B (.bool (decide (a<b))):=by
 refine Zb 16 Tryz.func192 rfl rfl rfl (Nat.le_of_ble_eq_true rfl) ?_
 have hil:=Zbe hi
 have hjl:=Zbe hj
 refine Za (xA (h:=Zg (Zan (same _ _) mo kr ⟨rfl,rfl⟩ (fun _ _=>?_))))
 refine aM 0 rfl (h:=aM 1 rfl (h:=?_))
 obtain ⟨z,hz⟩:=ZW (xs:=xs) (i:=i) om
 obtain ⟨bb2,oo2,rfl⟩:=hx.base hz
 obtain ⟨_,rfl,hc3⟩:=hx.elem hz
 refine aIx 2 rfl Tryz.underlying182 sz3 (h:=aT 3 rfl (Zaq fun D=>Zs rfl rfl lk3 rfl (hc3 _ 0 _ rfl) r4) (h:=aM 4 rfl (h:=aM 5 rfl (h:=?_))))
 obtain ⟨w,hw⟩:=ZW (xs:=xs) (i:=j) om
 obtain ⟨_,rfl,hc5⟩:=hx.elem hw
 refine aIx 6 rfl Tryz.underlying182 sz3 (h:=?_)
 rw [hi] at hz
 cases hz
 rw [hj] at hw
 cases hw
 refine aT 7 rfl (Zaq fun D=>Zs rfl rfl lk3 rfl (hc5 _ 0 _ rfl) r4) (h:=ZpQ 8 rfl (h:=aA 9 rfl (h:=Zz kr kr ?_)))
 refine Zd (Zi ?_)
 exact ZB .ret (.inl rfl) [_] t1 ⟨rfl,rfl,rfl⟩

set_option maxHeartbeats 400000 in
theorem Zpn (b:Nat) (q:Option Addr) (cp:Nat) (xs:List Int) (l:Cells) (z:Int) (hn:xs.length≤2000000) (B:Kn) (hv:Z3 B l q cp 3 1 ZbN xs):ZJ (pj J) 194 [ptr ⟨b,0,none⟩,.iface 3 (.int .i64 z)] B [ZaK b [.slice q xs.length cp] 183,l] (fun v B' Ls=>B'=B∧∃q' c' l',Ls=[ZaK b [.slice q' (xs ++ [z]).length c'] 183,l']∧Z3 B l' q' c' 3 1 ZbN (xs ++ [z])):=by
 refine Zb 13 Tryz.func194 rfl rfl rfl (Nat.le_of_ble_eq_true rfl) ?_
 refine Zan (keeps _ [0] _) mo kr ⟨Kn.le.refl _,ZbF.refl _ _⟩ (fun _ _=>?_)
 refine aM 0 rfl (h:=aM 1 rfl (h:=aNc 2 rfl (h:=aT 3 rfl (Zah fun D B L hI=>Zs rfl rfl Zez rfl (atL 0 (hI.2.1.trans rfl) rfl rfl) r4) (h:=aM 4 rfl (h:=aT 5 rfl (Zah fun D B L hI=>ZiS rfl rfl Tryz.underlying3 rfl rfl r4) (h:=Z4 6 kr rfl kr (ZZ (parts:=[(0,_)]) [_] rfl rfl Tryz.underlying182 sz3 zo3 rfl rfl rfl rfl rfl (fun b1=>?_))))))))
 refine ⟨⟨Kn.le.refl _,t1⟩,(Z4 7 kr rfl kr (ZgE (z:=z) (R:=ZbN) 1 rfl hv rfl rfl rfl Ztr Ztf rfl rfl (ZbL.box 2 rfl) rfl rfl (rfl) om (fun l2 p2 c2 hv2=>?_)))⟩
 refine ⟨⟨Kn.le.refl _,t1⟩,(aNc 8 rfl (h:=ZkS 9 kr rfl kr kr kr (Zd0 [_] 0 [_] rfl rfl Zr5 rfl rfl rfl rfl rfl rfl rfl rfl ?_)))⟩
 exact Zbx .normal (.inr rfl) [] [0,1] rfl trivial ⟨rfl,_,_,_,rfl,hv2⟩

set_option maxHeartbeats 400000 in
theorem Zq9 (b:Nat) (q:Option Addr) (cp:Nat) (xs:List Int) (l:Cells) (z:Int) (hz:xs[xs.length - 1]? = some z) (hn:xs.length≤2000000) (B:Kn) (hv:Z3 B l q cp 3 1 ZbN xs):ZJ (pj J) 193 [ptr ⟨b,0,none⟩] B [ZaK b [.slice q xs.length cp] 183,l] (fun v B' Ls=>B'=B∧v = .iface 3 (.int .i64 z)∧Ls=[ZaK b [.slice q (xs.length - 1) cp] 183,l]∧Z3 B l q cp 3 1 ZbN (xs.take (xs.length - 1))):=by
 refine Zb 25 Tryz.func193 rfl rfl rfl (Nat.le_of_ble_eq_true rfl) ?_
 have hl1:=Zbe hz
 have hcp:=hv.cap
 have hv9:=hv.take (k:=xs.length - 1) oz
 have hs0:=hv.slice0 (sz:=1)
 refine Za (xA (h:=Za (xM (h:=xNc (h:=x1 Zez 0 (h:=xV Tryz.underlying183 (h:=Zo (Zia (r:=((xs.length - 1:Nat):Int)) rfl rfl rfl rfl (by rw [show ((xs.length:Int) - 1)=((xs.length - 1:Nat):Int) from by omega];exact ZbR oz oz) ?_))))))))
 refine xA (h:=Za (xM (h:=xNc (h:=x1 Zez 0 (h:=xM (h:=?_))))))
 obtain ⟨w,hw⟩:=ZW (xs:=xs) (i:=(xs.length - 1)) om
 obtain ⟨bb2,_,hp2,rfl,hw2,hc2⟩:=hv.row hw
 refine xIp hp2 Tryz.underlying182 sz3 (h:=?_)
 rw [hz] at hw
 cases hw
 refine Zo (Zs rfl rfl lk3 rfl (hc2 _ 1 rfl 0 _ rfl) (xA (h:=Za (xM (h:=xM (h:=xNc (h:=x1 Zez 0 (h:=xM (h:=Zo (Zk0 rfl rfl Tryz.underlying182 sz3 rfl (a:=0) (b:=xs.length - 1) rfl ⟨_,_,rfl,rfl⟩ oz oz ?_))))))))))
 rw [hs0]
 refine xNc (h:=xS [_] 0 [_] Zr5 (h:=ZH [_,_] rfl (Za (xM (h:=Zo (Zdu rfl rfl Tryz.underlying3 rfl rfl (xA (h:=Zi ?_))))))))
 exact Zbx .ret (.inl rfl) [_] [0,1] rfl t1 ⟨rfl,rfl,rfl,hv9⟩

set_option maxHeartbeats 400000 in
theorem Zfv (q:Option Addr) (cp:Nat) (xs:List Int) (l:Cells) (i j:Nat) (a b:Int) (hi:xs[i]? = some a) (hj:xs[j]? = some b) (hn:xs.length≤2000000) (B:Kn) (hv:Z3 B l q cp 3 1 ZbN xs):ZJ (pj J) 195 [.slice q xs.length cp,.int .i64 i,.int .i64 j] B [l] (fun v B' Ls=>B'=B∧∃l',Ls=[l']∧Z3 B l' q cp 3 1 ZbN ((xs.set i b).set j a)):=by
 refine Zb 20 Tryz.func195 rfl rfl rfl (Nat.le_of_ble_eq_true rfl) ?_
 have hil:=Zbe hi
 have hjl:=Zbe hj
 refine Zan (keeps _ [0] _) mo kr ⟨Kn.le.refl _,ZbF.refl _ _⟩ (fun _ _=>?_)
 refine aM 0 rfl (h:=aM 1 rfl (h:=aM 2 rfl (h:=aM 3 rfl (h:=aM 4 rfl (h:=aM 5 rfl (h:=?_))))))
 obtain ⟨y,hy⟩:=ZW (xs:=xs) (i:=j) om
 obtain ⟨bb2,_,hp2,rfl,hw2,hc2⟩:=hv.row hy
 refine aT 6 rfl (Zah fun D B L hI=>ZmI hp2 rfl rfl Tryz.underlying182 sz3 rfl rfl om om r4) (h:=?_)
 refine aT 7 rfl (Zah fun D B L hI=>Zs rfl rfl lk3 rfl (hc2 _ 0 (hI.2.1.trans rfl) 0 _ rfl) r4) (h:=aM 8 rfl (h:=aM 9 rfl (h:=?_)))
 obtain ⟨x,hx⟩:=ZW (xs:=xs) (i:=i) om
 obtain ⟨bb4,_,hp4,rfl,hw4,hc4⟩:=hv.row hx
 refine aT 10 rfl (Zah fun D B L hI=>ZmI hp4 rfl rfl Tryz.underlying182 sz3 rfl rfl om om r4) (h:=?_)
 refine aT 11 rfl (Zah fun D B L hI=>Zs rfl rfl lk3 rfl (hc4 _ 0 (hI.2.1.trans rfl) 0 _ rfl) r4) (h:=?_)
 obtain ⟨bb5,_,hp5,rfl,hw5,hc5⟩:=hv.row hx
 refine aT 12 rfl (Zah fun D B L hI=>ZmI hp5 rfl rfl Tryz.underlying182 sz3 rfl rfl om om r4) (h:=?_)
 refine Zou 13 kr rfl kr kr (ZgA (k:=i) (off:=0) (y) [_] 0 hv hp5 hx rfl rfl sz3 rfl rfl rfl rfl rfl rfl ((fun row h=>by cases h;rfl)) (fun l6 hv6=>?_))
 obtain ⟨w,hw⟩:=ZW (xs:=(xs.set i (y))) (i:=j) om
 obtain ⟨bb8,_,hp8,rfl,hw8,hc8⟩:=hv6.row hw
 refine aT 14 rfl (Zah fun D B L hI=>ZmI hp8 rfl rfl Tryz.underlying182 sz3 rfl rfl om om r4) (h:=?_)
 refine ZkS 15 kr rfl kr kr kr (ZgA (k:=j) (off:=0) (x) [_] 0 hv6 hp8 hw rfl rfl sz3 rfl rfl rfl rfl rfl rfl ((fun row h=>by cases h;rfl)) (fun l9 hv9=>?_))
 rw [hi] at hx
 cases hx
 rw [hj] at hy
 cases hy
 exact Zbx .normal (.inr rfl) [] [0] rfl trivial ⟨rfl,_,rfl,hv9⟩

set_option maxHeartbeats 400000 in
theorem Zpq (b:Nat) (q:Option Addr) (cp:Nat) (xs:List Int) (l:Cells) (j:Nat) (hj:j<xs.length) (hn:xs.length≤2000000) (hh:Ze6 xs j) (B:Kn) (hv:Z3 B l q cp 3 1 ZbN xs):ZJ (pj J) 164 [.iface 181 (ptr ⟨b,0,none⟩),.int .i64 j] B [ZaK b [.slice q xs.length cp] 183,l] (fun v B' Ls=>B'=B∧∃ys l',Ls=[ZaK b [.slice q ys.length cp] 183,l']∧Z3 B l' q cp 3 1 ZbN ys∧ys.Perm xs∧ZcP ys):=by
 refine Zb 23 Tryz.func164 rfl rfl rfl (Nat.le_of_ble_eq_true rfl) ?_
 refine Zl (ZC (α:=Nat × List Int × Cells) [0] (fun g=>[(1,.int .i64 g.1)]) [0,1] (fun g=>[ZaK b [.slice q g.2.1.length cp] 183,g.2.2]) (fun g Bx=>Bx=B∧g.1<g.2.1.length∧g.2.1.Perm xs∧Ze6 g.2.1 g.1∧Z3 B g.2.2 q cp 3 1 ZbN g.2.1) (fun g=>g.1) (j,xs,l) t1 rfl (⟨rfl,hj,.refl _,hh,hv⟩) (fun g B1 hle1 hI=>?_))
 obtain ⟨rfl,hk,hp,hb,hv⟩:=hI
 have hpl:=hp.length_eq
 refine ZL [(0,_),(1,_)] [_,_] t2 rfl (Zl (Za (xM (h:=Zo (Zia rfl rfl rfl rfl (ZbR oz oz) ?_)))))
 refine Zo (ZmD (r:=(((g.1 - 1) / 2:Nat):Int)) rfl rfl rfl rfl oz (by rw [show Int.tdiv ((g.1:Int) - 1) 2=(((g.1 - 1) / 2:Nat):Int) from Ztb g.1];exact ZbR oz oz) ?_)
 refine xA (h:=Zg (Za (xM (h:=xM (h:=ZkZ (h:=xM (h:=Zw (d:=11) rfl (fun g1=>?_) (fun g1=>?_))))))))
 try simp only [sQ,ne_eq] at g1
 refine xP (h:=xP (h:=xP (h:=xP (h:=xP (h:=xT (h:=Zc (t:=true) rfl (fun _=>ZI (ZY (Zeq rfl (ZM (Zv ?_))))) (fun h=>Bool.noConfusion h)))))))
 exact Zbx .normal (.inr rfl) [] [0,1] rfl trivial ⟨rfl,_,_,rfl,hv,hp,ZqD (by rw [show g.1=0 from by omega] at hb;exact hb)⟩
 try simp only [sQ,ne_eq] at g1
 refine xM (h:=xM (h:=xM (h:=Zo (ZeO 1 rfl rfl rfl Zod rfl rfl (ZaS Zdh Tryz.underlying181 Zez (atL 0 rfl rfl rfl)) (Zaa.borrow fun hm2=>Zfw _ _ _ _ _ _ _ (ZaC oz) (ZaC oz) _ (hv.lend ZbN.mono hm2 om)) ?_))))
 refine xN (h:=xF (h:=Zc rfl (fun g2=>?_) (fun g2=>?_)))
 try simp only [sQ,ne_eq] at g2
 refine ZI (ZY (Zeq rfl (ZM (Zv ?_))))
 exact Zbx .normal (.inr rfl) [] [0,1] rfl trivial ⟨rfl,_,_,rfl,hv,hp,ZqF hb (by simpa using g2)⟩
 try simp only [sQ,ne_eq] at g2
 refine Zf (Zd (Za (xM (h:=xM (h:=xM (h:=Zo (Zf9 [1] rfl rfl rfl rfl Zoc rfl rfl (ZaS Zdg Tryz.underlying181 Zez (atL 0 rfl rfl rfl)) (Zfv _ _ _ _ _ _ _ _ (ZaC oz) (ZaC oz) oz _ hv) ?_)))))))
 rintro _ B3 _ hle3 ⟨rfl,l3,rfl,hv3⟩
 refine ZH [_,_] rfl (Zk (xM (h:=xA (h:=ZP ?_))))
 rw [← Zcw g.2.1 ((g.1 - 1) / 2) g.1]
 exact ZD ((g.1 - 1) / 2,(swp g.2.1 ((g.1 - 1) / 2) g.1),l3) [0,1] (so) ⟨rfl,by have:=Zcw g.2.1 ((g.1 - 1) / 2) g.1;simp only [];omega,(Zfe oz oz).trans hp,ZqE oz oz hb (by simpa using g2),hv3⟩ t2 rfl

set_option maxHeartbeats 400000 in
theorem Zme (b:Nat) (q:Option Addr) (cp:Nat) (xs:List Int) (l:Cells) (z:Int) (hn:xs.length<2000000) (hh:ZcP xs) (B:Kn) (hv:Z3 B l q cp 3 1 ZbN xs):ZJ (pj J) 130 [.iface 181 (ptr ⟨b,0,none⟩),.iface 3 (.int .i64 z)] B [ZaK b [.slice q xs.length cp] 183,l] (fun v B' Ls=>B'=B∧∃q' c' ys l',Ls=[ZaK b [.slice q' ys.length c'] 183,l']∧Z3 B l' q' c' 3 1 ZbN ys∧ys.Perm (xs ++ [z])∧ZcP ys):=by
 refine Zb 12 Tryz.func130 rfl rfl rfl (Nat.le_of_ble_eq_true rfl) ?_
 refine Za (xM (h:=xM (h:=Zo (Zf9 [0,1] rfl rfl rfl rfl Zty rfl rfl (ZjB Zl3 Tryz.underlying181) (Zpn _ _ _ _ _ _ oz _ hv) ?_))))
 rintro _ B1 _ hle1 ⟨rfl,q1,c1,l1,rfl,hv1⟩
 refine ZH [_,_] rfl (Zk (xM (h:=xM (h:=Zo (ZeO 1 rfl rfl rfl Zsx rfl rfl (ZaS Zji Tryz.underlying181 Zez (atL 0 rfl rfl rfl)) (Zaa.borrow fun hm2=>ZnM _ _ _ _) (Zo (Zia (r:=((xs.length:Nat):Int)) rfl rfl rfl rfl ((congrArg _ (show _=((xs.length:Nat):Int) from by rw [List.length_append,List.length_singleton];omega)).trans (ZbR oz oz)) ?_)))))))
 refine Zo (Zat [0,1] rfl rfl rfl rfl ZtF rfl (Zpq _ _ _ _ _ _ (by simp) (by simp;omega) (ZoZ hh) _ hv1) ?_)
 rintro _ Bu _ hleu ⟨rfl,ysu,lu,rfl,hvu,hpu,hhu⟩
 exact Zbx .normal (.inr rfl) [] [0,1] rfl trivial ⟨rfl,_,_,_,_,rfl,hvu,hpu,hhu⟩

set_option maxHeartbeats 400000 in
theorem Zmg (b:Nat) (q:Option Addr) (cp:Nat) (xs:List Int) (l:Cells) (m:Nat) (hm:m≤xs.length) (hm0:0<xs.length) (hn:xs.length≤2000000) (hh:Zel xs m 0) (B:Kn) (hv:Z3 B l q cp 3 1 ZbN xs):ZJ (pj J) 165 [.iface 181 (ptr ⟨b,0,none⟩),.int .i64 0,.int .i64 m] B [ZaK b [.slice q xs.length cp] 183,l] (fun v B' Ls=>B'=B∧∃ys l',Ls=[ZaK b [.slice q ys.length cp] 183,l']∧Z3 B l' q cp 3 1 ZbN ys∧ys.Perm xs∧ZpU ys m∧(∀k,m≤k→hat ys k=hat xs k)):=by
 refine Zb 48 Tryz.func165 rfl rfl rfl (Nat.le_of_ble_eq_true rfl) ?_
 refine Za (xA (h:=Za (xM (h:=xA (h:=Zg (Zl (ZC (α:=Nat × List Int × Cells) [0,1,2,6] (fun g=>[(7,.int .i64 g.1)]) [0,1] (fun g=>[ZaK b [.slice q g.2.1.length cp] 183,g.2.2]) (fun g Bx=>Bx=B∧g.1<g.2.1.length∧g.2.1.Perm xs∧Zel g.2.1 m g.1∧(∀k,m≤k→hat g.2.1 k=hat xs k)∧Z3 B g.2.2 q cp 3 1 ZbN g.2.1) (fun g=>xs.length - g.1) (0,xs,l) t1 rfl (⟨rfl,hm0,.refl _,hh,fun _ _=>rfl,hv⟩) (fun g B1 hle1 hI=>?_))))))))
 obtain ⟨rfl,hk,hp,hb,hs,hv⟩:=hI
 have hpl:=hp.length_eq
 refine ZL [(0,_),(1,_),(2,_),(6,_),(7,_)] [_,_] t5 rfl (Zl (Za (xM (h:=Zo (Zs5 (r:=((2*g.1:Nat):Int)) rfl rfl rfl rfl ((congrArg _ (show _=((2*g.1:Nat):Int) from by omega)).trans (ZbR oz oz)) ?_)))))
 refine Zo (Zgm (r:=((2*g.1+1:Nat):Int)) rfl rfl rfl rfl ((congrArg _ (show _=((2*g.1+1:Nat):Int) from by omega)).trans (ZbR oz oz)) ?_)
 refine xA (h:=Zg (Za (xM (h:=xM (h:=ZdW (h:=xM (h:=Zw (d:=18) rfl (fun g1=>?_) (fun g1=>?_))))))))
 try simp only [sQ,ne_eq] at g1
 refine xP (h:=xP (h:=xT (h:=Zc (t:=true) rfl (fun _=>ZI (ZY (Zeq rfl (ZM (Zv (Zd (Za (xM (h:=xM (h:=ZdV (h:=xA (h:=Zi ?_)))))))))))) (fun h=>Bool.noConfusion h))))
 exact Zbx .ret (.inl rfl) [_] [0,1] rfl t1 ⟨rfl,_,_,rfl,hv,hp,Zog hb oz,hs⟩
 try simp only [sQ,ne_eq] at g1
 refine xM (h:=ZF (h:=xF (h:=Zc rfl (fun g2=>by have:=of_decide_eq_true g2;omega) (fun g2=>?_))))
 try simp only [sQ,ne_eq] at g2
 refine Zf (Zd (Za (xM (h:=xA (h:=Zg (Za (xM (h:=Zo (Zgm (r:=((2*g.1+1+1:Nat):Int)) rfl rfl rfl rfl ((congrArg _ (show _=((2*g.1+1+1:Nat):Int) from by omega)).trans (ZbR oz oz)) ?_)))))))))
 refine xA (h:=Za (xM (h:=xM (h:=ZF (h:=xM (h:=Zw (d:=28) rfl (fun g3=>?_) (fun g3=>?_)))))))
 try simp only [sQ,ne_eq] at g3
 refine xM (h:=xM (h:=xM (h:=Zo (ZeO 1 rfl rfl rfl Zod rfl rfl (ZaS Zdh Tryz.underlying181 Zez (atL 0 rfl rfl rfl)) (Zaa.borrow fun hm2=>Zfw _ _ _ _ _ _ _ (ZaC oz) (ZaC oz) _ (hv.lend ZbN.mono hm2 om)) ?_))))
 refine xT (h:=Zc rfl (fun g4=>?_) (fun g4=>?_))
 try simp only [sQ,ne_eq] at g4
 refine Zk (xM (h:=xA (h:=Zd (Zg (Za (xM (h:=xM (h:=xM (h:=Zo (ZeO 1 rfl rfl rfl Zod rfl rfl (ZaS Zdh Tryz.underlying181 Zez (atL 0 rfl rfl rfl)) (Zaa.borrow fun hm3=>Zfw _ _ _ _ _ _ _ (ZaC oz) (ZaC oz) _ (hv.lend ZbN.mono hm3 om)) ?_))))))))))
 refine xN (h:=Zc rfl (fun g5=>?_) (fun g5=>?_))
 try simp only [sQ,ne_eq] at g5
 refine ZI (ZY (Zeq rfl (ZM (Zv (Zd (Za (xM (h:=xM (h:=ZdV (h:=xA (h:=Zi ?_)))))))))))
 exact Zbx .ret (.inl rfl) [_] [0,1] rfl t1 ⟨rfl,_,_,rfl,hv,hp,Zhp hb (by intro k h0 hk he;(try simp only [decide_eq_true_eq,decide_eq_false_iff_not,Bool.not_eq_true',Bool.not_eq_false',Int.not_lt] at *);rcases (show k=2*g.1+1∨k=2*g.1+1+1 from by omega) with rfl | rfl <;> omega),hs⟩
 try simp only [sQ,ne_eq] at g5
 refine Zf (Zd (Za (xM (h:=xM (h:=xM (h:=Zo (Zf9 [1] rfl rfl rfl rfl Zoc rfl rfl (ZaS Zdg Tryz.underlying181 Zez (atL 0 rfl rfl rfl)) (Zfv _ _ _ _ _ _ _ _ (ZaC oz) (ZaC oz) oz _ hv) ?_)))))))
 rintro _ B4 _ hle4 ⟨rfl,l4,rfl,hv4⟩
 refine ZH [_,_] rfl (Zk (xM (h:=xA (h:=ZP ?_))))
 rw [← Zcw g.2.1 g.1 (2*g.1+1+1)]
 have h5:hat g.2.1 (2*g.1+1+1)<hat g.2.1 g.1:=by simpa using g5
 exact ZD (2*g.1+1+1,(swp g.2.1 g.1 (2*g.1+1+1)),l4) [0,1] (so) ⟨rfl,by have:=Zcw g.2.1 g.1 (2*g.1+1+1);simp only [];omega,(Zfe oz oz).trans hp,Zho oz oz oz oz hb (by intro k h0 hk he;(try simp only [decide_eq_true_eq,decide_eq_false_iff_not,Bool.not_eq_true',Bool.not_eq_false',Int.not_lt] at *);rcases (show k=2*g.1+1∨k=2*g.1+1+1 from by omega) with rfl | rfl <;> omega) h5,(fun k hk=>by rw [Zec oz oz,if_neg oz,if_neg oz];exact hs k hk),hv4⟩ t5 rfl
 try simp only [sQ,ne_eq] at g4
 refine Zf (Zd (Zg (Za (xM (h:=xM (h:=xM (h:=Zo (ZeO 1 rfl rfl rfl Zod rfl rfl (ZaS Zdh Tryz.underlying181 Zez (atL 0 rfl rfl rfl)) (Zaa.borrow fun hm5=>Zfw _ _ _ _ _ _ _ (ZaC oz) (ZaC oz) _ (hv.lend ZbN.mono hm5 om)) ?_))))))))
 refine xN (h:=Zc rfl (fun g5=>?_) (fun g5=>?_))
 try simp only [sQ,ne_eq] at g5
 refine ZI (ZY (Zeq rfl (ZM (Zv (Zd (Za (xM (h:=xM (h:=ZdV (h:=xA (h:=Zi ?_)))))))))))
 exact Zbx .ret (.inl rfl) [_] [0,1] rfl t1 ⟨rfl,_,_,rfl,hv,hp,Zhp hb (by intro k h0 hk he;(try simp only [decide_eq_true_eq,decide_eq_false_iff_not,Bool.not_eq_true',Bool.not_eq_false',Int.not_lt] at *);rcases (show k=2*g.1+1∨k=2*g.1+1+1 from by omega) with rfl | rfl <;> omega),hs⟩
 try simp only [sQ,ne_eq] at g5
 refine Zf (Zd (Za (xM (h:=xM (h:=xM (h:=Zo (Zf9 [1] rfl rfl rfl rfl Zoc rfl rfl (ZaS Zdg Tryz.underlying181 Zez (atL 0 rfl rfl rfl)) (Zfv _ _ _ _ _ _ _ _ (ZaC oz) (ZaC oz) oz _ hv) ?_)))))))
 rintro _ B6 _ hle6 ⟨rfl,l6,rfl,hv6⟩
 refine ZH [_,_] rfl (Zk (xM (h:=xA (h:=ZP ?_))))
 rw [← Zcw g.2.1 g.1 (2*g.1+1)]
 have h5:hat g.2.1 (2*g.1+1)<hat g.2.1 g.1:=by simpa using g5
 exact ZD (2*g.1+1,(swp g.2.1 g.1 (2*g.1+1)),l6) [0,1] (so) ⟨rfl,by have:=Zcw g.2.1 g.1 (2*g.1+1);simp only [];omega,(Zfe oz oz).trans hp,Zho oz oz oz oz hb (by intro k h0 hk he;(try simp only [decide_eq_true_eq,decide_eq_false_iff_not,Bool.not_eq_true',Bool.not_eq_false',Int.not_lt] at *);rcases (show k=2*g.1+1∨k=2*g.1+1+1 from by omega) with rfl | rfl <;> omega) h5,(fun k hk=>by rw [Zec oz oz,if_neg oz,if_neg oz];exact hs k hk),hv6⟩ t5 rfl
 try simp only [sQ,ne_eq] at g3
 refine xP (h:=xP (h:=xP (h:=xP (h:=xF (h:=Zc (t:=false) rfl (fun h=>Bool.noConfusion h) (fun _=>Zf (Zd (Zg (Za (xM (h:=xM (h:=xM (h:=?_)))))))))))))
 refine Zo (ZeO 1 rfl rfl rfl Zod rfl rfl (ZaS Zdh Tryz.underlying181 Zez (atL 0 rfl rfl rfl)) (Zaa.borrow fun hm7=>Zfw _ _ _ _ _ _ _ (ZaC oz) (ZaC oz) _ (hv.lend ZbN.mono hm7 om)) ?_)
 refine xN (h:=Zc rfl (fun g5=>?_) (fun g5=>?_))
 try simp only [sQ,ne_eq] at g5
 refine ZI (ZY (Zeq rfl (ZM (Zv (Zd (Za (xM (h:=xM (h:=ZdV (h:=xA (h:=Zi ?_)))))))))))
 exact Zbx .ret (.inl rfl) [_] [0,1] rfl t1 ⟨rfl,_,_,rfl,hv,hp,Zhp hb (by intro k h0 hk he;(try simp only [decide_eq_true_eq,decide_eq_false_iff_not,Bool.not_eq_true',Bool.not_eq_false',Int.not_lt] at *);rcases (show k=2*g.1+1∨k=2*g.1+1+1 from by omega) with rfl | rfl <;> omega),hs⟩
 try simp only [sQ,ne_eq] at g5
 refine Zf (Zd (Za (xM (h:=xM (h:=xM (h:=Zo (Zf9 [1] rfl rfl rfl rfl Zoc rfl rfl (ZaS Zdg Tryz.underlying181 Zez (atL 0 rfl rfl rfl)) (Zfv _ _ _ _ _ _ _ _ (ZaC oz) (ZaC oz) oz _ hv) ?_)))))))
 rintro _ B8 _ hle8 ⟨rfl,l8,rfl,hv8⟩
 refine ZH [_,_] rfl (Zk (xM (h:=xA (h:=ZP ?_))))
 rw [← Zcw g.2.1 g.1 (2*g.1+1)]
 have h5:hat g.2.1 (2*g.1+1)<hat g.2.1 g.1:=by simpa using g5
 exact ZD (2*g.1+1,(swp g.2.1 g.1 (2*g.1+1)),l8) [0,1] (so) ⟨rfl,by have:=Zcw g.2.1 g.1 (2*g.1+1);simp only [];omega,(Zfe oz oz).trans hp,Zho oz oz oz oz hb (by intro k h0 hk he;(try simp only [decide_eq_true_eq,decide_eq_false_iff_not,Bool.not_eq_true',Bool.not_eq_false',Int.not_lt] at *);rcases (show k=2*g.1+1∨k=2*g.1+1+1 from by omega) with rfl | rfl <;> omega) h5,(fun k hk=>by rw [Zec oz oz,if_neg oz,if_neg oz];exact hs k hk),hv8⟩ t5 rfl

set_option maxHeartbeats 400000 in
theorem ZnO (b:Nat) (q:Option Addr) (cp:Nat) (xs:List Int) (l:Cells) (hm0:0<xs.length) (hn:xs.length≤2000000) (hh:ZcP xs) (B:Kn) (hv:Z3 B l q cp 3 1 ZbN xs):ZJ (pj J) 131 [.iface 181 (ptr ⟨b,0,none⟩)] B [ZaK b [.slice q xs.length cp] 183,l] (fun v B' Ls=>B'=B∧v = .iface 3 (.int .i64 (hat xs 0))∧∃ys l',Ls=[ZaK b [.slice q ys.length cp] 183,l']∧Z3 B l' q cp 3 1 ZbN ys∧(hat xs 0 :: ys).Perm xs∧ZcP ys):=by
 refine Zb 15 Tryz.func131 rfl rfl rfl (Nat.le_of_ble_eq_true rfl) ?_
 refine Za (xA (h:=Za (xM (h:=Zo (ZeO 1 rfl rfl rfl Zsx rfl rfl (ZaS Zji Tryz.underlying181 Zez (atL 0 rfl rfl rfl)) (Zaa.borrow fun hm1=>ZnM _ _ _ _) (Zo (Zia (r:=((xs.length - 1:Nat):Int)) rfl rfl rfl rfl ((congrArg _ (show _=((xs.length - 1:Nat):Int) from by omega)).trans (ZbR oz oz)) ?_)))))))
 refine xA (h:=Za (xM (h:=xM (h:=Zo (Zf9 [1] rfl rfl rfl rfl Zoc rfl rfl (ZaS Zdg Tryz.underlying181 Zez (atL 0 rfl rfl rfl)) (Zfv _ _ _ _ _ _ _ _ (ZaC oz) (ZaC oz) oz _ hv) ?_)))))
 rintro _ Bs _ hles ⟨rfl,ls,rfl,hvs⟩
 refine ZH [_,_] rfl ?_
 obtain ⟨zs,hzs,hzl⟩ :∃zs,zs=swp xs 0 (xs.length - 1)∧zs.length=xs.length:=⟨_,rfl,Zcw _ _ _⟩
 have hzz:=hvs
 change Z3 _ _ _ _ _ _ _ (swp xs 0 (xs.length - 1)) at hzz
 rw [← hzs] at hzz
 have hdb:Zel zs (zs.length - 1) 0:=by rw [hzl,hzs];exact ZqM hh hm0
 have hlz:hat zs (zs.length - 1)=hat xs 0:=by rw [hzl,hzs];exact ZoS hm0
 have hpz:zs.Perm xs:=hzs ▸ Zfe hm0 oz
 rw [← hzl]
 refine Za (xM (h:=xM (h:=Zo (Zat [0,1] rfl rfl rfl rfl ZtE rfl (Zmg _ _ _ _ _ _ oz oz oz hdb _ hzz) ?_))))
 rintro _ Bd _ hled ⟨rfl,ysd,ld,rfl,hvd,hpd,hhd,hsd⟩
 refine ZH [_,_] rfl ?_
 have hdl:=hpd.length_eq
 refine Za (xM (h:=Zo (Zf9 [0,1] rfl rfl rfl rfl Ztz rfl rfl (ZjB Zns Tryz.underlying181) (Zq9 _ _ _ _ _ _ (ZaC oz) oz _ hvd) ?_)))
 rintro _ Bo _ hleo ⟨rfl,rfl,rfl,hvo⟩
 refine xA (h:=ZH [_,_] rfl (Zi ?_))
 have hz9:hat ysd (ysd.length - 1)=hat xs 0:=by rw [hsd _ oz,hdl];exact hlz
 exact Zbx .ret (.inl rfl) [_] [0,1] rfl t1 ⟨rfl,by rw [hz9];rfl,_,_,by rw [show (ysd.take (ysd.length - 1)).length=ysd.length - 1 from by simp],hvo,Zo2 oz (hpd.trans hpz) hz9,Zmf (by rw [hdl];exact hhd) oz⟩

set_option maxHeartbeats 400000 in
theorem ZkE (q:Option Addr) (cp:Nat) (xs:List DItem) (last:Int) (B:Kn) (ha:SlK B q cp 4 ZG xs):Zaa (pj J) 102 [.slice q xs.length cp,.int .i64 last] B (.bool (asc 0 last (xs.map (·.id)))):=by
 refine Zb 53 Tryz.func102 rfl rfl rfl (Nat.le_of_ble_eq_true rfl) ?_
 have hxn:=ha.len
 refine Za (xA (h:=Za (xBs [] [] Tryz.underlying182 sz3 zo3 (h:=fun b1=>xBx [_] (h:=fun b2=>xA (h:=ZH [_,_] rfl (Zg (Za (xM (h:=xV Tryz.underlying40 (h:=xM (h:=Zl ?_))))))))))))
 refine ZC (α:=Gh Int) [0,1,4,5,14,15] (fun g=>[(16,.int .i64 g.k)]) [0,1] (fun g=>[g.l,ZaK b2 [.slice g.a g.xs.length g.c] 183]) (fun g Bx=>Bx=B∧g.k≤xs.length∧g.xs.Perm ((xs.take g.k).map (·.id))∧ZcP g.xs∧Z3 Bx g.l g.a g.c 3 1 ZbN g.xs) (fun g=>xs.length - g.k) ⟨0,0,_,_,_,[]⟩ t1 rfl (⟨rfl,Nat.zero_le _,.refl _,Zpo,.lit0⟩) (fun g B3 hle3 hI=>?_)
 obtain ⟨rfl,hk,hp,hh,hv⟩:=hI
 have hpl:=hp.length_eq
 rw [List.length_map,List.length_take] at hpl
 refine ZL [(0,_),(1,_),(4,_),(5,_),(14,_),(15,_),(16,_)] [_,_] t7 rfl (Za (ZF (h:=Zg (Zc rfl (fun g1=>?_) (fun g1=>?_)))))
 try simp only [sQ,ne_eq] at g1
 refine Zf (Zd (Zg (Zl (Za ?_))))
 obtain ⟨x,hx⟩:=ZW (xs:=xs) (i:=g.k) om
 obtain ⟨bb5,oo5,rfl⟩:=ha.base hx
 obtain ⟨_,⟨qi6,ci6,rfl,hi6,hb6,hb6b⟩,hc6⟩:=ha.elem hx
 have hi6n:=hi6.len
 refine xIx Tryz.underlying40 Zc3 (h:=yL [_,_,_,_] ZhB hc6 0 (h:=xAl [_,_,_,_] Zh9 (h:=fun b7=>xS [_,_,_,_] 2 [_,_,_,_] Zc3 (h:=ZH [_,_,_] rfl (Zk (xM (h:=Zo (Zdu rfl rfl Tryz.underlying181 rfl rfl (xW Zeg (h:=x1 lk3 2 (h:=Zo (Zdu rfl rfl Tryz.underlying3 rfl rfl (Zo (Zat [1,0] rfl rfl rfl rfl ZtV rfl (Zme _ _ _ _ _ _ oz hh _ hv) ?_))))))))))))))
 rintro _ Bp _ hlep ⟨rfl,qp,cp,ysp,lp,rfl,hvp,hpp,hhp⟩
 refine ZP (Zd (Zk (xD (h:=xM (h:=?_)))))
 exact ZD ⟨g.k+1,0,lp,_,_,ysp⟩ [0,1] so2 ⟨rfl,so,by simp only [];rw [Zct hx,List.map_append];exact hpp.trans (hp.append_right _),hhp,hvp⟩ t7 rfl
 try simp only [sQ,ne_eq] at g1
 have hxe:xs.take g.k=xs:=List.take_of_length_le oz
 rw [hxe] at hp
 refine ZI (ZY (ZM (Zv (Zd (Za (xA (h:=Zg (Za (xM (h:=xV Tryz.underlying40 (h:=xM (h:=Zl (ZC (α:=Gh2 Int Int) [0,1,5,14,15,16,17,27,28] (fun h=>[(8,.int .i64 h.e),(29,.int .i64 h.k)]) [0,1] (fun h=>[h.l,ZaK b2 [.slice h.a h.xs.length h.c] 183]) (fun h Bx=>Bx=B3∧h.k≤xs.length∧h.xs.Perm ((xs.drop h.k).map (·.id))∧ZcP h.xs∧asc 0 last (xs.map (·.id))=asc h.e last ((xs.drop h.k).map (·.id))∧Z3 Bx h.l h.a h.c 3 1 ZbN h.xs) (fun h=>xs.length - h.k) ⟨0,0,g.l,g.a,g.c,g.xs,0⟩ t2 rfl (⟨rfl,Nat.zero_le _,hp,hh,rfl,hv⟩) (fun h B9 hle9 hI=>?_))))))))))))))
 clear hv hp hpl hh
 obtain ⟨rfl,hk,hp,hh,hs,hv⟩:=hI
 have hpl:=hp.length_eq
 rw [List.length_map,List.length_drop] at hpl
 refine ZL [(0,_),(1,_),(5,_),(8,_),(14,_),(15,_),(16,_),(17,_),(27,_),(28,_),(29,_)] [_,_] t11 rfl (Za (ZF (h:=Zg (Zc rfl (fun g2=>?_) (fun g2=>?_)))))
 try simp only [sQ,ne_eq] at g2
 refine Zf (Zd (Zg (Zl (Za ?_))))
 obtain ⟨x,hx⟩:=ZW (xs:=xs) (i:=h.k) om
 obtain ⟨bb11,oo11,rfl⟩:=ha.base hx
 obtain ⟨_,⟨qi12,ci12,rfl,hi12,hb12,hb12b⟩,hc12⟩:=ha.elem hx
 have hi12n:=hi12.len
 refine xIx Tryz.underlying40 Zc3 (h:=?_)
 rw [ZiE hx,List.map_cons] at hp hs
 refine yL [_,_,_,_] ZhB hc12 0 (h:=xAl [_,_,_,_] Zh9 (h:=fun b13=>xS [_,_,_,_] 2 [_,_,_,_] Zc3 (h:=ZH [_,_,_] rfl (Za (xM (h:=Zo (Zdu rfl rfl Tryz.underlying181 rfl rfl (Zo (Zat [1,0] rfl rfl rfl rfl ZtU rfl (ZnO _ _ _ _ _ oz oz hh _ hv) ?_)))))))))
 rintro _ Bo _ hleo ⟨rfl,rfl,yso,lo,rfl,hvo,hpo,hho⟩
 refine Zo (ZiS rfl rfl Tryz.underlying3 rfl rfl (xA (h:=ZH [_,_,_] rfl (Zg (Za (xM (h:=xW Zeg (h:=x1 lk3 2 (h:=ZaL (h:=xM (h:=Zw (d:=41) rfl (fun g3=>?_) (fun g3=>?_))))))))))))
 try simp only [sQ,ne_eq] at g3
 refine xP (h:=xP (h:=xP (h:=xT (h:=xM (h:=xP (h:=xP (h:=xP (h:=xT (h:=Zc (t:=true) rfl (fun _=>Za (xA (h:=Zi (Zn (ZE (Zn (ZS (ZE (Zn ?_))))))))) (fun h=>Bool.noConfusion h))))))))))
 exact ZB .ret (.inl rfl) [_] t1 ⟨Zh (by rw [hs];exact ZpK hp hh (by simpa using g3)),rfl,rfl⟩
 try simp only [sQ,ne_eq] at g3
 refine xM (h:=xM (h:=ZbQ (h:=xF (h:=xM (h:=Zw (d:=46) rfl (fun g4=>?_) (fun g4=>?_))))))
 try simp only [sQ,ne_eq] at g4
 refine xP (h:=xP (h:=xP (h:=xT (h:=Zc (t:=true) rfl (fun _=>Za (xA (h:=Zi (Zn (ZE (Zn (ZS (ZE (Zn ?_))))))))) (fun h=>Bool.noConfusion h)))))
 exact ZB .ret (.inl rfl) [_] t1 ⟨Zh (by rw [hs];exact ZpJ (by rw [← g3];simpa using g4)),rfl,rfl⟩
 try simp only [sQ,ne_eq] at g4
 refine xM (h:=xM (h:=ZdV (h:=xF (h:=Zc rfl (fun g5=>?_) (fun g5=>?_)))))
 try simp only [sQ,ne_eq] at g5
 refine Za (xA (h:=Zi (Zn (ZE (Zn (ZS (ZE (Zn ?_))))))))
 exact ZB .ret (.inl rfl) [_] t1 ⟨Zh (by rw [hs];exact ZpI (by rw [← g3];simpa using g5)),rfl,rfl⟩
 try simp only [sQ,ne_eq] at g5
 refine Zf (Zd (Zk (xM (h:=xA (h:=ZP (Zd (Zk (xD (h:=xM (h:=?_))))))))))
 exact ZD ⟨h.k+1,0,lo,_,_,yso,hat h.xs 0⟩ [0,1] so2 ⟨rfl,so,List.Perm.cons_inv ((show (x.id :: yso).Perm (hat h.xs 0 :: yso) from by rw [g3]).trans (hpo.trans hp)),hho,by simp only [];rw [hs,g3];exact ZsI (by rw [← g3];simpa using g4) (by rw [← g3];simpa using g5),hvo⟩ t11 rfl
 try simp only [sQ,ne_eq] at g2
 rw [Zof oz,List.map_nil,asc] at hs
 refine ZI (ZY (ZM (Zv (Zd (Za (xA (h:=Zi ?_)))))))
 exact ZB .ret (.inl rfl) [_] t1 ⟨Zh hs.symm,rfl,rfl⟩

set_option maxHeartbeats 400000 in
theorem ZkB (aq:Option Addr) (cq:Nat) (q:DQueue) (B:Kn) (hq:SlK B aq cq 4 ZG q.items):Zaa (pj J) 69 [.agg #[.int .i64 q.next,.slice aq q.items.length cq]] B (.bool (ZaO q)):=by
 refine Zb 42 Tryz.func69 rfl rfl rfl (Nat.le_of_ble_eq_true rfl) ?_
 have hqn:=hq.len
 refine Za (xBx [_,_] (h:=fun b1=>xA (h:=ZH [_] rfl (Zg (Za (xW Zdl (h:=x1 Zmw 0 (h:=xV Tryz.underlying40 (h:=ZdV (h:=xM (h:=Zw (d:=9) rfl (fun g1=>?_) (fun g1=>?_))))))))))))
 try simp only [sQ,ne_eq] at g1
 refine xP (h:=xP (h:=xP (h:=xT (h:=xM (h:=xP (h:=xP (h:=xP (h:=xT (h:=Zc (t:=true) rfl (fun _=>Za (xA (h:=Zi (Zn ?_)))) (fun h=>Bool.noConfusion h))))))))))
 exact ZB .ret (.inl rfl) [_] t1 ⟨Zh (ZfQ oz),rfl,rfl⟩
 try simp only [sQ,ne_eq] at g1
 refine xW Zhi (h:=x1 lk3 0 (h:=ZF (h:=xF (h:=xM (h:=Zw (d:=14) rfl (fun g2=>?_) (fun g2=>?_))))))
 try simp only [sQ,ne_eq] at g2
 refine xP (h:=xP (h:=xP (h:=xT (h:=Zc (t:=true) rfl (fun _=>Za (xA (h:=Zi (Zn ?_)))) (fun h=>Bool.noConfusion h)))))
 exact ZB .ret (.inl rfl) [_] t1 ⟨Zh (ZfQ oz),rfl,rfl⟩
 try simp only [sQ,ne_eq] at g2
 refine xW Zhi (h:=x1 lk3 0 (h:=ZdV (h:=xF (h:=Zc rfl (fun g3=>?_) (fun g3=>?_)))))
 try simp only [sQ,ne_eq] at g3
 refine Za (xA (h:=Zi (Zn ?_)))
 exact ZB .ret (.inl rfl) [_] t1 ⟨Zh (ZfQ oz),rfl,rfl⟩
 try simp only [sQ,ne_eq] at g3
 refine Zf (Zd (Zg (Za (xW Zdl (h:=x1 Zmw 0 (h:=xV Tryz.underlying40 (h:=xM (h:=Zl (ZC (α:=Nat) [0,1,18,20,21] (fun k=>[(22,.int .i64 k)]) [] (fun k=>[]) (fun k Bx=>Bx=B∧k≤q.items.length∧(q.items.take k).all Zfu=true) (fun k=>q.items.length - k) 0 t1 rfl (⟨rfl,Nat.zero_le _,by simp⟩) (fun k B2 hle2 hI=>?_))))))))))
 obtain ⟨rfl,hk,ha⟩:=hI
 refine ZL [(0,_),(1,_),(18,_),(20,_),(21,_),(22,_)] [_] t6 rfl (Za (ZF (h:=Zg (Zc rfl (fun g4=>?_) (fun g4=>?_)))))
 try simp only [sQ,ne_eq] at g4
 refine Zf (Zd (Zg (Zl (Za ?_))))
 obtain ⟨x,hx⟩:=ZW (xs:=q.items) (i:=k) om
 obtain ⟨bb4,oo4,rfl⟩:=hq.base hx
 obtain ⟨_,⟨qi5,ci5,rfl,hi5,hb5,hb5b⟩,hc5⟩:=hq.elem hx
 have hi5n:=hi5.len
 refine xIx Tryz.underlying40 Zc3 (h:=yL [_,_,_,_] ZhB hc5 0 (h:=xAl [_,_,_,_] Zh9 (h:=fun b6=>xS [_,_,_,_] 1 [_,_,_,_] Zc3 (h:=ZH [_,_] rfl (Za (xW Zef (h:=x1 lk9 1 (h:=xW Zee (h:=x1 Zgn 1 (h:=xW Zf0 (h:=x1 lk9 1 (h:=xB [(0,_),(1,_),(2,_)] [_,_,_] [_,_,_] Zsd ZrK (h:=?_)))))))))))))
 refine xR Zuh rfl (Zju _ _ ⟨x.fr,x.left,x.text⟩ _ hi5 oa oa) (h:=?_)
 refine xN (h:=Zc rfl (fun g5=>?_) (fun g5=>?_))
 try simp only [sQ,ne_eq] at g5
 refine Za (xA (h:=Zi (ZE (Zn (ZS (ZE (Zn ?_)))))))
 exact ZB .ret (.inl rfl) [_] t1 ⟨Zh (Zkn hx g5),rfl,rfl⟩
 try simp only [sQ,ne_eq] at g5
 refine Zf (ZP (Zd (Zk (xD (h:=xM (h:=?_))))))
 exact ZD (k+1) [0] so2 ⟨rfl,oz,ZsK hx g5 ha⟩ t6 rfl
 try simp only [sQ,ne_eq] at g4
 refine ZI (ZY (ZM (Zv (Zd (Za (xW Zdl (h:=x1 Zmw 0 (h:=xW Zhi (h:=x1 lk3 0 (h:=xU (h:=xR Zug rfl (ZkE _ _ _ _ _ hq) (h:=xA (h:=Zi ?_)))))))))))))
 exact ZB .ret (.inl rfl) [_] t1 ⟨Zh (Zkm oz ha oz oz oz),rfl,rfl⟩

set_option maxHeartbeats 400000 in
theorem ZnA (n:Int) (B:Kn):Zaa (pj J) 160 [.int .i64 n] B (.bool (decide (0≤n) && decide (n≤31))):=by
 refine Zb 5 Tryz.func160 rfl rfl rfl (Nat.le_of_ble_eq_true rfl) ?_
 refine Za (xA (h:=Za (xM (h:=xR ZpB rfl (Zft _ _ _ _) (h:=xA (h:=Zi ?_))))))
 exact ZB .ret (.inl rfl) [_] t1 ⟨rfl,rfl,rfl⟩

set_option maxHeartbeats 400000 in
theorem ZkC (n:Int) (B:Kn):Zaa (pj J) 171 [.int .i64 n] B (.bool (decide (0≤n) && decide (n≤31))):=by
 refine Zb 9 Tryz.func171 rfl rfl rfl (Nat.le_of_ble_eq_true rfl) ?_
 refine Za (xA (h:=Za (xM (h:=ZdW (h:=xM (h:=Zw (d:=5) rfl (fun g1=>?_) (fun g1=>?_)))))))
 try simp only [sQ,ne_eq] at g1
 refine xM (h:=ZbQ (h:=xT (h:=xA (h:=Zi ?_))))
 exact ZB .ret (.inl rfl) [_] t1 ⟨Zh (by rw [Bool.eq_iff_iff];simp [g1];try omega),rfl,rfl⟩
 try simp only [sQ,ne_eq] at g1
 refine xP (h:=xP (h:=xF (h:=xA (h:=Zi ?_))))
 exact ZB .ret (.inl rfl) [_] t1 ⟨Zh (by rw [Bool.eq_iff_iff];simp [g1];try omega),rfl,rfl⟩

set_option maxHeartbeats 400000 in
theorem ZnE (m:DMail) (hm:m.text.length≤2000000) (B:Kn):Zaa (pj J) 123 [.agg #[.int .i64 m.uid,.int .i64 m.flags,str m.text]] B (.bool (Zcc m)):=by
 refine Zb 17 Tryz.func123 rfl rfl rfl (Nat.le_of_ble_eq_true rfl) ?_
 refine Za (xBx [_,_,_] (h:=fun b1=>xA (h:=ZH [_] rfl (Za (xW Zb9 (h:=x1 lk3 0 (h:=xR ZpB rfl (Zft _ _ _ _) (h:=xM (h:=Zw (d:=6) rfl (fun g1=>?_) (fun g1=>?_))))))))))
 try simp only [sQ,ne_eq] at g1
 refine xW Ze4 (h:=x1 lk3 0 (h:=xR ZtJ rfl (ZnA _ _) (h:=xT (h:=xM (h:=Zw (d:=11) rfl (fun g2=>?_) (fun g2=>?_))))))
 try simp only [sQ,ne_eq] at g2
 refine xW ZdM (h:=x1 lk9 0 (h:=xVs Tryz.underlying9 (h:=ZbQ (h:=xT (h:=xA (h:=Zi ?_))))))
 exact ZB .ret (.inl rfl) [_] t1 ⟨Zh (by rw [Bool.eq_iff_iff];simp [Zcc,g1,g2];try omega),rfl,rfl⟩
 try simp only [sQ,ne_eq] at g2
 refine xP (h:=xP (h:=xP (h:=xP (h:=xF (h:=xA (h:=Zi ?_))))))
 exact ZB .ret (.inl rfl) [_] t1 ⟨Zh (by rw [Bool.eq_iff_iff];simp [Zcc,g1,g2];try omega),rfl,rfl⟩
 try simp only [sQ,ne_eq] at g1
 refine xP (h:=xP (h:=xP (h:=xF (h:=xM (h:=xP (h:=xP (h:=xP (h:=xP (h:=xF (h:=xA (h:=Zi ?_)))))))))))
 exact ZB .ret (.inl rfl) [_] t1 ⟨Zh (by rw [Bool.eq_iff_iff];simp [Zcc,g1];try omega),rfl,rfl⟩

set_option maxHeartbeats 400000 in
theorem Zmb (m:DMail) (hm:m.text.length≤2000000) (B:Kn):Zaa (pj J) 146 [.agg #[.int .i64 m.uid,.int .i64 m.flags,str m.text]] B (.bool (Zcc m)):=by
 refine Zb 22 Tryz.func146 rfl rfl rfl (Nat.le_of_ble_eq_true rfl) ?_
 refine Za (xBx [_,_,_] (h:=fun b1=>xA (h:=ZH [_] rfl (Za (xW Zb9 (h:=x1 lk3 0 (h:=ZdW (h:=xM (h:=Zw (d:=6) rfl (fun g1=>?_) (fun g1=>?_))))))))))
 try simp only [sQ,ne_eq] at g1
 refine xW Zb9 (h:=x1 lk3 0 (h:=ZbQ (h:=xT (h:=xM (h:=Zw (d:=11) rfl (fun g2=>?_) (fun g2=>?_))))))
 try simp only [sQ,ne_eq] at g2
 refine xW Ze4 (h:=x1 lk3 0 (h:=xR ZtC rfl (ZkC _ _) (h:=xT (h:=xM (h:=Zw (d:=16) rfl (fun g3=>?_) (fun g3=>?_))))))
 try simp only [sQ,ne_eq] at g3
 refine xW ZdM (h:=x1 lk9 0 (h:=xVs Tryz.underlying9 (h:=ZbQ (h:=xT (h:=xA (h:=Zi ?_))))))
 exact ZB .ret (.inl rfl) [_] t1 ⟨Zh (by rw [Bool.eq_iff_iff];simp [Zcc,g1,g2,g3];try omega),rfl,rfl⟩
 try simp only [sQ,ne_eq] at g3
 refine xP (h:=xP (h:=xP (h:=xP (h:=xF (h:=xA (h:=Zi ?_))))))
 exact ZB .ret (.inl rfl) [_] t1 ⟨Zh (by rw [Bool.eq_iff_iff];simp [Zcc,g1,g2,g3];try omega),rfl,rfl⟩
 try simp only [sQ,ne_eq] at g2
 refine xP (h:=xP (h:=xP (h:=xF (h:=xM (h:=xP (h:=xP (h:=xP (h:=xP (h:=xF (h:=xA (h:=Zi ?_)))))))))))
 exact ZB .ret (.inl rfl) [_] t1 ⟨Zh (by rw [Bool.eq_iff_iff];simp [Zcc,g1,g2];try omega),rfl,rfl⟩
 try simp only [sQ,ne_eq] at g1
 refine xP (h:=xP (h:=xP (h:=xF (h:=xM (h:=xP (h:=xP (h:=xP (h:=xF (h:=xM (h:=xP (h:=xP (h:=xP (h:=?_)))))))))))))
 refine xP (h:=xF (h:=xA (h:=Zi ?_)))
 exact ZB .ret (.inl rfl) [_] t1 ⟨Zh (by rw [Bool.eq_iff_iff];simp [Zcc,g1];try omega),rfl,rfl⟩

set_option maxHeartbeats 400000 in
theorem Zm7 (q:Option Addr) (cp:Nat) (x:DBox) (B:Kn) (hx:SlK B q cp 3 ZK x.mail):Zaa (pj J) 92 [.agg #[.int .i64 x.next,.slice q x.mail.length cp]] B (.bool (Zf4 x)):=by
 refine Zb 46 Tryz.func92 rfl rfl rfl (Nat.le_of_ble_eq_true rfl) ?_
 have hxn:=hx.len
 refine Za (xBx [_,_] (h:=fun b1=>xA (h:=ZH [_] rfl (Za (xA (h:=Zg (Za (xA (h:=Zl (ZC (α:=Nat × Int) [0,1] (fun g=>[(3,.int .i64 g.2),(4,.int .i64 g.1)]) [] (fun g=>[]) (fun g Bx=>Bx=B∧g.1≤x.mail.length∧ZdI (x.mail.take g.1)=(true,g.2)∧0≤g.2∧g.2≤99) (fun g=>x.mail.length - g.1) (0,0) t2 rfl (⟨rfl,Nat.zero_le _,ZeW,oz,oz⟩) (fun g B2 hle2 hI=>?_)))))))))))
 obtain ⟨rfl,hk,hs,hl0,hl1⟩:=hI
 refine ZL [(0,_),(1,_),(3,_),(4,_)] [_] t4 rfl (Zg (Za (xM (h:=xW Zbu (h:=x1 ZiO 0 (h:=xV Tryz.underlying31 (h:=ZF (h:=Zc rfl (fun g1=>?_) (fun g1=>?_)))))))))
 try simp only [sQ,ne_eq] at g1
 refine Zf (Zd (Zg (Zl (Zg (Za (xW Zbu (h:=x1 ZiO 0 (h:=xM (h:=?_)))))))))
 obtain ⟨m,hm⟩:=ZW (xs:=x.mail) (i:=g.1) om
 obtain ⟨bb4,oo4,rfl⟩:=hx.base hm
 obtain ⟨_,⟨rfl,hb5⟩,hc5⟩:=hx.elem hm
 refine xIx Tryz.underlying31 Zcv (h:=yL [_,_,_] Zjq hc5 0 (h:=xR Zt1 rfl (ZnE m om2 _) (h:=?_)))
 refine xN (h:=xM (h:=Zw (d:=19) rfl (fun g2=>?_) (fun g2=>?_)))
 try simp only [sQ,ne_eq] at g2
 refine xP (h:=xP (h:=xP (h:=xP (h:=xP (h:=xP (h:=xP (h:=xP (h:=xT (h:=Zc (t:=true) rfl (fun _=>Za (xA (h:=Zi (Zn (ZE (Zn (ZS (ZE (Zn ?_))))))))) (fun h=>Bool.noConfusion h))))))))))
 exact ZB .ret (.inl rfl) [_] t1 ⟨Zh (ZfE (ZeX hm (by rw [show (scn Ze0 (fun _ m=>m.uid) 0 (x.mail.take g.1)).2=g.2 from congrArg Prod.snd hs];simp [Ze0,g2]))).symm,rfl,rfl⟩
 try simp only [sQ,ne_eq] at g2
 refine xW Zbu (h:=x1 ZiO 0 (h:=xM (h:=xIx Tryz.underlying31 Zcv (h:=xW Zb9 (h:=y1 lk3 hc5 0 (h:=xM (h:=ZbQ (h:=xF (h:=Zc rfl (fun g3=>?_) (fun g3=>?_))))))))))
 try simp only [sQ,ne_eq] at g3
 refine Za (xA (h:=Zi (Zn (ZE (Zn (ZS (ZE (Zn ?_))))))))
 exact ZB .ret (.inl rfl) [_] t1 ⟨Zh (ZfE (ZeX hm (by rw [show (scn Ze0 (fun _ m=>m.uid) 0 (x.mail.take g.1)).2=g.2 from congrArg Prod.snd hs];simp [Ze0,g2];omega))).symm,rfl,rfl⟩
 try simp only [sQ,ne_eq] at g3
 refine Zf (Zd (Zk (xW Zbu (h:=x1 ZiO 0 (h:=xM (h:=xIx Tryz.underlying31 Zcv (h:=xW Zb9 (h:=y1 lk3 hc5 0 (h:=xA (h:=ZP (Zd (Zk (xM (h:=?_))))))))))))))
 refine xD (h:=xA (h:=?_))
 exact ZD (g.1+1,m.uid) [0] so2 ⟨rfl,oz,Zb4 hm hs (by simp [Ze0,g2];omega),ZhW g2⟩ t4 rfl
 try simp only [sQ,ne_eq] at g1
 refine ZI (ZY (ZM (Zv (Zd (Za (xW ZfA (h:=x1 lk3 0 (h:=xM (h:=xD (h:=xR ZpB rfl (Zft _ _ _ _) (h:=xM (h:=Zw (d:=40) rfl (fun g4=>?_) (fun g4=>?_)))))))))))))
 try simp only [sQ,ne_eq] at g4
 refine xW Zbu (h:=x1 ZiO 0 (h:=xV Tryz.underlying31 (h:=ZbQ (h:=xT (h:=xA (h:=Zi ?_))))))
 exact ZB .ret (.inl rfl) [_] t1 ⟨Zh (by rw [ZfD (ZdE hs oz),g4,Bool.true_and,Bool.eq_iff_iff];simp;omega),rfl,rfl⟩
 try simp only [sQ,ne_eq] at g4
 refine xP (h:=xP (h:=xP (h:=xP (h:=xF (h:=xA (h:=Zi ?_))))))
 exact ZB .ret (.inl rfl) [_] t1 ⟨Zh (by rw [ZfD (ZdE hs oz),g4,Bool.false_and]),rfl,rfl⟩

set_option maxHeartbeats 400000 in
theorem Zjw (q:Option Addr) (cp:Nat) (x:DBox) (B:Kn) (hx:SlK B q cp 3 ZK x.mail):Zaa (pj J) 109 [.agg #[.int .i64 x.next,.slice q x.mail.length cp]] B (.bool (Zf4 x)):=by
 refine Zb 38 Tryz.func109 rfl rfl rfl (Nat.le_of_ble_eq_true rfl) ?_
 have hxn:=hx.len
 refine Za (xBx [_,_] (h:=fun b1=>xA (h:=ZH [_] rfl (Zg (Za (xW Zbu (h:=x1 ZiO 0 (h:=xV Tryz.underlying31 (h:=ZdV (h:=Zc rfl (fun g0=>?_) (fun g0=>?_)))))))))))
 try simp only [sQ,ne_eq] at g0
 refine Za (xA (h:=Zi (Zn ?_)))
 exact ZB .ret (.inl rfl) [_] t1 ⟨Zh (by simp [Zf4];omega),rfl,rfl⟩
 try simp only [sQ,ne_eq] at g0
 refine Zf (Zd (Za (xA (h:=Zg (Za (xW Zbu (h:=x1 ZiO 0 (h:=xV Tryz.underlying31 (h:=xM (h:=Zl (ZC (α:=Nat × Int) [0,1,9,11,12] (fun g=>[(3,.int .i64 g.2),(13,.int .i64 g.1)]) [] (fun g=>[]) (fun g Bx=>Bx=B∧g.1≤x.mail.length∧ZdI (x.mail.take g.1)=(true,g.2)∧0≤g.2∧g.2≤99) (fun g=>x.mail.length - g.1) (0,0) t2 rfl (⟨rfl,Nat.zero_le _,ZeW,oz,oz⟩) (fun g B2 hle2 hI=>?_))))))))))))
 obtain ⟨rfl,hk,hs,hl0,hl1⟩:=hI
 refine ZL [(0,_),(1,_),(3,_),(9,_),(11,_),(12,_),(13,_)] [_] t7 rfl (Za (ZF (h:=Zg (Zc rfl (fun g1=>?_) (fun g1=>?_)))))
 try simp only [sQ,ne_eq] at g1
 refine Zf (Zd (Zg (Zl (Za ?_))))
 obtain ⟨m,hm⟩:=ZW (xs:=x.mail) (i:=g.1) om
 obtain ⟨bb4,oo4,rfl⟩:=hx.base hm
 obtain ⟨_,⟨rfl,hb5⟩,hc5⟩:=hx.elem hm
 refine xIx Tryz.underlying31 Zcv (h:=yL [_,_,_] Zjq hc5 0 (h:=xAl [_,_,_] Zh8 (h:=fun b6=>xS [_,_,_] 1 [_,_,_] Zcv (h:=ZH [_,_] rfl (Zg (Za (xL [_,_,_] Zjq 1 (h:=xR ZtS rfl (Zmb m om2 _) (h:=?_)))))))))
 refine xN (h:=xM (h:=Zw (d:=20) rfl (fun g2=>?_) (fun g2=>?_)))
 try simp only [sQ,ne_eq] at g2
 refine xP (h:=xP (h:=xP (h:=xP (h:=xT (h:=Zc (t:=true) rfl (fun _=>Za (xA (h:=Zi (Zn (ZE (Zn (ZS (ZE (Zn ?_))))))))) (fun h=>Bool.noConfusion h))))))
 exact ZB .ret (.inl rfl) [_] t1 ⟨Zh (ZfE (ZeX hm (by rw [show (scn Ze0 (fun _ m=>m.uid) 0 (x.mail.take g.1)).2=g.2 from congrArg Prod.snd hs];simp [Ze0,g2]))).symm,rfl,rfl⟩
 try simp only [sQ,ne_eq] at g2
 refine xW Zb9 (h:=x1 lk3 1 (h:=xM (h:=ZbQ (h:=xF (h:=Zc rfl (fun g3=>?_) (fun g3=>?_))))))
 try simp only [sQ,ne_eq] at g3
 refine Za (xA (h:=Zi (Zn (ZE (Zn (ZS (ZE (Zn ?_))))))))
 exact ZB .ret (.inl rfl) [_] t1 ⟨Zh (ZfE (ZeX hm (by rw [show (scn Ze0 (fun _ m=>m.uid) 0 (x.mail.take g.1)).2=g.2 from congrArg Prod.snd hs];simp [Ze0,g2];omega))).symm,rfl,rfl⟩
 try simp only [sQ,ne_eq] at g3
 refine Zf (Zd (Zk (xW Zb9 (h:=x1 lk3 1 (h:=xA (h:=ZP (Zd (Zk (xD (h:=xM (h:=?_)))))))))))
 exact ZD (g.1+1,m.uid) [0] so2 ⟨rfl,oz,Zb4 hm hs (by simp [Ze0,g2];omega),ZhW g2⟩ t7 rfl
 try simp only [sQ,ne_eq] at g1
 refine ZI (ZY (ZM (Zv (Zd (Za (xW ZfA (h:=x1 lk3 0 (h:=xM (h:=ZdV (h:=xM (h:=Zw (d:=33) rfl (fun g4=>?_) (fun g4=>?_))))))))))))
 try simp only [sQ,ne_eq] at g4
 refine xW ZfA (h:=x1 lk3 0 (h:=ZbQ (h:=xT (h:=xA (h:=Zi ?_)))))
 exact ZB .ret (.inl rfl) [_] t1 ⟨Zh (by rw [ZfD (ZdE hs oz),Bool.eq_iff_iff];simp;omega),rfl,rfl⟩
 try simp only [sQ,ne_eq] at g4
 refine xP (h:=xP (h:=xP (h:=xF (h:=xA (h:=Zi ?_)))))
 exact ZB .ret (.inl rfl) [_] t1 ⟨Zh (by rw [ZfD (ZdE hs oz),Bool.eq_iff_iff];simp;omega),rfl,rfl⟩

set_option maxHeartbeats 400000 in
theorem ZnD (q:Option Addr) (cp:Nat) (x:DBox) (B:Kn) (hx:SlK B q cp 3 ZK x.mail):Zaa (pj J) 94 [.agg #[.int .i64 x.next,.slice q x.mail.length cp]] B (.int .i64 (Zbc x.mail)):=by
 refine Zb 22 Tryz.func94 rfl rfl rfl (Nat.le_of_ble_eq_true rfl) ?_
 have hxn:=hx.len
 refine Za (xBx [_,_] (h:=fun b1=>xA (h:=ZH [_] rfl (Za (xA (h:=Zg (Za (xA (h:=Zl (ZC (α:=Nat × Nat) [0,1,2] (fun g=>[(3,.int .i64 g.2),(4,.int .i64 g.1)]) [] (fun g=>[]) (fun g Bx=>Bx=B∧g.1≤x.mail.length∧g.2=Zbc (x.mail.take g.1)∧g.2≤g.1*2000000) (fun g=>x.mail.length - g.1) (0,0) t2 rfl (⟨rfl,Nat.zero_le _,by simp [Zbc],oz⟩) (fun g B2 hle2 hI=>?_)))))))))))
 obtain ⟨rfl,hk,hs,hl⟩:=hI
 refine ZL [(0,_),(1,_),(2,_),(3,_),(4,_)] [_] t5 rfl (Zg (Za (xM (h:=xW Zbu (h:=x1 ZiO 0 (h:=xV Tryz.underlying31 (h:=ZF (h:=Zc rfl (fun g1=>?_) (fun g1=>?_)))))))))
 try simp only [sQ,ne_eq] at g1
 refine Zf (Zd (Zg (Zl (Zk (xM (h:=xW Zbu (h:=x1 ZiO 0 (h:=xM (h:=?_)))))))))
 obtain ⟨m,hm⟩:=ZW (xs:=x.mail) (i:=g.1) om
 obtain ⟨bb4,oo4,rfl⟩:=hx.base hm
 obtain ⟨_,⟨rfl,hb5⟩,hc5⟩:=hx.elem hm
 refine xIx Tryz.underlying31 Zcv (h:=xW ZdM (h:=y1 lk9 hc5 2 (h:=xVs Tryz.underlying9 (h:=xD (h:=xA (h:=ZP (Zd (Zk (xM (h:=xD (h:=xA (h:=?_))))))))))))
 exact ZD (g.1+1,g.2+m.text.length) [0] so2 ⟨rfl,oz,by rw [ZgK hm,← hs],oz⟩ t5 rfl
 try simp only [sQ,ne_eq] at g1
 refine ZI (ZY (ZM (Zv (Zd (Za (xM (h:=xA (h:=Zi ?_))))))))
 exact ZB .ret (.inl rfl) [_] t1 ⟨ZN (by rw [← ZhQ hs oz]),rfl,rfl⟩

set_option maxHeartbeats 400000 in
theorem Zon (q:Option Addr) (cp:Nat) (x:DBox) (B:Kn) (hx:SlK B q cp 3 ZK x.mail):Zaa (pj J) 173 [.agg #[.int .i64 x.next,.slice q x.mail.length cp]] B (.int .i64 (Zc7 x)):=by
 refine Zb 23 Tryz.func173 rfl rfl rfl (Nat.le_of_ble_eq_true rfl) ?_
 have hxn:=hx.len
 refine Za (xBx [_,_] (h:=fun b1=>xA (h:=ZH [_] rfl (Zg (Za (xL [_,_] ZiN 0 (h:=xR ZsA rfl (Zjw _ _ (⟨x.next,x.mail⟩:DBox) _ hx) (h:=xN (h:=Zc rfl (fun g0=>?_) (fun g0=>?_))))))))))
 try simp only [sQ,ne_eq] at g0
 refine Za (xA (h:=Zi (Zn ?_)))
 exact ZB .ret (.inl rfl) [_] t1 ⟨ZN (by simp [Zc7,g0]),rfl,rfl⟩
 try simp only [sQ,ne_eq] at g0
 refine Zf (Zd (Za (xA (h:=Zg (Za (xW Zbu (h:=x1 ZiO 0 (h:=xV Tryz.underlying31 (h:=xM (h:=Zl (ZC (α:=Nat × Nat) [0,1,2,8,10,11] (fun g=>[(3,.int .i64 g.2),(12,.int .i64 g.1)]) [] (fun g=>[]) (fun g Bx=>Bx=B∧g.1≤x.mail.length∧g.2=Zbc (x.mail.take g.1)∧g.2≤g.1*2000000) (fun g=>x.mail.length - g.1) (0,0) t2 rfl (⟨rfl,Nat.zero_le _,by simp [Zbc],oz⟩) (fun g B3 hle3 hI=>?_))))))))))))
 obtain ⟨rfl,hk,hs,hl⟩:=hI
 refine ZL [(0,_),(1,_),(2,_),(3,_),(8,_),(10,_),(11,_),(12,_)] [_] t8 rfl (Za (ZF (h:=Zg (Zc rfl (fun g1=>?_) (fun g1=>?_)))))
 try simp only [sQ,ne_eq] at g1
 refine Zf (Zd (Zg (Zl (Za ?_))))
 obtain ⟨m,hm⟩:=ZW (xs:=x.mail) (i:=g.1) om
 obtain ⟨bb5,oo5,rfl⟩:=hx.base hm
 obtain ⟨_,⟨rfl,hb6⟩,hc6⟩:=hx.elem hm
 refine xIx Tryz.underlying31 Zcv (h:=yL [_,_,_] Zjq hc6 0 (h:=xAl [_,_,_] Zh8 (h:=fun b7=>xS [_,_,_] 1 [_,_,_] Zcv (h:=ZH [_,_] rfl (Zk (xM (h:=xW ZdM (h:=x1 lk9 1 (h:=xVs Tryz.underlying9 (h:=xD (h:=xA (h:=ZP (Zd ?_)))))))))))))
 refine Zk (xD (h:=xM (h:=?_)))
 exact ZD (g.1+1,g.2+m.text.length) [0] so2 ⟨rfl,oz,by rw [ZgK hm,← hs],oz⟩ t8 rfl
 try simp only [sQ,ne_eq] at g1
 refine ZI (ZY (ZM (Zv (Zd (Za (xM (h:=xA (h:=Zi ?_))))))))
 exact ZB .ret (.inl rfl) [_] t1 ⟨ZN (by rw [Zc7,if_pos g0,← ZhQ hs oz]),rfl,rfl⟩

set_option maxHeartbeats 400000 in
theorem ZoW (n:Int) (B:Kn):Zaa (pj J) 155 [.int .i64 n] B (.bool (decide (0≤n) && decide (n≤63))):=by
 refine Zb 9 Tryz.func155 rfl rfl rfl (Nat.le_of_ble_eq_true rfl) ?_
 refine Za (xA (h:=Za (xM (h:=ZdW (h:=xM (h:=Zw (d:=5) rfl (fun g1=>?_) (fun g1=>?_)))))))
 try simp only [sQ,ne_eq] at g1
 refine xM (h:=ZbQ (h:=xT (h:=xA (h:=Zi ?_))))
 exact ZB .ret (.inl rfl) [_] t1 ⟨Zh (by rw [Bool.eq_iff_iff];simp [g1];try omega),rfl,rfl⟩
 try simp only [sQ,ne_eq] at g1
 refine xP (h:=xP (h:=xF (h:=xA (h:=Zi ?_))))
 exact ZB .ret (.inl rfl) [_] t1 ⟨Zh (by rw [Bool.eq_iff_iff];simp [g1];try omega),rfl,rfl⟩

set_option maxHeartbeats 400000 in
theorem Zj6 (u:DUser) (h1:u.name.length≤2000000) (h2:u.pass.length≤2000000) (B:Kn):Zaa (pj J) 100 [.agg #[str u.name,str u.pass,.int .i64 u.quota]] B (.bool (Zcb u)):=by
 refine Zb 26 Tryz.func100 rfl rfl rfl (Nat.le_of_ble_eq_true rfl) ?_
 refine Za (xBx [_,_,_] (h:=fun b1=>xA (h:=ZH [_] rfl (Za (xW ZaX (h:=x1 lk9 0 (h:=xR ZjJ rfl (Zbr _ om2 _) (h:=?_))))))))
 refine xM (h:=Zw (d:=6) rfl (fun g1=>?_) (fun g1=>?_))
 try simp only [sQ,ne_eq] at g1
 refine xW ZaX (h:=x1 lk9 0 (h:=ZeC (h:=xT (h:=xM (h:=Zw (d:=11) rfl (fun g2=>?_) (fun g2=>?_))))))
 try simp only [sQ,ne_eq] at g2
 refine xW Zf1 (h:=x1 lk9 0 (h:=xR ZjJ rfl (Zbr _ om2 _) (h:=?_)))
 refine xT (h:=xM (h:=Zw (d:=16) rfl (fun g3=>?_) (fun g3=>?_)))
 try simp only [sQ,ne_eq] at g3
 refine xW ZdN (h:=x1 lk3 0 (h:=ZdW (h:=xT (h:=xM (h:=Zw (d:=21) rfl (fun g4=>?_) (fun g4=>?_))))))
 try simp only [sQ,ne_eq] at g4
 refine xW ZdN (h:=x1 lk3 0 (h:=ZbQ (h:=xT (h:=xA (h:=Zi ?_)))))
 exact ZB .ret (.inl rfl) [_] t1 ⟨Zh (by rw [Bool.eq_iff_iff];simp [Zcb,anyone,g1,g2,g3,g4];try omega),rfl,rfl⟩
 try simp only [sQ,ne_eq] at g4
 refine xP (h:=xP (h:=xP (h:=xF (h:=xA (h:=Zi ?_)))))
 exact ZB .ret (.inl rfl) [_] t1 ⟨Zh (by rw [Bool.eq_iff_iff];simp [Zcb,anyone,g1,g2,g3,g4];try omega),rfl,rfl⟩
 try simp only [sQ,ne_eq] at g3
 refine xP (h:=xP (h:=xP (h:=xF (h:=xM (h:=xP (h:=xP (h:=xP (h:=xF (h:=xA (h:=Zi ?_))))))))))
 exact ZB .ret (.inl rfl) [_] t1 ⟨Zh (by rw [Bool.eq_iff_iff];simp [Zcb,anyone,g1,g2,g3];try omega),rfl,rfl⟩
 try simp only [sQ,ne_eq] at g2
 refine xP (h:=xP (h:=xP (h:=xF (h:=xM (h:=xP (h:=xP (h:=xP (h:=xF (h:=xM (h:=xP (h:=xP (h:=xP (h:=?_)))))))))))))
 refine xF (h:=xA (h:=Zi ?_))
 exact ZB .ret (.inl rfl) [_] t1 ⟨Zh (by rw [Bool.eq_iff_iff];simp [Zcb,anyone,g1,g2];try omega),rfl,rfl⟩
 try simp only [sQ,ne_eq] at g1
 refine xP (h:=xP (h:=xP (h:=xF (h:=xM (h:=xP (h:=xP (h:=xP (h:=xF (h:=xM (h:=xP (h:=xP (h:=xP (h:=?_)))))))))))))
 refine xF (h:=xM (h:=xP (h:=xP (h:=xP (h:=xF (h:=xA (h:=Zi ?_)))))))
 exact ZB .ret (.inl rfl) [_] t1 ⟨Zh (by rw [Bool.eq_iff_iff];simp [Zcb,anyone,g1];try omega),rfl,rfl⟩

set_option maxHeartbeats 400000 in
theorem Zg9 (q:Option Addr) (cp:Nat) (us:List DUser) (B:Kn) (hu:SlK B q cp 3 Zq us):Zaa (pj J) 68 [.slice q us.length cp] B (.bool (Zau us)):=by
 refine Zb 32 Tryz.func68 rfl rfl rfl (Nat.le_of_ble_eq_true rfl) ?_
 have hun:=hu.len
 refine Za (xA (h:=Zg (Za (xM (h:=xV Tryz.underlying38 (h:=ZF (h:=xM (h:=Zw (d:=9) rfl (fun g0=>?_) (fun g0=>?_)))))))))
 try simp only [sQ,ne_eq] at g0
 refine xP (h:=xP (h:=xP (h:=xT (h:=Zc (t:=true) rfl (fun _=>Za (xA (h:=Zi (Zn ?_)))) (fun h=>Bool.noConfusion h)))))
 exact ZB .ret (.inl rfl) [_] t1 ⟨Zh (by rw [Bool.eq_iff_iff];simp [Zau];omega),rfl,rfl⟩
 try simp only [sQ,ne_eq] at g0
 refine xM (h:=xV Tryz.underlying38 (h:=ZdV (h:=xF (h:=Zc rfl (fun g0b=>?_) (fun g0b=>?_)))))
 try simp only [sQ,ne_eq] at g0b
 refine Za (xA (h:=Zi (Zn ?_)))
 exact ZB .ret (.inl rfl) [_] t1 ⟨Zh (by rw [Bool.eq_iff_iff];simp [Zau];omega),rfl,rfl⟩
 try simp only [sQ,ne_eq] at g0b
 refine Zf (Zd (Za (xA (h:=Zg (Za (xM (h:=xV Tryz.underlying38 (h:=xM (h:=Zl (ZC (α:=Nat × Str) [0,13,14,15] (fun g=>[(3,str g.2),(16,.int .i64 g.1)]) [] (fun g=>[]) (fun g Bx=>Bx=B∧g.1≤us.length∧Zdx (us.take g.1)=(true,g.2)∧g.2.length≤2000000) (fun g=>us.length - g.1) (0,[]) t2 rfl (⟨rfl,Nat.zero_le _,ZeW,by simp⟩) (fun g B1 hle1 hI=>?_)))))))))))
 obtain ⟨rfl,hk,hs,hl⟩:=hI
 refine ZL [(0,_),(3,_),(13,_),(14,_),(15,_),(16,_)] [] t6 rfl (Za (ZF (h:=Zg (Zc rfl (fun g1=>?_) (fun g1=>?_)))))
 try simp only [sQ,ne_eq] at g1
 refine Zf (Zd (Zg (Zl (Za ?_))))
 obtain ⟨m,hm⟩:=ZW (xs:=us) (i:=g.1) om
 obtain ⟨bb3,oo3,rfl⟩:=hu.base hm
 obtain ⟨_,⟨rfl,hb4,hb4b⟩,hc4⟩:=hu.elem hm
 refine xIx Tryz.underlying38 ZbV (h:=yL [_,_,_] ZeA hc4 0 (h:=xAl [_,_,_] ZfH (h:=fun b5=>xS [_,_,_] 0 [_,_,_] ZbV (h:=ZH [_] rfl (Zg (Za (xL [_,_,_] ZeA 0 (h:=xR Zui rfl (Zj6 m om2 om2 _) (h:=?_)))))))))
 refine xN (h:=xM (h:=Zw (d:=23) rfl (fun g2=>?_) (fun g2=>?_)))
 try simp only [sQ,ne_eq] at g2
 refine xP (h:=xP (h:=xP (h:=xP (h:=xT (h:=Zc (t:=true) rfl (fun _=>Za (xA (h:=Zi (Zn (ZE (Zn (ZS (ZE (Zn ?_))))))))) (fun h=>Bool.noConfusion h))))))
 exact ZB .ret (.inl rfl) [_] t1 ⟨Zh (ZeQ (ZeX hm (by rw [show (scn ZdX (fun _ u=>u.name) [] (us.take g.1)).2=g.2 from congrArg Prod.snd hs];simp [ZdX,g2]))).symm,rfl,rfl⟩
 try simp only [sQ,ne_eq] at g2
 refine xW ZaX (h:=x1 lk9 0 (h:=xM (h:=Zo (Zp2 rfl rfl rfl rfl (xF (h:=Zc rfl (fun g3=>?_) (fun g3=>?_)))))))
 try simp only [sQ,ne_eq] at g3
 refine Za (xA (h:=Zi (Zn (ZE (Zn (ZS (ZE (Zn ?_))))))))
 exact ZB .ret (.inl rfl) [_] t1 ⟨Zh (ZeQ (ZeX hm (by rw [show (scn ZdX (fun _ u=>u.name) [] (us.take g.1)).2=g.2 from congrArg Prod.snd hs,ZdX,Za7 g.2 m.name,g3];simp))).symm,rfl,rfl⟩
 try simp only [sQ,ne_eq] at g3
 refine Zf (Zd (Zk (xW ZaX (h:=x1 lk9 0 (h:=xA (h:=ZP (Zd (Zk (xD (h:=xM (h:=?_)))))))))))
 exact ZD (g.1+1,m.name) [] so2 ⟨rfl,oz,Zb4 hm hs (by rw [ZdX,Za7 g.2 m.name,g2,g3];rfl),oy⟩ t6 rfl
 try simp only [sQ,ne_eq] at g1
 refine ZI (ZY (ZM (Zv (Zd (Za (xA (h:=Zi ?_)))))))
 exact ZB .ret (.inl rfl) [_] t1 ⟨Zh (by rw [ZgG (ZdE hs oz),Bool.eq_iff_iff];simp;omega),rfl,rfl⟩

set_option maxHeartbeats 400000 in
theorem ZiX (x:DUser) (u:Str) (b:Nat) (h1:x.name.length≤2000000) (h2:u.length≤2000000) (B:Kn) (hb:ZaI B b 0 [str u]):Zaa (pj J) 157 [.agg #[str x.name,str x.pass,.int .i64 x.quota],ptr ⟨b,0,none⟩] B (.bool (decide (x.name=u))):=by
 refine Zb 8 Tryz.func157 rfl rfl rfl (Nat.le_of_ble_eq_true rfl) ?_
 refine Za (xBx [_,_,_] (h:=fun b1=>xA (h:=ZH [_] rfl (Za (xW ZaX (h:=x1 lk9 0 (h:=Zo (Zs rfl rfl lk9 rfl (hb _ 0 _ rfl) (Zc9 (h:=xA (h:=Zi ?_)))))))))))
 exact ZB .ret (.inl rfl) [_] t1 ⟨rfl,rfl,rfl⟩

set_option maxHeartbeats 400000 in
theorem Zn5 (q:Option Addr) (cp:Nat) (us:List DUser) (F:FuncId) (cap:Array Value) (t:DUser→Bool) (B:Kn) (hu:SlK B q cp 3 Zq us) (he:enters (pj J) F=true) (hF :∀x:DUser,x.name.length≤2000000→x.pass.length≤2000000→Zaa (pj J) F ([.agg #[str x.name,str x.pass,.int .i64 x.quota]] ++ cap.toList) B (.bool (t x))):Zaa (pj J) 156 [.slice q us.length cp,.func (.func F) #[] cap] B (.tuple #[.agg #[str (Zgo t us).1.name,str (Zgo t us).1.pass,.int .i64 (Zgo t us).1.quota],.bool (Zgo t us).2]):=by
 refine Zb 21 Tryz.func156 rfl rfl rfl (Nat.le_of_ble_eq_true rfl) ?_
 have hun:=hu.len
 refine Za (xAl [_,_,_] ZfH (h:=fun b1=>xA (h:=ZH [_] rfl (Zg (Za (xM (h:=xV Tryz.underlying38 (h:=xM (h:=Zl (ZC (α:=Nat) [0,1,4,9,10] (fun k=>[(11,.int .i64 k)]) [] (fun k=>[]) (fun k Bx=>Bx=B∧k≤us.length∧∀y,y∈us.take k→t y=false) (fun k=>us.length - k) 0 t1 rfl (⟨rfl,Nat.zero_le _,by simp⟩) (fun k B2 hle2 hI=>?_)))))))))))
 obtain ⟨rfl,hk,ha⟩:=hI
 refine ZL [(0,_),(1,_),(4,_),(9,_),(10,_),(11,_)] [_] t6 rfl (Za (ZF (h:=Zg (Zc rfl (fun g1=>?_) (fun g1=>?_)))))
 try simp only [sQ,ne_eq] at g1
 refine Zf (Zd (Zg (Zl (Za ?_))))
 obtain ⟨m,hm⟩:=ZW (xs:=us) (i:=k) om
 obtain ⟨bb4,oo4,rfl⟩:=hu.base hm
 obtain ⟨_,⟨rfl,hb5,hb5b⟩,hc5⟩:=hu.elem hm
 refine xIx Tryz.underlying38 ZbV (h:=yL [_,_,_] ZeA hc5 0 (h:=xAl [_,_,_] ZfH (h:=fun b6=>xS [_,_,_] 1 [_,_,_] ZbV (h:=ZH [_,_] rfl (Za (xM (h:=xL [_,_,_] ZeA 1 (h:=Zo (ZpW rfl rfl he rfl rfl (hF m om2 om2) ?_)))))))))
 refine Zc rfl (fun g2=>?_) (fun g2=>?_)
 try simp only [sQ,ne_eq] at g2
 refine Za (xL [_,_,_] ZeA 1 (h:=xS [_,_,_] 0 [_,_,_] ZbV (h:=xA (h:=ZH [_,_] rfl (Zi (ZE (Zn (ZS (ZE (Zn ?_))))))))))
 exact ZB .ret (.inl rfl) [_,_] ⟨⟨_,rfl,.inr ⟨[_,_,_],ZeA,ZcQ 0 rfl rfl rfl,rfl⟩⟩,rfl,trivial⟩ ⟨by rw [Zn4 hm g2 ha];rfl,rfl,rfl⟩
 try simp only [sQ,ne_eq] at g2
 refine Zf (ZP (Zd (Zk (xD (h:=xM (h:=?_))))))
 exact ZD (k+1) [0] so2 ⟨rfl,oz,Za1 hm ha g2⟩ t6 rfl
 try simp only [sQ,ne_eq] at g1
 refine ZI (ZY (ZM (Zv (Zd (Za (xAl [_,_,_] ZfH (h:=fun b8=>ZH [_,_] rfl (Za (xL [_,_,_] ZeA 1 (h:=xS [_,_,_] 0 [_,_,_] ZbV (h:=xA (h:=ZH [_,_] rfl (Zi ?_)))))))))))))
 exact ZB .ret (.inl rfl) [_,_] ⟨⟨_,rfl,.inr ⟨[_,_,_],ZeA,ZcQ 0 rfl rfl rfl,rfl⟩⟩,rfl,trivial⟩ ⟨by rw [Zmk (Za6 oz ha)];rfl,rfl,rfl⟩

set_option maxHeartbeats 400000 in
theorem ZgI (q:Option Addr) (cp:Nat) (us:List DUser) (nm:Str) (hn:nm.length≤2000000) (B:Kn) (hu:SlK B q cp 3 Zq us):Zaa (pj J) 118 [.slice q us.length cp,str nm] B (.tuple #[.agg #[str (Zaw us nm).1.name,str (Zaw us nm).1.pass,.int .i64 (Zaw us nm).1.quota],.bool (Zaw us nm).2]):=by
 refine Zb 15 Tryz.func118 rfl rfl rfl (Nat.le_of_ble_eq_true rfl) ?_
 have hun:=hu.len
 refine Za (xBx [_] (h:=fun b1=>xAl [_,_,_] ZfH (h:=fun b2=>xA (h:=ZH [_,_] rfl (Zg (Za (xM (h:=xR ZuE rfl (Zg9 _ _ _ _ hu) (h:=xN (h:=Zc rfl (fun g0=>?_) (fun g0=>?_)))))))))))
 try simp only [sQ,ne_eq] at g0
 refine Za (xB [] [_,_,_] [_,_,_] Zti ZfH (h:=xS [_,_,_] 1 [_,_,_] ZbV (h:=xA (h:=ZH [_,_] rfl (Zi (Zn ?_))))))
 exact ZB .ret (.inl rfl) [_,_] ⟨⟨_,rfl,.inr ⟨[_,_,_],ZeA,ZcQ 1 rfl rfl rfl,rfl⟩⟩,rfl,trivial⟩ ⟨by rw [Zaw,g0];rfl,rfl,rfl⟩
 try simp only [sQ,ne_eq] at g0
 refine Zf (Zd (Za (xM (h:=Zo (ZfI (xs:=[]) (ys:=[_]) rfl rfl rfl rfl (Zo (ZiQ 0 rfl rfl rfl ZtN rfl (Zaa.borrow fun hm=>Zn5 _ _ us 157 _ (fun y=>decide (y.name=nm)) _ (hu.mono Zq.mono (Kn.le_add _ _)) ZtM (fun y h1 h2=>ZiX y nm _ h1 hn _ (Zig hm))) (xE (h:=xE (h:=xS [_,_,_] 1 [_,_,_] ZbV (h:=xA (h:=ZH [_,_] rfl (Zi ?_)))))))))))))
 exact ZB .ret (.inl rfl) [_,_] ⟨⟨_,rfl,.inr ⟨[_,_,_],ZeA,ZcQ 1 rfl rfl rfl,rfl⟩⟩,rfl,trivial⟩ ⟨by rw [Zaw,if_pos g0];rfl,rfl,rfl⟩

set_option maxHeartbeats 400000 in
theorem Zgu (b o:Nat) (q1 q2 q3:Option Addr) (c1 c2 c3:Nat) (x:DHost) (nm:Str) (hn:nm.length≤2000000) (B:Kn) (hh:ZaI B b o [str x.domain,.slice q1 x.users.length c1,.slice q2 x.folders.length c2,.int .i64 x.queue.next,.slice q3 x.queue.items.length c3]) (hu:SlK B q1 c1 3 Zq x.users):Zaa (pj J) 83 [ptr ⟨b,o,none⟩,str nm] B (.bool (Zaw x.users nm).2):=by
 refine Zb 17 Tryz.func83 rfl rfl rfl (Nat.le_of_ble_eq_true rfl) ?_
 refine Za (xA (h:=Za (xM (h:=xNc (h:=xW ZbI (h:=Zo (Zs rfl rfl ZiM rfl (hh _ 1 _ rfl) (xM (h:=xR Zsy rfl (ZgI _ _ _ nm om2 _ hu) (h:=?_))))))))))
 refine xM (h:=xE (h:=xE (h:=xAl [_,_,_] ZfH (h:=fun b2=>xS [_,_,_] 0 [_,_,_] ZbV (h:=xA (h:=ZH [_] rfl (Za (xM (h:=xA (h:=Zi ?_))))))))))
 exact ZB .ret (.inl rfl) [_] t1 ⟨rfl,rfl,rfl⟩

set_option maxHeartbeats 400000 in
theorem Zg7 (q1 q2 q3:Option Addr) (c1 c2 c3:Nat) (x:DHost) (ow nm:Str) (ho:ow.length≤2000000) (hn:nm.length≤2000000) (B:Kn) (hf:SlK B q2 c2 5 Ze x.folders):Zaa (pj J) 28 [.agg #[str x.domain,.slice q1 x.users.length c1,.slice q2 x.folders.length c2,.int .i64 x.queue.next,.slice q3 x.queue.items.length c3],str ow,str nm] B (.int .i64 (ZeG (inF ow nm) x.folders)):=by
 refine Zb 34 Tryz.func28 rfl rfl rfl (Nat.le_of_ble_eq_true rfl) ?_
 have hfn:=hf.len
 refine Za (xBx [_,_,_,_,_] (h:=fun b1=>xA (h:=ZH [_] rfl (Zg (Za (xA (h:=Zl (ZC (α:=Nat) [0,1,2,3] (fun k=>[(7,.int .i64 k)]) [] (fun k=>[]) (fun k Bx=>Bx=B∧k≤x.folders.length∧∀y,y∈x.folders.take k→inF ow nm y=false) (fun k=>x.folders.length - k) 0 t1 rfl (⟨rfl,Nat.zero_le _,by simp⟩) (fun k B2 hle2 hI=>?_)))))))))
 obtain ⟨rfl,hk,ha⟩:=hI
 refine ZL [(0,_),(1,_),(2,_),(3,_),(7,_)] [_] t5 rfl (Zg (Za (xM (h:=xW Zar (h:=x1 Zd7 0 (h:=xV Tryz.underlying39 (h:=ZF (h:=Zc rfl (fun g1=>?_) (fun g1=>?_)))))))))
 try simp only [sQ,ne_eq] at g1
 refine Zf (Zd (Zg (Zl (Za (xW Zar (h:=x1 Zd7 0 (h:=xM (h:=?_))))))))
 obtain ⟨y,hy⟩:=ZW (xs:=x.folders) (i:=k) om
 obtain ⟨bb4,oo4,rfl⟩:=hf.base hy
 obtain ⟨_,⟨qg5,cg5,qm5,cm5,rfl,hg5,hm5,hb5,hb5b⟩,hc5⟩:=hf.elem hy
 have hg5n:=hg5.len
 have hm5n:=hm5.len
 have hm5s:=Z5 hm5
 refine xIx Tryz.underlying39 ZaQ (h:=xW Za0 (h:=y1 lk9 hc5 0 (h:=xM (h:=Zc9 (h:=xM (h:=Zw (d:=23) rfl (fun g2=>?_) (fun g2=>?_)))))))
 try simp only [sQ,ne_eq] at g2
 refine xW Zar (h:=x1 Zd7 0 (h:=xM (h:=xIx Tryz.underlying39 ZaQ (h:=xW ZbP (h:=y1 lk9 hc5 1 (h:=xM (h:=Zc9 (h:=xT (h:=Zc rfl (fun g3=>?_) (fun g3=>?_))))))))))
 try simp only [sQ,ne_eq] at g3
 refine Za (xM (h:=xA (h:=Zi (ZE (Zn (ZS (ZE (Zn ?_))))))))
 exact ZB .ret (.inl rfl) [_] t1 ⟨ZN (Zgv hy (by simp [inF,g2,g3]) ha).symm,rfl,rfl⟩
 try simp only [sQ,ne_eq] at g3
 refine Zf (ZP (Zd (Zk (xM (h:=xD (h:=xA (h:=?_)))))))
 exact ZD (k+1) [0] so2 ⟨rfl,oz,Za1 hy ha (by simp [inF,g2,g3])⟩ t5 rfl
 try simp only [sQ,ne_eq] at g2
 refine xP (h:=xP (h:=xP (h:=xP (h:=xP (h:=xP (h:=xP (h:=xP (h:=xF (h:=Zc (t:=false) rfl (fun h=>Bool.noConfusion h) (fun _=>Zf (ZP (Zd (Zk ?_)))))))))))))
 refine xM (h:=xD (h:=xA (h:=?_)))
 exact ZD (k+1) [0] so2 ⟨rfl,oz,Za1 hy ha (by simp [inF,g2])⟩ t5 rfl
 try simp only [sQ,ne_eq] at g1
 refine ZI (ZY (ZM (Zv (Zd (Za (xA (h:=Zi ?_)))))))
 exact ZB .ret (.inl rfl) [_] t1 ⟨ZN (Zeb (Za6 oz ha)).symm,rfl,rfl⟩

set_option maxHeartbeats 400000 in
theorem Zrj (f:DFolder) (qa qb:Option Addr) (ca cb:Nat) (ow nm:Str) (b b':Nat) (h1:f.owner.length≤2000000) (h2:f.name.length≤2000000) (h3:ow.length≤2000000) (h4:nm.length≤2000000) (B:Kn) (hb:ZaI B b 0 [str ow]) (hb2:ZaI B b' 0 [str nm]):Zaa (pj J) 75 [.agg #[str f.owner,str f.name,.slice qa f.grants.length ca,.int .i64 f.next,.slice qb f.mail.length cb],ptr ⟨b,0,none⟩,ptr ⟨b',0,none⟩] B (.bool (inF ow nm f)):=by
 refine Zb 15 Tryz.func75 rfl rfl rfl (Nat.le_of_ble_eq_true rfl) ?_
 refine Za (xBx [_,_,_,_,_] (h:=fun b1=>xA (h:=ZH [_] rfl (Za (xW Za0 (h:=x1 lk9 0 (h:=Zo (Zs rfl rfl lk9 rfl (hb _ 0 _ rfl) (Zc9 (h:=xM (h:=Zw (d:=9) rfl (fun g1=>?_) (fun g1=>?_))))))))))))
 try simp only [sQ,ne_eq] at g1
 refine xW ZbP (h:=x1 lk9 0 (h:=Zo (Zs rfl rfl lk9 rfl (hb2 _ 0 _ rfl) (Zc9 (h:=xT (h:=xA (h:=Zi ?_)))))))
 exact ZB .ret (.inl rfl) [_] t1 ⟨Zh (by rw [Bool.eq_iff_iff];simp [inF,g1]),rfl,rfl⟩
 try simp only [sQ,ne_eq] at g1
 refine xP (h:=xP (h:=xP (h:=xP (h:=xF (h:=xA (h:=Zi ?_))))))
 exact ZB .ret (.inl rfl) [_] t1 ⟨Zh (by rw [Bool.eq_iff_iff];simp [inF,g1]),rfl,rfl⟩

set_option maxHeartbeats 400000 in
theorem Zpj (q:Option Addr) (cp:Nat) (fs:List DFolder) (F:FuncId) (cap:Array Value) (t:DFolder→Bool) (B:Kn) (hf:SlK B q cp 5 Ze fs) (he:enters (pj J) F=true) (hF :∀(f:DFolder) (qa qb:Option Addr) (ca cb:Nat),f.owner.length≤2000000→f.name.length≤2000000→Zaa (pj J) F ([.agg #[str f.owner,str f.name,.slice qa f.grants.length ca,.int .i64 f.next,.slice qb f.mail.length cb]] ++ cap.toList) B (.bool (t f))):Zaa (pj J) 74 [.slice q fs.length cp,.func (.func F) #[] cap] B (.int .i64 (ZeG t fs)):=by
 refine Zb 19 Tryz.func74 rfl rfl rfl (Nat.le_of_ble_eq_true rfl) ?_
 have hfn:=hf.len
 refine Za (xA (h:=Zg (Za (xM (h:=xV Tryz.underlying39 (h:=xM (h:=Zl (ZC (α:=Nat) [0,1,7] (fun k=>[(8,.int .i64 k)]) [] (fun k=>[]) (fun k Bx=>Bx=B∧k≤fs.length∧∀y,y∈fs.take k→t y=false) (fun k=>fs.length - k) 0 t1 rfl (⟨rfl,Nat.zero_le _,by simp⟩) (fun k B1 hle1 hI=>?_)))))))))
 obtain ⟨rfl,hk,ha⟩:=hI
 refine ZL [(0,_),(1,_),(7,_),(8,_)] [] t4 rfl (Za (ZF (h:=Zg (Zc rfl (fun g1=>?_) (fun g1=>?_)))))
 try simp only [sQ,ne_eq] at g1
 refine Zf (Zd (Zg (Zl (Za (xM (h:=xA (h:=Za (xM (h:=xM (h:=xM (h:=?_)))))))))))
 obtain ⟨y,hy⟩:=ZW (xs:=fs) (i:=k) om
 obtain ⟨bb3,oo3,rfl⟩:=hf.base hy
 obtain ⟨_,⟨qg4,cg4,qm4,cm4,rfl,hg4,hm4,hb4,hb4b⟩,hc4⟩:=hf.elem hy
 have hg4n:=hg4.len
 have hm4n:=hm4.len
 have hm4s:=Z5 hm4
 refine xIx Tryz.underlying39 ZaQ (h:=yL [_,_,_,_,_] Zcd hc4 0 (h:=Zo (ZpW rfl rfl he rfl rfl (hF y _ _ _ _ om2 om2) ?_)))
 refine Zc rfl (fun g2=>?_) (fun g2=>?_)
 try simp only [sQ,ne_eq] at g2
 refine Za (xM (h:=xA (h:=Zi (ZE (Zn (ZS (ZE (Zn ?_))))))))
 exact ZB .ret (.inl rfl) [_] t1 ⟨ZN (Zgv hy g2 ha).symm,rfl,rfl⟩
 try simp only [sQ,ne_eq] at g2
 refine Zf (ZP (Zd (Zk (xD (h:=xM (h:=?_))))))
 exact ZD (k+1) [] so2 ⟨rfl,oz,Za1 hy ha g2⟩ t4 rfl
 try simp only [sQ,ne_eq] at g1
 refine ZI (ZY (ZM (Zv (Zd (Za (xA (h:=Zi ?_)))))))
 exact ZB .ret (.inl rfl) [_] t1 ⟨ZN (Zeb (Za6 oz ha)).symm,rfl,rfl⟩

set_option maxHeartbeats 400000 in
theorem Zn2 (b o:Nat) (q1 q2 q3:Option Addr) (c1 c2 c3:Nat) (x:DHost) (ow nm:Str) (ho:ow.length≤2000000) (hn:nm.length≤2000000) (B:Kn) (hh:ZaI B b o [str x.domain,.slice q1 x.users.length c1,.slice q2 x.folders.length c2,.int .i64 x.queue.next,.slice q3 x.queue.items.length c3]) (hf:SlK B q2 c2 5 Ze x.folders):Zaa (pj J) 34 [ptr ⟨b,o,none⟩,str ow,str nm] B (.int .i64 (ZeG (inF ow nm) x.folders)):=by
 refine Zb 13 Tryz.func34 rfl rfl rfl (Nat.le_of_ble_eq_true rfl) ?_
 refine Za (xBx [_] (h:=fun b1=>xBx [_] (h:=fun b2=>xA (h:=ZH [_,_] rfl (Za (xM (h:=xNc (h:=xW Zar (h:=Zo (Zs rfl rfl Zd7 rfl (hh _ 2 _ rfl) (Zo (ZfI (xs:=[]) (ys:=[_,_]) rfl rfl rfl rfl (Zo (ZrN 0 1 rfl rfl rfl rfl rfl Zvm rfl (Zaa.borrow2 fun hm1 hm2=>Zpj _ _ x.folders 75 _ (inF ow nm) _ ((hf.mono Ze.mono (Kn.le_add _ _)).mono Ze.mono (Kn.le_add _ _)) Zvl (fun f qa qb ca cb h1 h2=>Zrj f qa qb ca cb ow nm _ _ h1 h2 ho hn _ (Zig hm1) (Zig hm2))) (xA (h:=?_))))))))))))))))
 refine Zi ?_
 exact ZB .ret (.inl rfl) [_] t1 ⟨rfl,rfl,rfl⟩

set_option maxHeartbeats 400000 in
theorem Zko (b o:Nat) (q1 q2 q3:Option Addr) (c1 c2 c3:Nat) (x:DHost) (B:Kn) (hh:ZaI B b o [str x.domain,.slice q1 x.users.length c1,.slice q2 x.folders.length c2,.int .i64 x.queue.next,.slice q3 x.queue.items.length c3]) (hu:SlK B q1 c1 3 Zq x.users) (hi:SlK B q3 c3 4 ZG x.queue.items):Zaa (pj J) 73 [ptr ⟨b,o,none⟩] B (.bool (x.queue.items.all (Zcj x.users))):=by
 refine Zb 35 Tryz.func73 rfl rfl rfl (Nat.le_of_ble_eq_true rfl) ?_
 have hin:=hi.len
 refine Za (xA (h:=Zg (Za (xM (h:=xNc (h:=xW Zfz (h:=xW Zdl (h:=Zo (Zs rfl rfl Zmw rfl (hh _ 4 _ rfl) (xV Tryz.underlying40 (h:=xM (h:=Zl (ZC (α:=Nat) [0,11,12] (fun k=>[(13,.int .i64 k)]) [] (fun k=>[]) (fun k Bx=>Bx=B∧k≤x.queue.items.length∧∀y,y∈x.queue.items.take k→Zcj x.users y=true) (fun k=>x.queue.items.length - k) 0 t1 rfl (⟨rfl,Nat.zero_le _,by simp⟩) (fun k B1 hle1 hI=>?_))))))))))))))
 obtain ⟨rfl,hk,ha⟩:=hI
 refine ZL [(0,_),(11,_),(12,_),(13,_)] [] t4 rfl (Za (ZF (h:=Zg (Zc rfl (fun g1=>?_) (fun g1=>?_)))))
 try simp only [sQ,ne_eq] at g1
 refine Zf (Zd (Zg (Zl (Za ?_))))
 obtain ⟨y,hy⟩:=ZW (xs:=x.queue.items) (i:=k) om
 obtain ⟨bb3,oo3,rfl⟩:=hi.base hy
 obtain ⟨_,⟨qi4,ci4,rfl,hi4,hb4,hb4b⟩,hc4⟩:=hi.elem hy
 have hi4n:=hi4.len
 refine xIx Tryz.underlying40 Zc3 (h:=yL [_,_,_,_] ZhB hc4 0 (h:=xAl [_,_,_,_] Zh9 (h:=fun b5=>xS [_,_,_,_] 0 [_,_,_,_] Zc3 (h:=ZH [_] rfl (Zg (Za (xM (h:=xW Zef (h:=x1 lk9 0 (h:=xR ZsV rfl (Zgu _ _ _ _ _ _ _ _ x y.fr om2 _ hh hu) (h:=?_)))))))))))
 refine xN (h:=Zc rfl (fun g2=>?_) (fun g2=>?_))
 try simp only [sQ,ne_eq] at g2
 refine Za (xA (h:=Zi (Zn (ZE (Zn (ZS (ZE (Zn ?_))))))))
 exact ZB .ret (.inl rfl) [_] t1 ⟨Zh (Zc1 hy (by simp [Zcj,g2])).symm,rfl,rfl⟩
 try simp only [sQ,ne_eq] at g2
 refine Zf (Zd (Za (xW Zee (h:=x1 Zgn 0 (h:=xV Tryz.underlying103 (h:=xM (h:=Zl (ZC (α:=Nat) [0,4,11,12,13,14,21,23,24] (fun j=>[(25,.int .i64 j)]) [] (fun j=>[]) (fun j Bx=>Bx=B1∧j≤y.left.length∧∀z,z∈y.left.take j→(Zaw x.users z).2=true) (fun j=>y.left.length - j) 0 t1 rfl (⟨rfl,Nat.zero_le _,by simp⟩) (fun j B7 hle7 hI=>?_)))))))))
 obtain ⟨rfl,hj,hb⟩:=hI
 refine ZL [(0,_),(4,_),(11,_),(12,_),(13,_),(14,_),(21,_),(23,_),(24,_),(25,_)] [_] t10 rfl (Za (ZF (h:=Zg (Zc rfl (fun g3=>?_) (fun g3=>?_)))))
 try simp only [sQ,ne_eq] at g3
 refine Zf (Zd (Zg (Zl (Za ?_))))
 obtain ⟨z,hz⟩:=ZW (xs:=y.left) (i:=j) om
 obtain ⟨bb9,oo9,rfl⟩:=hi4.base hz
 obtain ⟨_,⟨rfl,hb10⟩,hc10⟩:=hi4.elem hz
 refine xIx Tryz.underlying103 sz9 (h:=y1 lk9 hc10 0 (h:=xA (h:=Za (xM (h:=xM (h:=xR ZsV rfl (Zgu _ _ _ _ _ _ _ _ x z om2 _ hh hu) (h:=?_)))))))
 refine xN (h:=Zc rfl (fun g4=>?_) (fun g4=>?_))
 try simp only [sQ,ne_eq] at g4
 refine Za (xA (h:=Zi (ZE (Zn (ZS (ZE (ZE (Zn (ZS (ZE (Zn ?_)))))))))))
 exact ZB .ret (.inl rfl) [_] t1 ⟨Zh (Zc1 hy (by rw [Zcj,Zc1 hz g4,Bool.and_false])).symm,rfl,rfl⟩
 try simp only [sQ,ne_eq] at g4
 refine Zf (ZP (Zd (Zk (xD (h:=xM (h:=?_))))))
 exact ZD (j+1) [0] so2 ⟨rfl,oz,Za1 hz hb g4⟩ t10 rfl
 try simp only [sQ,ne_eq] at g3
 refine ZI (ZY (ZM (Zv (ZP (Zd (Zk (xD (h:=xM (h:=?_)))))))))
 exact ZD (k+1) [] so2 ⟨rfl,oz,Za1 hy ha (by rw [Zcj,g2,Zey (Za6 oz hb)];rfl)⟩ t4 rfl
 try simp only [sQ,ne_eq] at g1
 refine ZI (ZY (ZM (Zv (Zd (Za (xA (h:=Zi ?_)))))))
 exact ZB .ret (.inl rfl) [_] t1 ⟨Zh (Zey (Za6 oz ha)).symm,rfl,rfl⟩

set_option maxHeartbeats 400000 in
theorem ZnC (f g:DFolder) (qa qb qc qd:Option Addr) (ca cb cc cd:Nat) (B:Kn):Zaa (pj J) 93 [.agg #[str f.owner,str f.name,.slice qa f.grants.length ca,.int .i64 f.next,.slice qb f.mail.length cb],.agg #[str g.owner,str g.name,.slice qc g.grants.length cc,.int .i64 g.next,.slice qd g.mail.length cd]] B (.bool (Zfs f g)):=by
 refine Zb 24 Tryz.func93 rfl rfl rfl (Nat.le_of_ble_eq_true rfl) ?_
 refine Za (xBx [_,_,_,_,_] (h:=fun b1=>xBx [_,_,_,_,_] (h:=fun b2=>xA (h:=ZH [_,_] rfl (Za (xW Za0 (h:=x1 lk9 0 (h:=xW Za0 (h:=x1 lk9 1 (h:=ZpV (h:=xM (h:=Zw (d:=10) rfl (fun g1=>?_) (fun g1=>?_)))))))))))))
 try simp only [sQ,ne_eq] at g1
 refine xP (h:=xP (h:=xP (h:=xP (h:=xP (h:=xP (h:=xP (h:=xP (h:=xP (h:=xP (h:=xP (h:=xP (h:=xT (h:=?_)))))))))))))
 refine xA (h:=Zi ?_)
 exact ZB .ret (.inl rfl) [_] t1 ⟨Zh (by rw [Bool.eq_iff_iff];simp [Zfs,ZcZ,g1]),rfl,rfl⟩
 try simp only [sQ,ne_eq] at g1
 refine xW Za0 (h:=x1 lk9 0 (h:=xW Za0 (h:=x1 lk9 1 (h:=Zc9 (h:=xM (h:=Zw (d:=16) rfl (fun g2=>?_) (fun g2=>?_)))))))
 try simp only [sQ,ne_eq] at g2
 refine xW ZbP (h:=x1 lk9 0 (h:=xW ZbP (h:=x1 lk9 1 (h:=ZpV (h:=xT (h:=xF (h:=xA (h:=Zi ?_))))))))
 exact ZB .ret (.inl rfl) [_] t1 ⟨Zh (by rw [Bool.eq_iff_iff];simp [Zfs,ZcZ,g1,g2]),rfl,rfl⟩
 try simp only [sQ,ne_eq] at g2
 refine xP (h:=xP (h:=xP (h:=xP (h:=xP (h:=xF (h:=xF (h:=xA (h:=Zi ?_))))))))
 exact ZB .ret (.inl rfl) [_] t1 ⟨Zh (by rw [Bool.eq_iff_iff];simp [Zfs,ZcZ,g1,g2]),rfl,rfl⟩

set_option maxHeartbeats 400000 in
theorem Zkg (q:Option Addr) (cp:Nat) (us:List DUser) (B:Kn) (hu:SlK B q cp 3 Zq us):Zaa (pj J) 58 [.slice q us.length cp] B (.bool (Zau us)):=by
 refine Zb 54 Tryz.func58 rfl rfl rfl (Nat.le_of_ble_eq_true rfl) ?_
 have hun:=hu.len
 refine Za (xA (h:=Zg (Za (xA (h:=Zl (ZC (α:=Nat × Str) [0] (fun g=>[(3,.int .i64 g.1)]) [] (fun g=>[]) (fun g Bx=>Bx=B∧g.1≤us.length∧Zdx (us.take g.1)=(true,g.2)∧Prev (fun y=>y.name) ([]:Str) us g.1 g.2) (fun g=>us.length - g.1) (0,[]) t1 rfl (⟨rfl,Nat.zero_le _,ZeW,.zero⟩) (fun g B1 hle1 hI=>?_)))))))
 obtain ⟨rfl,hk,hs,hp⟩:=hI
 refine ZL [(0,_),(3,_)] [] t2 rfl (Zg (Za (xM (h:=xM (h:=xV Tryz.underlying38 (h:=ZF (h:=Zc rfl (fun g1=>?_) (fun g1=>?_))))))))
 try simp only [sQ,ne_eq] at g1
 refine Zf (Zd (Zg (Zl (Za (xM (h:=xM (h:=?_)))))))
 obtain ⟨m,hm⟩:=ZW (xs:=us) (i:=g.1) om
 obtain ⟨bb3,oo3,rfl⟩:=hu.base hm
 obtain ⟨_,⟨rfl,hb4,hb4b⟩,hc4⟩:=hu.elem hm
 refine xIx Tryz.underlying38 ZbV (h:=yL [_,_,_] ZeA hc4 0 (h:=xAl [_,_,_] ZfH (h:=fun b5=>xS [_,_,_] 0 [_,_,_] ZbV (h:=ZH [_] rfl (Zg (Zan (same _ _) mo kr ⟨rfl,rfl⟩ (fun _ _=>?_)))))))
 refine aW 0 rfl ZaX (h:=aT 1 rfl (Zaq fun D=>Zs rfl rfl lk9 rfl (atL 0 rfl rfl rfl) r4) (h:=aT 2 rfl (Zaq fun D=>Zam rfl rfl Zrp rfl (ZbW _ om2 _) r4) (h:=?_)))
 refine aN 3 rfl (h:=aM 4 rfl (h:=Zav (d:=19) rfl (fun g2=>?_) (fun g2=>?_)))
 try simp only [sQ,ne_eq] at g2
 refine aZ 5 rfl (h:=aZ 6 rfl (h:=aZ 7 rfl (h:=aPT 8 rfl (h:=aM 9 rfl (h:=aZ 10 rfl (h:=aZ 11 rfl (h:=aZ 12 rfl (h:=aZ 13 rfl (h:=aPT 14 rfl (h:=aM 15 rfl (h:=aZ 16 rfl (h:=aZ 17 rfl (h:=?_)))))))))))))
 refine aZ 18 rfl (h:=aZ 19 rfl (h:=aPT 20 rfl (h:=aM 21 rfl (h:=aZ 22 rfl (h:=aZ 23 rfl (h:=aZ 24 rfl (h:=aZ 25 rfl (h:=aZ 26 rfl (h:=aZ 27 rfl (h:=aZ 28 rfl (h:=aZ 29 rfl (h:=aZ 30 rfl (h:=?_)))))))))))))
 refine aZ 31 rfl (h:=aZ 32 rfl (h:=aZ 33 rfl (h:=aZ 34 rfl (h:=aPT 35 rfl (h:=Zz kr kr ?_)))))
 refine Zd (Zc (t:=true) rfl (fun _=>Za (xA (h:=Zi (ZE (Zn (ZS (ZE (Zn ?_)))))))) (fun h=>Bool.noConfusion h))
 exact ZB .ret (.inl rfl) [_] t1 ⟨Zh (Zcs hm hs (by simp [ZdX,Zcb,anyone,g1,g2])).symm,rfl,rfl⟩
 try simp only [sQ,ne_eq] at g2
 refine aW 5 rfl ZaX (h:=aT 6 rfl (Zaq fun D=>Zs rfl rfl lk9 rfl (atL 0 rfl rfl rfl) r4) (h:=Zox 7 rfl (h:=aPF 8 rfl (h:=aM 9 rfl (h:=Zav (d:=24) rfl (fun g3=>?_) (fun g3=>?_))))))
 try simp only [sQ,ne_eq] at g3
 refine aZ 10 rfl (h:=aZ 11 rfl (h:=aZ 12 rfl (h:=aZ 13 rfl (h:=aPT 14 rfl (h:=aM 15 rfl (h:=aZ 16 rfl (h:=aZ 17 rfl (h:=aZ 18 rfl (h:=aZ 19 rfl (h:=aPT 20 rfl (h:=aM 21 rfl (h:=aZ 22 rfl (h:=?_)))))))))))))
 refine aZ 23 rfl (h:=aZ 24 rfl (h:=aZ 25 rfl (h:=aZ 26 rfl (h:=aZ 27 rfl (h:=aZ 28 rfl (h:=aZ 29 rfl (h:=aZ 30 rfl (h:=aZ 31 rfl (h:=aZ 32 rfl (h:=aZ 33 rfl (h:=aZ 34 rfl (h:=aPT 35 rfl (h:=?_)))))))))))))
 refine Zz kr kr ?_
 refine Zd (Zc (t:=true) rfl (fun _=>Za (xA (h:=Zi (ZE (Zn (ZS (ZE (Zn ?_)))))))) (fun h=>Bool.noConfusion h))
 exact ZB .ret (.inl rfl) [_] t1 ⟨Zh (Zcs hm hs (by simp [ZdX,Zcb,anyone,g1,g2,g3])).symm,rfl,rfl⟩
 try simp only [sQ,ne_eq] at g3
 refine aW 10 rfl Zf1 (h:=aT 11 rfl (Zaq fun D=>Zs rfl rfl lk9 rfl (atL 0 rfl rfl rfl) r4) (h:=aT 12 rfl (Zaq fun D=>Zam rfl rfl Zrp rfl (ZbW _ om2 _) r4) (h:=?_)))
 refine aN 13 rfl (h:=aPF 14 rfl (h:=aM 15 rfl (h:=Zav (d:=30) rfl (fun g4=>?_) (fun g4=>?_))))
 try simp only [sQ,ne_eq] at g4
 refine aZ 16 rfl (h:=aZ 17 rfl (h:=aZ 18 rfl (h:=aZ 19 rfl (h:=aPT 20 rfl (h:=aM 21 rfl (h:=aZ 22 rfl (h:=aZ 23 rfl (h:=aZ 24 rfl (h:=aZ 25 rfl (h:=aZ 26 rfl (h:=aZ 27 rfl (h:=aZ 28 rfl (h:=?_)))))))))))))
 refine aZ 29 rfl (h:=aZ 30 rfl (h:=aZ 31 rfl (h:=aZ 32 rfl (h:=aZ 33 rfl (h:=aZ 34 rfl (h:=aPT 35 rfl (h:=Zz kr kr ?_)))))))
 refine Zd (Zc (t:=true) rfl (fun _=>Za (xA (h:=Zi (ZE (Zn (ZS (ZE (Zn ?_)))))))) (fun h=>Bool.noConfusion h))
 exact ZB .ret (.inl rfl) [_] t1 ⟨Zh (Zcs hm hs (by simp [ZdX,Zcb,anyone,g1,g2,g3,g4])).symm,rfl,rfl⟩
 try simp only [sQ,ne_eq] at g4
 refine aW 16 rfl ZdN (h:=aT 17 rfl (Zaq fun D=>Zs rfl rfl lk3 rfl (atL 0 rfl rfl rfl) r4) (h:=aT 18 rfl (Zaq fun D=>Zam rfl rfl ZpB rfl (Zft _ _ _ _) r4) (h:=aN 19 rfl (h:=aPF 20 rfl (h:=aM 21 rfl (h:=Zav (d:=36) rfl (fun g5=>?_) (fun g5=>?_)))))))
 try simp only [sQ,ne_eq] at g5
 refine aZ 22 rfl (h:=aZ 23 rfl (h:=aZ 24 rfl (h:=aZ 25 rfl (h:=aZ 26 rfl (h:=aZ 27 rfl (h:=aZ 28 rfl (h:=aZ 29 rfl (h:=aZ 30 rfl (h:=aZ 31 rfl (h:=aZ 32 rfl (h:=aZ 33 rfl (h:=aZ 34 rfl (h:=?_)))))))))))))
 refine aPT 35 rfl (h:=Zz kr kr ?_)
 refine Zd (Zc (t:=true) rfl (fun _=>Za (xA (h:=Zi (ZE (Zn (ZS (ZE (Zn ?_)))))))) (fun h=>Bool.noConfusion h))
 exact ZB .ret (.inl rfl) [_] t1 ⟨Zh (Zcs hm hs (by simp [ZdX,Zcb,anyone,g1,g2,g3,g4,g5])).symm,rfl,rfl⟩
 try simp only [sQ,ne_eq] at g5
 refine aM 22 rfl (h:=Zow 23 rfl (h:=aM 24 rfl (h:=Zav (d:=39) rfl (fun g6=>?_) (fun g6=>?_))))
 try simp only [sQ,ne_eq] at g6
 refine aM 25 rfl (h:=aM 26 rfl (h:=aU 27 rfl (h:=?_)))
 obtain ⟨y,hy⟩:=ZrE (xs:=us) (i:=(↑g.1 - 1)) om om
 obtain ⟨_,⟨rfl,hb10,hb10b⟩,hc10⟩:=hu.elem hy
 refine aIx 28 rfl Tryz.underlying38 ZbV (h:=?_)
 have hpe:=hp.at hy oz
 refine aW 29 rfl ZaX (h:=aT 30 rfl (Zaq fun D=>Zs rfl rfl lk9 rfl (hc10 _ 0 _ rfl) r4) (h:=aW 31 rfl ZaX (h:=aT 32 rfl (Zaq fun D=>Zs rfl rfl lk9 rfl (atL 0 rfl rfl rfl) r4) (h:=aT 33 rfl (Zaq fun D=>Zp4 rfl rfl rfl rfl r4) (h:=aPT 34 rfl (h:=aPF 35 rfl (h:=Zz kr kr ?_)))))))
 refine Zd (Zc rfl (fun g7=>?_) (fun g7=>?_))
 try simp only [sQ,ne_eq] at g7
 refine Za (xA (h:=Zi (ZE (Zn (ZS (ZE (Zn ?_)))))))
 exact ZB .ret (.inl rfl) [_] t1 ⟨Zh (Zcs hm hs (by simp [ZdX,Zcb,anyone,g1,g2,g3,g4,g5,g6,g7,hpe])).symm,rfl,rfl⟩
 try simp only [sQ,ne_eq] at g7
 refine Zf (ZP (Zd (Zk (xM (h:=xD (h:=xA (h:=?_)))))))
 exact ZD (g.1+1,m.name) [] so2 ⟨rfl,oz,Zb4 hm hs (by rw [hpe];simp [ZdX,Zcb,anyone,g2,g3,g4,g7];simp at g5;omega),.succ hm⟩ t2 rfl
 try simp only [sQ,ne_eq] at g6
 refine aZ 25 rfl (h:=aZ 26 rfl (h:=aZ 27 rfl (h:=aZ 28 rfl (h:=aZ 29 rfl (h:=aZ 30 rfl (h:=aZ 31 rfl (h:=aZ 32 rfl (h:=aZ 33 rfl (h:=aPF 34 rfl (h:=aPF 35 rfl (h:=Zz kr kr ?_)))))))))))
 refine Zd (Zc (t:=false) rfl (fun h=>Bool.noConfusion h) (fun _=>Zf (ZP (Zd (Zk (xM (h:=xD (h:=xA (h:=?_)))))))))
 exact ZD (g.1+1,m.name) [] so2 ⟨rfl,oz,Zb4 hm hs (by rw [hp.at0 oz];simp [ZdX,Zcb,anyone,g2,g3,g4,Zln (ZhU g2)];simp at g5;omega),.succ hm⟩ t2 rfl
 try simp only [sQ,ne_eq] at g1
 refine ZI (ZY (ZM (Zv (Zd (Za (xM (h:=xV Tryz.underlying38 (h:=xR ZpB rfl (Zft _ _ _ _) (h:=xA (h:=Zi ?_))))))))))
 exact ZB .ret (.inl rfl) [_] t1 ⟨Zh (by rw [ZgG (ZdE hs oz),Bool.eq_iff_iff];simp;omega),rfl,rfl⟩

set_option maxHeartbeats 400000 in
theorem Zm8 (q:Option Addr) (cp:Nat) (gs:List DGrant) (B:Kn) (hg:SlK B q cp 2 Zu gs):Zaa (pj J) 91 [.slice q gs.length cp] B (.bool (ZcS gs)):=by
 refine Zb 47 Tryz.func91 rfl rfl rfl (Nat.le_of_ble_eq_true rfl) ?_
 have hgn:=hg.len
 refine Za (xA (h:=Zg (Za (xA (h:=Zl (ZC (α:=Nat × Str) [0] (fun g=>[(3,.int .i64 g.1)]) [] (fun g=>[]) (fun g Bx=>Bx=B∧g.1≤gs.length∧Zb7 (gs.take g.1)=(true,g.2)∧Prev (fun y=>y.user) ([]:Str) gs g.1 g.2) (fun g=>gs.length - g.1) (0,[]) t1 rfl (⟨rfl,Nat.zero_le _,ZeW,.zero⟩) (fun g B1 hle1 hI=>?_)))))))
 obtain ⟨rfl,hk,hs,hp⟩:=hI
 refine ZL [(0,_),(3,_)] [] t2 rfl (Zg (Za (xM (h:=xM (h:=xV Tryz.underlying30 (h:=ZF (h:=Zc rfl (fun g1=>?_) (fun g1=>?_))))))))
 try simp only [sQ,ne_eq] at g1
 refine Zf (Zd (Zg (Zl (Zg (Zan (same _ _) mo kr ⟨rfl,rfl⟩ (fun _ _=>?_))))))
 refine aM 0 rfl (h:=aM 1 rfl (h:=?_))
 obtain ⟨m,hm⟩:=ZW (xs:=gs) (i:=g.1) om
 obtain ⟨bb3,oo3,rfl⟩:=hg.base hm
 obtain ⟨_,⟨rfl,hb4⟩,hc4⟩:=hg.elem hm
 refine aIx 2 rfl Tryz.underlying30 ZbO (h:=aW 3 rfl ZbK (h:=aT 4 rfl (Zaq fun D=>Zs rfl rfl lk9 rfl (hc4 _ 0 _ rfl) r4) (h:=aT 5 rfl (Zaq fun D=>Zam rfl rfl Zrp rfl (ZbW _ om2 _) r4) (h:=?_))))
 refine aN 6 rfl (h:=aM 7 rfl (h:=Zav (d:=17) rfl (fun g2=>?_) (fun g2=>?_)))
 try simp only [sQ,ne_eq] at g2
 refine aZ 8 rfl (h:=aZ 9 rfl (h:=aZ 10 rfl (h:=aZ 11 rfl (h:=aZ 12 rfl (h:=aZ 13 rfl (h:=aZ 14 rfl (h:=aPT 15 rfl (h:=aM 16 rfl (h:=aZ 17 rfl (h:=aZ 18 rfl (h:=aZ 19 rfl (h:=aZ 20 rfl (h:=?_)))))))))))))
 refine aZ 21 rfl (h:=aZ 22 rfl (h:=aZ 23 rfl (h:=aZ 24 rfl (h:=aZ 25 rfl (h:=aZ 26 rfl (h:=aZ 27 rfl (h:=aZ 28 rfl (h:=aZ 29 rfl (h:=aZ 30 rfl (h:=aZ 31 rfl (h:=aZ 32 rfl (h:=aPT 33 rfl (h:=?_)))))))))))))
 refine Zz kr kr ?_
 refine Zd (Zc (t:=true) rfl (fun _=>Za (xA (h:=Zi (ZE (Zn (ZS (ZE (Zn ?_)))))))) (fun h=>Bool.noConfusion h))
 exact ZB .ret (.inl rfl) [_] t1 ⟨Zh (ZcL hm hs (by simp [Zbt,g1,g2])).symm,rfl,rfl⟩
 try simp only [sQ,ne_eq] at g2
 refine aM 8 rfl (h:=aM 9 rfl (h:=aIx 10 rfl Tryz.underlying30 ZbO (h:=aW 11 rfl ZcH (h:=aT 12 rfl (Zaq fun D=>Zs rfl rfl lk3 rfl (hc4 _ 1 _ rfl) r4) (h:=aT 13 rfl (Zaq fun D=>Zam rfl rfl ZpB rfl (Zft _ _ _ _) r4) (h:=aN 14 rfl (h:=aPF 15 rfl (h:=aM 16 rfl (h:=Zav (d:=26) rfl (fun g4=>?_) (fun g4=>?_))))))))))
 try simp only [sQ,ne_eq] at g4
 refine aZ 17 rfl (h:=aZ 18 rfl (h:=aZ 19 rfl (h:=aZ 20 rfl (h:=aZ 21 rfl (h:=aZ 22 rfl (h:=aZ 23 rfl (h:=aZ 24 rfl (h:=aZ 25 rfl (h:=aZ 26 rfl (h:=aZ 27 rfl (h:=aZ 28 rfl (h:=aZ 29 rfl (h:=?_)))))))))))))
 refine aZ 30 rfl (h:=aZ 31 rfl (h:=aZ 32 rfl (h:=aPT 33 rfl (h:=Zz kr kr ?_))))
 refine Zd (Zc (t:=true) rfl (fun _=>Za (xA (h:=Zi (ZE (Zn (ZS (ZE (Zn ?_)))))))) (fun h=>Bool.noConfusion h))
 exact ZB .ret (.inl rfl) [_] t1 ⟨Zh (ZcL hm hs (by simp [Zbt,g1,g2,g4])).symm,rfl,rfl⟩
 try simp only [sQ,ne_eq] at g4
 refine aM 17 rfl (h:=Zow 18 rfl (h:=aM 19 rfl (h:=Zav (d:=29) rfl (fun g6=>?_) (fun g6=>?_))))
 try simp only [sQ,ne_eq] at g6
 refine aM 20 rfl (h:=aM 21 rfl (h:=aU 22 rfl (h:=?_)))
 obtain ⟨y,hy⟩:=ZrE (xs:=gs) (i:=(↑g.1 - 1)) om om
 obtain ⟨_,⟨rfl,hb8⟩,hc8⟩:=hg.elem hy
 refine aIx 23 rfl Tryz.underlying30 ZbO (h:=?_)
 have hpe:=hp.at hy oz
 refine aW 24 rfl ZbK (h:=aT 25 rfl (Zaq fun D=>Zs rfl rfl lk9 rfl (hc8 _ 0 _ rfl) r4) (h:=aM 26 rfl (h:=aM 27 rfl (h:=aIx 28 rfl Tryz.underlying30 ZbO (h:=aW 29 rfl ZbK (h:=aT 30 rfl (Zaq fun D=>Zs rfl rfl lk9 rfl (hc4 _ 0 _ rfl) r4) (h:=aT 31 rfl (Zaq fun D=>Zp4 rfl rfl rfl rfl r4) (h:=aPT 32 rfl (h:=aPF 33 rfl (h:=Zz kr kr ?_))))))))))
 refine Zd (Zc rfl (fun g7=>?_) (fun g7=>?_))
 try simp only [sQ,ne_eq] at g7
 refine Za (xA (h:=Zi (ZE (Zn (ZS (ZE (Zn ?_)))))))
 exact ZB .ret (.inl rfl) [_] t1 ⟨Zh (ZcL hm hs (by simp [Zbt,g1,g2,g4,g6,g7,hpe])).symm,rfl,rfl⟩
 try simp only [sQ,ne_eq] at g7
 refine Zf (ZP (Zd (Zk (xM (h:=xD (h:=xA (h:=?_)))))))
 exact ZD (g.1+1,m.user) [] so2 ⟨rfl,oz,Zb4 hm hs (by rw [hpe];simp [Zbt,g2,g7];simp at g4;omega),.succ hm⟩ t2 rfl
 try simp only [sQ,ne_eq] at g6
 refine aZ 20 rfl (h:=aZ 21 rfl (h:=aZ 22 rfl (h:=aZ 23 rfl (h:=aZ 24 rfl (h:=aZ 25 rfl (h:=aZ 26 rfl (h:=aZ 27 rfl (h:=aZ 28 rfl (h:=aZ 29 rfl (h:=aZ 30 rfl (h:=aZ 31 rfl (h:=aPF 32 rfl (h:=?_)))))))))))))
 refine aPF 33 rfl (h:=Zz kr kr ?_)
 refine Zd (Zc (t:=false) rfl (fun h=>Bool.noConfusion h) (fun _=>Zf (ZP (Zd (Zk (xM (h:=xD (h:=xA (h:=?_)))))))))
 exact ZD (g.1+1,m.user) [] so2 ⟨rfl,oz,Zb4 hm hs (by rw [hp.at0 oz];simp [Zbt,g2,Zln (ZhU g2)];simp at g4;omega),.succ hm⟩ t2 rfl
 try simp only [sQ,ne_eq] at g1
 refine ZI (ZY (ZM (Zv (Zd (Za (xM (h:=xV Tryz.underlying30 (h:=ZbQ (h:=xA (h:=Zi ?_))))))))))
 exact ZB .ret (.inl rfl) [_] t1 ⟨Zh (by rw [ZjW (ZdE hs oz),Bool.eq_iff_iff];simp;try omega),rfl,rfl⟩

set_option maxHeartbeats 400000 in
theorem Zl7 (q1 q2 q3:Option Addr) (c1 c2 c3:Nat) (x:DHost) (q:Option Addr) (cp:Nat) (ns:List Str) (B:Kn) (hu:SlK B q1 c1 3 Zq x.users) (hn:SlK B q cp 1 Zek ns):Zaa (pj J) 62 [.agg #[str x.domain,.slice q1 x.users.length c1,.slice q2 x.folders.length c2,.int .i64 x.queue.next,.slice q3 x.queue.items.length c3],.slice q ns.length cp] B (.bool (Zjt x.users ns)):=by
 refine Zb 20 Tryz.func62 rfl rfl rfl (Nat.le_of_ble_eq_true rfl) ?_
 have hnn:=hn.len
 have hun:=hu.len
 refine Za (xBx [_,_,_,_,_] (h:=fun b1=>xA (h:=ZH [_] rfl (Zg (Za (xA (h:=Zl (ZC (α:=Nat) [0,1,2] (fun k=>[(5,.int .i64 k)]) [] (fun k=>[]) (fun k Bx=>Bx=B∧k≤ns.length∧∀z,z∈ns.take k→decide (0≤ZeB x.users z)=true) (fun k=>ns.length - k) 0 t1 rfl (⟨rfl,Nat.zero_le _,by simp⟩) (fun k B2 hle2 hI=>?_)))))))))
 obtain ⟨rfl,hk,ha⟩:=hI
 refine ZL [(0,_),(1,_),(2,_),(5,_)] [_] t4 rfl (Zg (Za (xM (h:=xM (h:=xV Tryz.underlying103 (h:=ZF (h:=Zc rfl (fun g1=>?_) (fun g1=>?_))))))))
 try simp only [sQ,ne_eq] at g1
 refine Zf (Zd (Zg (Zl (Zg (Zan (same _ _) mo kr ⟨rfl,rfl⟩ (fun _ _=>?_))))))
 refine aW 0 rfl ZbI (h:=aT 1 rfl (Zaq fun D=>Zs rfl rfl ZiM rfl (atL 0 rfl rfl rfl) r4) (h:=aM 2 rfl (h:=aM 3 rfl (h:=?_))))
 obtain ⟨z,hz⟩:=ZW (xs:=ns) (i:=k) om
 obtain ⟨bb4,oo4,rfl⟩:=hn.base hz
 obtain ⟨_,⟨rfl,hb5⟩,hc5⟩:=hn.elem hz
 refine aIx 4 rfl Tryz.underlying103 sz9 (h:=aT 5 rfl (Zaq fun D=>Zs rfl rfl lk9 rfl (hc5 _ 0 _ rfl) r4) (h:=aT 6 rfl (Zaq fun D=>Zam rfl rfl ZrG rfl (Zdi _ _ _ _ _ hu) r4) (h:=ZpQ 7 rfl (h:=Zz kr kr ?_))))
 refine Zd (Zc rfl (fun g2=>?_) (fun g2=>?_))
 try simp only [sQ,ne_eq] at g2
 refine Za (xA (h:=Zi (ZE (Zn (ZS (ZE (Zn ?_)))))))
 exact ZB .ret (.inl rfl) [_] t1 ⟨Zh (Zc1 hz (by simp;omega)).symm,rfl,rfl⟩
 try simp only [sQ,ne_eq] at g2
 refine Zf (ZP (Zd (Zk (xM (h:=xD (h:=xA (h:=?_)))))))
 exact ZD (k+1) [0] so2 ⟨rfl,oz,Za1 hz ha (by simp;omega)⟩ t4 rfl
 try simp only [sQ,ne_eq] at g1
 refine ZI (ZY (ZM (Zv (Zd (Za (xA (h:=Zi ?_)))))))
 exact ZB .ret (.inl rfl) [_] t1 ⟨Zh (Zey (Za6 oz ha)).symm,rfl,rfl⟩

set_option maxHeartbeats 400000 in
theorem ZnB (q1 q2 q3:Option Addr) (c1 c2 c3:Nat) (x:DHost) (u:Str) (B:Kn) (hf:SlK B q2 c2 5 Ze x.folders):Zaa (pj J) 61 [.agg #[str x.domain,.slice q1 x.users.length c1,.slice q2 x.folders.length c2,.int .i64 x.queue.next,.slice q3 x.queue.items.length c3],str u] B (.int .i64 (Zfc x.folders u)):=by
 refine Zb 32 Tryz.func61 rfl rfl rfl (Nat.le_of_ble_eq_true rfl) ?_
 have hfn:=hf.len
 refine Za (xBx [_,_,_,_,_] (h:=fun b1=>xA (h:=ZH [_] rfl (Za (xA (h:=Zg (Za (xA (h:=Zl (ZC (α:=Nat × Nat) [0,1,2,4] (fun g=>[(5,.int .i64 g.2),(6,.int .i64 g.1)]) [] (fun g=>[]) (fun g Bx=>Bx=B∧g.1≤x.folders.length∧g.2=Zfc (x.folders.take g.1) u∧g.2≤g.1*4000000000000) (fun g=>x.folders.length - g.1) (0,0) t2 rfl (⟨rfl,Nat.zero_le _,by simp [Zfc],oz⟩) (fun g B2 hle2 hI=>?_)))))))))))
 obtain ⟨rfl,hk,hs,hl⟩:=hI
 refine ZL [(0,_),(1,_),(2,_),(4,_),(5,_),(6,_)] [_] t6 rfl (Zg (Za (xM (h:=xW Zar (h:=x1 Zd7 0 (h:=xV Tryz.underlying39 (h:=ZF (h:=Zc rfl (fun g1=>?_) (fun g1=>?_)))))))))
 try simp only [sQ,ne_eq] at g1
 refine Zf (Zd (Zg (Zl (Za (xW Zar (h:=x1 Zd7 0 (h:=xM (h:=?_))))))))
 obtain ⟨m,hm⟩:=ZW (xs:=x.folders) (i:=g.1) om
 obtain ⟨bb4,oo4,rfl⟩:=hf.base hm
 obtain ⟨_,⟨qg5,cg5,qm5,cm5,rfl,hg5,hm5,hb5,hb5b⟩,hc5⟩:=hf.elem hm
 have hg5n:=hg5.len
 have hm5n:=hm5.len
 have hm5s:=Z5 hm5
 refine xIx Tryz.underlying39 ZaQ (h:=xW Za0 (h:=y1 lk9 hc5 0 (h:=xM (h:=Zc9 (h:=Zc rfl (fun g2=>?_) (fun g2=>?_))))))
 try simp only [sQ,ne_eq] at g2
 refine Zk (xM (h:=xW Zar (h:=x1 Zd7 0 (h:=xM (h:=xIx Tryz.underlying39 ZaQ (h:=xW ZbJ (h:=yL [_,_] ZiN hc5 3 (h:=xR Zu5 rfl (ZnD _ _ (⟨m.next,m.mail⟩:DBox) _ hm5) (h:=xD (h:=xA (h:=ZP (Zd (Zk ?_)))))))))))))
 refine xM (h:=xD (h:=xA (h:=?_)))
 exact ZD (g.1+1,g.2+Zbc m.mail) [0] so2 ⟨rfl,so,by rw [ZhN hm,← hs,if_pos g2],so⟩ t6 rfl
 try simp only [sQ,ne_eq] at g2
 refine Zf (ZP (Zd (Zk (xM (h:=xD (h:=xA (h:=?_)))))))
 exact ZD (g.1+1,g.2) [0] so2 ⟨rfl,so,by rw [ZhN hm,← hs,if_neg g2];simp only [Nat.add_zero],Nat.le_trans hl (Nat.mul_le_mul_right _ (Nat.le_succ _))⟩ t6 rfl
 try simp only [sQ,ne_eq] at g1
 refine ZI (ZY (ZM (Zv (Zd (Za (xM (h:=xA (h:=Zi ?_))))))))
 exact ZB .ret (.inl rfl) [_] t1 ⟨ZN (by rw [← ZmO hs oz]),rfl,rfl⟩

set_option maxHeartbeats 400000 in
theorem Zjs (q1 q2 q3:Option Addr) (c1 c2 c3:Nat) (x:DHost) (B:Kn) (hu:SlK B q1 c1 3 Zq x.users) (hf:SlK B q2 c2 5 Ze x.folders):Zaa (pj J) 60 [.agg #[str x.domain,.slice q1 x.users.length c1,.slice q2 x.folders.length c2,.int .i64 x.queue.next,.slice q3 x.queue.items.length c3]] B (.bool (ZbH x.users x.folders)):=by
 refine Zb 60 Tryz.func60 rfl rfl rfl (Nat.le_of_ble_eq_true rfl) ?_
 have hfn:=hf.len
 have hun:=hu.len
 refine Za (xBx [_,_,_,_,_] (h:=fun b1=>xA (h:=ZH [_] rfl (Zg (Za (xA (h:=Zl (ZC (α:=Nat × Option DFolder) [0,1] (fun g=>[(3,.int .i64 g.1)]) [] (fun g=>[]) (fun g Bx=>Bx=B∧g.1≤x.folders.length∧Zcp x.users (x.folders.take g.1)=(true,g.2)∧Prev some none x.folders g.1 g.2) (fun g=>x.folders.length - g.1) (0,none) t1 rfl (⟨rfl,Nat.zero_le _,ZeW,.zero⟩) (fun g B2 hle2 hI=>?_)))))))))
 obtain ⟨rfl,hk,hs,hp⟩:=hI
 refine ZL [(0,_),(1,_),(3,_)] [_] t3 rfl (Zg (Za (xM (h:=xW Zar (h:=x1 Zd7 0 (h:=xV Tryz.underlying39 (h:=ZF (h:=Zc rfl (fun g1=>?_) (fun g1=>?_)))))))))
 try simp only [sQ,ne_eq] at g1
 refine Zf (Zd (Zg (Zl (Za (xW Zar (h:=x1 Zd7 0 (h:=xM (h:=?_))))))))
 obtain ⟨m,hm⟩:=ZW (xs:=x.folders) (i:=g.1) om
 obtain ⟨bb4,oo4,rfl⟩:=hf.base hm
 obtain ⟨_,⟨qg5,cg5,qm5,cm5,rfl,hg5,hm5,hb5,hb5b⟩,hc5⟩:=hf.elem hm
 have hg5n:=hg5.len
 have hm5n:=hm5.len
 have hm5s:=Z5 hm5
 refine xIx Tryz.underlying39 ZaQ (h:=yL [_,_,_,_,_] Zcd hc5 0 (h:=xAl [_,_,_,_,_] Zca (h:=fun b6=>xS [_,_,_,_,_] 1 [_,_,_,_,_] ZaQ (h:=ZH [_,_] rfl (Zg (Zan (same _ _) mo kr ⟨rfl,rfl⟩ (fun _ _=>?_)))))))
 refine aW 0 rfl ZbI (h:=aT 1 rfl (Zaq fun D=>Zs rfl rfl ZiM rfl (atL 0 rfl rfl rfl) r4) (h:=aW 2 rfl Za0 (h:=aT 3 rfl (Zaq fun D=>Zs rfl rfl lk9 rfl (atL 1 rfl rfl rfl) r4) (h:=aT 4 rfl (Zaq fun D=>Zam rfl rfl ZrG rfl (Zdi _ _ _ _ _ hu) r4) (h:=ZpQ 5 rfl (h:=aM 6 rfl (h:=Zav (d:=23) rfl (fun g2=>?_) (fun g2=>?_))))))))
 try simp only [sQ,ne_eq] at g2
 refine aZ 7 rfl (h:=aZ 8 rfl (h:=aZ 9 rfl (h:=aZ 10 rfl (h:=aPT 11 rfl (h:=aM 12 rfl (h:=aZ 13 rfl (h:=aZ 14 rfl (h:=aZ 15 rfl (h:=aZ 16 rfl (h:=aPT 17 rfl (h:=aM 18 rfl (h:=aZ 19 rfl (h:=?_)))))))))))))
 refine aZ 20 rfl (h:=aZ 21 rfl (h:=aZ 22 rfl (h:=aPT 23 rfl (h:=aM 24 rfl (h:=aZ 25 rfl (h:=aZ 26 rfl (h:=aZ 27 rfl (h:=aZ 28 rfl (h:=aZ 29 rfl (h:=aZ 30 rfl (h:=aZ 31 rfl (h:=aZ 32 rfl (h:=?_)))))))))))))
 refine aZ 33 rfl (h:=aZ 34 rfl (h:=aZ 35 rfl (h:=aZ 36 rfl (h:=aZ 37 rfl (h:=aPT 38 rfl (h:=Zz kr kr ?_))))))
 refine Zd (Zc (t:=true) rfl (fun _=>Za (xA (h:=Zi (ZE (Zn (ZS (ZE (Zn ?_)))))))) (fun h=>Bool.noConfusion h))
 exact ZB .ret (.inl rfl) [_] t1 ⟨Zh (ZbG hm hs (by simp [Za4,Zaf,DFolder.box,g1,g2];try omega)).symm,rfl,rfl⟩
 try simp only [sQ,ne_eq] at g2
 refine aW 7 rfl ZbP (h:=aT 8 rfl (Zaq fun D=>Zs rfl rfl lk9 rfl (atL 1 rfl rfl rfl) r4) (h:=aT 9 rfl (Zaq fun D=>Zam rfl rfl Zrp rfl (ZbW _ om2 _) r4) (h:=?_)))
 refine aN 10 rfl (h:=aPF 11 rfl (h:=aM 12 rfl (h:=Zav (d:=29) rfl (fun g3=>?_) (fun g3=>?_))))
 try simp only [sQ,ne_eq] at g3
 refine aZ 13 rfl (h:=aZ 14 rfl (h:=aZ 15 rfl (h:=aZ 16 rfl (h:=aPT 17 rfl (h:=aM 18 rfl (h:=aZ 19 rfl (h:=aZ 20 rfl (h:=aZ 21 rfl (h:=aZ 22 rfl (h:=aPT 23 rfl (h:=aM 24 rfl (h:=aZ 25 rfl (h:=?_)))))))))))))
 refine aZ 26 rfl (h:=aZ 27 rfl (h:=aZ 28 rfl (h:=aZ 29 rfl (h:=aZ 30 rfl (h:=aZ 31 rfl (h:=aZ 32 rfl (h:=aZ 33 rfl (h:=aZ 34 rfl (h:=aZ 35 rfl (h:=aZ 36 rfl (h:=aZ 37 rfl (h:=aPT 38 rfl (h:=?_)))))))))))))
 refine Zz kr kr ?_
 refine Zd (Zc (t:=true) rfl (fun _=>Za (xA (h:=Zi (ZE (Zn (ZS (ZE (Zn ?_)))))))) (fun h=>Bool.noConfusion h))
 exact ZB .ret (.inl rfl) [_] t1 ⟨Zh (ZbG hm hs (by simp [Za4,Zaf,DFolder.box,g1,g2,g3];try omega)).symm,rfl,rfl⟩
 try simp only [sQ,ne_eq] at g3
 refine aW 13 rfl Zce (h:=aT 14 rfl (Zaq fun D=>Zs rfl rfl Zmx rfl (atL 1 rfl rfl rfl) r4) (h:=aT 15 rfl (Zaq fun D=>Zam rfl rfl Zu8 rfl (Zm8 _ _ _ _ hg5) r4) (h:=aN 16 rfl (h:=aPF 17 rfl (h:=aM 18 rfl (h:=Zav (d:=35) rfl (fun g4=>?_) (fun g4=>?_)))))))
 try simp only [sQ,ne_eq] at g4
 refine aZ 19 rfl (h:=aZ 20 rfl (h:=aZ 21 rfl (h:=aZ 22 rfl (h:=aPT 23 rfl (h:=aM 24 rfl (h:=aZ 25 rfl (h:=aZ 26 rfl (h:=aZ 27 rfl (h:=aZ 28 rfl (h:=aZ 29 rfl (h:=aZ 30 rfl (h:=aZ 31 rfl (h:=?_)))))))))))))
 refine aZ 32 rfl (h:=aZ 33 rfl (h:=aZ 34 rfl (h:=aZ 35 rfl (h:=aZ 36 rfl (h:=aZ 37 rfl (h:=aPT 38 rfl (h:=Zz kr kr ?_)))))))
 refine Zd (Zc (t:=true) rfl (fun _=>Za (xA (h:=Zi (ZE (Zn (ZS (ZE (Zn ?_)))))))) (fun h=>Bool.noConfusion h))
 exact ZB .ret (.inl rfl) [_] t1 ⟨Zh (ZbG hm hs (by simp [Za4,Zaf,DFolder.box,g1,g2,g3,g4];try omega)).symm,rfl,rfl⟩
 try simp only [sQ,ne_eq] at g4
 refine aW 19 rfl ZbJ (h:=aT 20 rfl (Zaq fun D=>Z8 [_,_] rfl rfl ZiN rfl (ZcQ 1 rfl rfl rfl) r4) (h:=aT 21 rfl (Zaq fun D=>Zam rfl rfl Zu7 rfl (Zm7 _ _ (⟨m.next,m.mail⟩:DBox) _ hm5) r4) (h:=aN 22 rfl (h:=aPF 23 rfl (h:=aM 24 rfl (h:=Zav (d:=41) rfl (fun g5=>?_) (fun g5=>?_)))))))
 try simp only [sQ,ne_eq] at g5
 refine aZ 25 rfl (h:=aZ 26 rfl (h:=aZ 27 rfl (h:=aZ 28 rfl (h:=aZ 29 rfl (h:=aZ 30 rfl (h:=aZ 31 rfl (h:=aZ 32 rfl (h:=aZ 33 rfl (h:=aZ 34 rfl (h:=aZ 35 rfl (h:=aZ 36 rfl (h:=aZ 37 rfl (h:=?_)))))))))))))
 refine aPT 38 rfl (h:=Zz kr kr ?_)
 refine Zd (Zc (t:=true) rfl (fun _=>Za (xA (h:=Zi (ZE (Zn (ZS (ZE (Zn ?_)))))))) (fun h=>Bool.noConfusion h))
 exact ZB .ret (.inl rfl) [_] t1 ⟨Zh (ZbG hm hs (by simp [Za4,Zaf,DFolder.box,g1,g2,g3,g4,g5];try omega)).symm,rfl,rfl⟩
 try simp only [sQ,ne_eq] at g5
 refine aM 25 rfl (h:=Zow 26 rfl (h:=aM 27 rfl (h:=Zav (d:=44) rfl (fun g6=>?_) (fun g6=>?_))))
 try simp only [sQ,ne_eq] at g6
 refine aW 28 rfl Zar (h:=aT 29 rfl (Zaq fun D=>Zs rfl rfl Zd7 rfl (atL 0 rfl rfl rfl) r4) (h:=aM 30 rfl (h:=aU 31 rfl (h:=?_))))
 obtain ⟨y,hy⟩:=ZrE (xs:=x.folders) (i:=(↑g.1 - 1)) om om
 obtain ⟨_,⟨qg12,cg12,qm12,cm12,rfl,hg12,hm12,hb12,hb12b⟩,hc12⟩:=hf.elem hy
 have hg12n:=hg12.len
 have hm12n:=hm12.len
 have hm12s:=Z5 hm12
 refine aIx 32 rfl Tryz.underlying39 ZaQ (h:=?_)
 have hpe:=hp.at hy oz
 refine aT 33 rfl (Zaq fun D=>Z8 [_,_,_,_,_] rfl rfl Zcd rfl (Zlg hc12 0 rfl rfl) r4) (h:=aT 34 rfl (Zaq fun D=>Z8 [_,_,_,_,_] rfl rfl Zcd rfl (ZcQ 1 rfl rfl rfl) r4) (h:=aT 35 rfl (Zaq fun D=>Zam rfl rfl Zu6 rfl (ZnC y m _ _ _ _ _ _ _ _ _) r4) (h:=aN 36 rfl (h:=aPT 37 rfl (h:=aPF 38 rfl (h:=Zz kr kr ?_))))))
 refine Zd (Zc rfl (fun g7=>?_) (fun g7=>?_))
 try simp only [sQ,ne_eq] at g7
 refine Za (xA (h:=Zi (ZE (Zn (ZS (ZE (Zn ?_)))))))
 exact ZB .ret (.inl rfl) [_] t1 ⟨Zh (ZbG hm hs (by simp [Za4,Zaf,DFolder.box,g1,g2,g3,g4,g5,g6,g7,hpe];try omega)).symm,rfl,rfl⟩
 try simp only [sQ,ne_eq] at g7
 refine Zf (ZP (Zd (Zk (xM (h:=xD (h:=xA (h:=?_)))))))
 exact ZD (g.1+1,some m) [0] so2 ⟨rfl,oz,Zb4 hm hs (by rw [hpe];simp [Za4,Zaf,DFolder.box,g3,g4,g5,g7];omega),.succ hm⟩ t3 rfl
 try simp only [sQ,ne_eq] at g6
 refine aZ 28 rfl (h:=aZ 29 rfl (h:=aZ 30 rfl (h:=aZ 31 rfl (h:=aZ 32 rfl (h:=aZ 33 rfl (h:=aZ 34 rfl (h:=aZ 35 rfl (h:=aZ 36 rfl (h:=aPF 37 rfl (h:=aPF 38 rfl (h:=Zz kr kr ?_)))))))))))
 refine Zd (Zc (t:=false) rfl (fun h=>Bool.noConfusion h) (fun _=>Zf (ZP (Zd (Zk (xM (h:=xD (h:=xA (h:=?_)))))))))
 exact ZD (g.1+1,some m) [0] so2 ⟨rfl,oz,Zb4 hm hs (by rw [hp.at0 oz];simp [Za4,Zaf,DFolder.box,g3,g4,g5];omega),.succ hm⟩ t3 rfl
 try simp only [sQ,ne_eq] at g1
 refine ZI (ZY (ZM (Zv (Zd (Za (xW Zar (h:=x1 Zd7 0 (h:=xV Tryz.underlying39 (h:=ZbQ (h:=xA (h:=Zi ?_)))))))))))
 exact ZB .ret (.inl rfl) [_] t1 ⟨Zh (by rw [ZiC (ZdE hs oz),Bool.eq_iff_iff];simp;try omega),rfl,rfl⟩

end Go.Proofs.YtmdbkconbffmfaaGreat
