/-
  WHAT THE FUNCTIONS THAT THE LAWS REACH COMPUTE: each function's contract, proved off its printed body (the text is written by program). No condition beyond those that each theorem states.
-/
import Derived.Test.YtgbaglnnkikkgaaGreatDoorRows
import Derived.Test.YtgbaglnnkikkgaaGreatDoorL0
import Derived.KernelRfl
namespace Go.Proofs.YtgbaglnnkikkgaaGreatDoor
open Go Go.BL
set_option linter.unusedVariables false
set_option linter.unusedSimpArgs false
noncomputable abbrev pj (J : JoinT) : PJ := ⟨Tryz.prog, J⟩
noncomputable abbrev wgL : Go.Conc.Lib.WgLink := { add := 138, done := 140, wait := 143, relMerge := 167, disable := 168, enable := 169, inBubble := 170, associate := 171, fatal := 172, uOr := 173, uAdd := 174, raceRead := 175, uLoad := 176, uStore := 177, disassociate := 178, semrelease := 179, acquire := 181, isAssociated := 182, uCas := 183, raceWrite := 184, semacquire := 185, orU64 := 198, addU64 := 199, loadU64 := 200, storeU64 := 201, casU64 := 203, tWg := 188, tUP := 215, tAssoc := 216, tAU := 185, tU64 := 183, tUint := 220, tU32 := 186, tNoCopy := 180, tANoCopy := 181, tAlign64 := 182, tWgP := 213, tPU32 := 221, tPAU := 260, tPU64 := 262 }
theorem ZjA : Go.Conc.Lib.WgLib Tryz.prog wgL :=
  ⟨Tryz.func138, Tryz.func140, Tryz.func143, Tryz.func167, Tryz.func168, Tryz.func169, Tryz.func170, Tryz.func171, Tryz.func172, Tryz.func173, Tryz.func174, Tryz.func175, Tryz.func176, Tryz.func177, Tryz.func178, Tryz.func179, Tryz.func181, Tryz.func182, Tryz.func183, Tryz.func184, Tryz.func185, Tryz.func198, Tryz.func199, Tryz.func200, Tryz.func201, Tryz.func203, Tryz.underlying213, Tryz.runUnderlying213, Tryz.sizeOf213, Tryz.isAgg213, Tryz.zeroValue213, Tryz.underlying215, Tryz.runUnderlying215, Tryz.sizeOf215, Tryz.isAgg215, Tryz.zeroValue215, Tryz.underlying216, Tryz.runUnderlying216, Tryz.sizeOf216, Tryz.isAgg216, Tryz.zeroValue216, Tryz.underlying188, Tryz.runUnderlying188, Tryz.sizeOf188, Tryz.isAgg188, Tryz.zeroValue188, Tryz.underlying185, Tryz.runUnderlying185, Tryz.sizeOf185, Tryz.isAgg185, Tryz.zeroValue185, Tryz.underlying183, Tryz.runUnderlying183, Tryz.sizeOf183, Tryz.isAgg183, Tryz.zeroValue183, Tryz.underlying220, Tryz.runUnderlying220, Tryz.sizeOf220, Tryz.isAgg220, Tryz.zeroValue220, Tryz.underlying186, Tryz.runUnderlying186, Tryz.sizeOf186, Tryz.isAgg186, Tryz.zeroValue186, Tryz.underlying221, Tryz.runUnderlying221, Tryz.sizeOf221, Tryz.isAgg221, Tryz.zeroValue221, Tryz.underlying260, Tryz.runUnderlying260, Tryz.sizeOf260, Tryz.isAgg260, Tryz.zeroValue260, Tryz.underlying262, Tryz.runUnderlying262, Tryz.sizeOf262, Tryz.isAgg262, Tryz.zeroValue262, Tryz.underlying0, Tryz.runUnderlying0, Tryz.sizeOf0, Tryz.isAgg0, Tryz.zeroValue0, Tryz.underlying3, Tryz.runUnderlying3, Tryz.sizeOf3, Tryz.isAgg3, Tryz.zeroValue3, Tryz.underlying4, Tryz.runUnderlying4, Tryz.sizeOf4, Tryz.isAgg4, Tryz.zeroValue4, Tryz.underlying9, Tryz.runUnderlying9, Tryz.sizeOf9, Tryz.isAgg9, Tryz.zeroValue9, Tryz.underlying20, Tryz.runUnderlying20, Tryz.sizeOf20, Tryz.isAgg20, Tryz.zeroValue20, Tryz.underlying21, Tryz.runUnderlying21, Tryz.sizeOf21, Tryz.isAgg21, Tryz.zeroValue21, (by kernel_rfl), (by kernel_rfl)⟩
theorem ZpE : enters Tryz.prog 59 = true := by kernel_rfl
theorem mo : Tryz.prog.follows .mixedOrders = true := by kernel_rfl
theorem Zbv : Zw Tryz.prog 128 1 = some 1 := by kernel_rfl
theorem lk3 : lk Tryz.prog 3 = some none := by kernel_rfl
theorem ZfL : Zw Tryz.prog 128 0 = some 0 := by kernel_rfl
theorem lk9 : lk Tryz.prog 9 = some none := by kernel_rfl
theorem Ztr : enters Tryz.prog 85 = true := by kernel_rfl
theorem sz3 : ZL Tryz.prog 3 = some 1 := by kernel_rfl
theorem Zu3 : enters Tryz.prog 122 = true := by kernel_rfl
theorem Zuf : enters Tryz.prog 84 = true := by kernel_rfl
theorem Zuz : enters Tryz.prog 163 = true := by kernel_rfl
theorem ZsC : ZbI Tryz.prog 128 = some [(0, 1), (1, 1)] := by kernel_rfl
theorem Zos : Zad Tryz.prog 128 = some (.agg #[.string ⟨#[]⟩, .int .i64 0]) := by kernel_rfl
theorem Zsz : ZL Tryz.prog 128 = some 2 := by kernel_rfl
theorem sz9 : ZL Tryz.prog 9 = some 1 := by kernel_rfl
theorem zo9 : Zad Tryz.prog 9 = some (.string ⟨#[]⟩) := by kernel_rfl
theorem Zs3 : ZbC Tryz.prog 99 9 1 16 = true := by kernel_rfl
theorem Ztn : (match Program.underlying Tryz.prog 99 with | some (.slice _) => true | _ => false) = true := by kernel_rfl
theorem Zv8 : enters Tryz.prog 94 = true := by kernel_rfl
theorem Zqw : enters Tryz.prog 42 = true := by kernel_rfl
theorem ZdR : ZL Tryz.prog 97 = some 3 := by kernel_rfl
theorem ZbP : Zw Tryz.prog 97 0 = some 0 := by kernel_rfl
theorem ZuC : enters Tryz.prog 160 = true := by kernel_rfl
theorem ZnN : Zw Tryz.prog 142 0 = some 0 := by kernel_rfl
theorem Zkp : Zw Tryz.prog 142 1 = some 1 := by kernel_rfl
theorem Zj6 : lk Tryz.prog 99 = some none := by kernel_rfl
theorem ZuY : enters Tryz.prog 128 = true := by kernel_rfl
theorem ZnM : Zw Tryz.prog 142 2 = some 2 := by kernel_rfl
theorem Zui : enters Tryz.prog 217 = true := by kernel_rfl
theorem ZrM : enters Tryz.prog 44 = true := by kernel_rfl
theorem Zuo : enters Tryz.prog 195 = true := by kernel_rfl
theorem Zuy : enters Tryz.prog 164 = true := by kernel_rfl
theorem Zbp : Zw Tryz.prog 34 1 = some 1 := by kernel_rfl
theorem Zhm : lk Tryz.prog 32 = some none := by kernel_rfl
theorem Zbd : ZL Tryz.prog 101 = some 4 := by kernel_rfl
theorem Zd2 : lk Tryz.prog 101 = some (some 4) := by kernel_rfl
theorem Zeu : Zad Tryz.prog 101 = some (.agg #[.int .i64 0, .string ⟨#[]⟩, .string ⟨#[]⟩, .slice none 0 0]) := by kernel_rfl
theorem ZdG : Zw Tryz.prog 101 0 = some 0 := by kernel_rfl
theorem ZdF : Zw Tryz.prog 101 1 = some 1 := by kernel_rfl
theorem Zb5 : Zw Tryz.prog 101 3 = some 3 := by kernel_rfl
theorem ZeX : Zw Tryz.prog 101 2 = some 2 := by kernel_rfl
theorem ZsB : ZbI Tryz.prog 142 = some [(0, 1), (1, 1), (2, 1)] := by kernel_rfl
theorem Zr0 : Zad Tryz.prog 142 = some (.agg #[.string ⟨#[]⟩, .slice none 0 0, .string ⟨#[]⟩]) := by kernel_rfl
theorem Zv7 : enters Tryz.prog 95 = true := by kernel_rfl
theorem Zfn : Zw Tryz.prog 34 0 = some 0 := by kernel_rfl
theorem Zor : Zad Tryz.prog 34 = some (.agg #[.int .i64 0, .slice none 0 0]) := by kernel_rfl
theorem Zvw : ZbI Tryz.prog 34 = some [(0, 1), (1, 1)] := by kernel_rfl
theorem ZqU : ZL Tryz.prog 34 = some 2 := by kernel_rfl
theorem ZtQ : ZL Tryz.prog 99 = some 1 := by kernel_rfl
theorem Zuc : ZbC Tryz.prog 32 101 4 64 = true := by kernel_rfl
theorem Zvu : (match Program.underlying Tryz.prog 32 with | some (.slice _) => true | _ => false) = true := by kernel_rfl
theorem ZtS : ZL Tryz.prog 32 = some 1 := by kernel_rfl
theorem Zjz : lk Tryz.prog 34 = some (some 2) := by kernel_rfl
theorem Ztz : Zad Tryz.prog 193 = some (.pointer none) := by kernel_rfl
theorem Zur : enters Tryz.prog 189 = true := by kernel_rfl
theorem Zuj : enters Tryz.prog 205 = true := by kernel_rfl
theorem Zrg : lk Tryz.prog 193 = some none := by kernel_rfl
theorem Zuq : enters Tryz.prog 190 = true := by kernel_rfl
theorem ZtX : ZbI Tryz.prog 232 = some [(0, 4), (4, 1)] := by kernel_rfl
theorem Zty : Zad Tryz.prog 232 = some (.agg #[.int .i64 0, .string ⟨#[]⟩, .string ⟨#[]⟩, .slice none 0 0, .pointer none]) := by kernel_rfl
theorem ZtT : ZL Tryz.prog 193 = some 1 := by kernel_rfl
theorem Zrw : Zw Tryz.prog 232 0 = some 0 := by kernel_rfl
theorem Zrv : Zw Tryz.prog 232 1 = some 4 := by kernel_rfl
theorem ZuI : enters Tryz.prog 148 = true := by kernel_rfl
theorem ZuJ : enters Tryz.prog 147 = true := by kernel_rfl
theorem Zex : lk Tryz.prog 210 = some none := by kernel_rfl
theorem zo3 : Zad Tryz.prog 3 = some (.int .i64 0) := by kernel_rfl
theorem Zud : ZbC Tryz.prog 210 3 1 8 = true := by kernel_rfl
theorem ZtV : (match Program.underlying Tryz.prog 210 with | some (.slice _) => true | _ => false) = true := by kernel_rfl
theorem Zsv : ZL Tryz.prog 210 = some 1 := by kernel_rfl
theorem Zde : ZhR Tryz.prog 209 "Less" 242 false = true := by kernel_rfl
theorem Zn4 : enters Tryz.prog 242 = true := by kernel_rfl
theorem Zdd : ZhR Tryz.prog 209 "Swap" 245 false = true := by kernel_rfl
theorem Zn3 : enters Tryz.prog 245 = true := by kernel_rfl
theorem ZlJ : ZhR Tryz.prog 209 "Push" 244 true = true := by kernel_rfl
theorem Zug : enters Tryz.prog 244 = true := by kernel_rfl
theorem ZiN : ZhR Tryz.prog 209 "Len" 241 false = true := by kernel_rfl
theorem Zs5 : enters Tryz.prog 241 = true := by kernel_rfl
theorem Zun : enters Tryz.prog 196 = true := by kernel_rfl
theorem Zum : enters Tryz.prog 197 = true := by kernel_rfl
theorem Znh : ZhR Tryz.prog 209 "Pop" 243 true = true := by kernel_rfl
theorem Zuh : enters Tryz.prog 243 = true := by kernel_rfl
theorem Zux : enters Tryz.prog 165 = true := by kernel_rfl
theorem Zuw : enters Tryz.prog 166 = true := by kernel_rfl
theorem ZuR : enters Tryz.prog 136 = true := by kernel_rfl
theorem ZuQ : enters Tryz.prog 137 = true := by kernel_rfl
theorem Zcn : Zw Tryz.prog 164 0 = some 0 := by kernel_rfl
theorem ZeW : Zw Tryz.prog 164 1 = some 1 := by kernel_rfl
theorem ZuB : enters Tryz.prog 161 = true := by kernel_rfl
theorem ZdD : Zw Tryz.prog 164 2 = some 2 := by kernel_rfl
theorem Zul : enters Tryz.prog 202 = true := by kernel_rfl
theorem ZbS : Zw Tryz.prog 59 1 = some 1 := by kernel_rfl
theorem Zjy : lk Tryz.prog 57 = some none := by kernel_rfl
theorem ZcE : ZL Tryz.prog 164 = some 3 := by kernel_rfl
theorem ZiV : lk Tryz.prog 164 = some (some 3) := by kernel_rfl
theorem ZuX : enters Tryz.prog 129 = true := by kernel_rfl
theorem Zfm : Zw Tryz.prog 59 0 = some 0 := by kernel_rfl
theorem ZhC : Zad Tryz.prog 164 = some (.agg #[.int .i64 0, .int .i64 0, .string ⟨#[]⟩]) := by kernel_rfl
theorem Zuv : enters Tryz.prog 180 = true := by kernel_rfl
theorem Zk5 : lk Tryz.prog 59 = some (some 2) := by kernel_rfl
theorem Zs6 : enters Tryz.prog 142 = true := by kernel_rfl
theorem ZgJ : Zw Tryz.prog 97 1 = some 1 := by kernel_rfl
theorem ZeE : Zw Tryz.prog 97 2 = some 2 := by kernel_rfl
theorem Zjx : lk Tryz.prog 97 = some (some 3) := by kernel_rfl
theorem ZhB : Zad Tryz.prog 97 = some (.agg #[.string ⟨#[]⟩, .string ⟨#[]⟩, .int .i64 0]) := by kernel_rfl
theorem ZuS : enters Tryz.prog 135 = true := by kernel_rfl
theorem Zs7 : enters Tryz.prog 104 = true := by kernel_rfl
theorem ZvX : ZbI Tryz.prog 97 = some [(0, 1), (1, 1), (2, 1)] := by kernel_rfl
theorem Zva : enters Tryz.prog 113 = true := by kernel_rfl
theorem Zu9 : enters Tryz.prog 114 = true := by kernel_rfl
theorem ZbB : Zw Tryz.prog 36 1 = some 1 := by kernel_rfl
theorem ZhV : lk Tryz.prog 30 = some none := by kernel_rfl
theorem ZvH : enters Tryz.prog 71 = true := by kernel_rfl
theorem Z3 : Zw Tryz.prog 36 2 = some 2 := by kernel_rfl
theorem ZdN : lk Tryz.prog 31 = some none := by kernel_rfl
theorem ZaW : ZL Tryz.prog 61 = some 5 := by kernel_rfl
theorem Zcg : Zw Tryz.prog 61 0 = some 0 := by kernel_rfl
theorem Zdh : Zw Tryz.prog 61 1 = some 1 := by kernel_rfl
theorem ZfZ : lk Tryz.prog 61 = some (some 5) := by kernel_rfl
theorem Zwd : enters Tryz.prog 86 = true := by kernel_rfl
theorem Zwc : enters Tryz.prog 87 = true := by kernel_rfl
theorem ZdL : Zw Tryz.prog 36 3 = some 3 := by kernel_rfl
theorem Zts : enters Tryz.prog 31 = true := by kernel_rfl
theorem Zdu : ZL Tryz.prog 109 = some 2 := by kernel_rfl
theorem Zco : Zw Tryz.prog 109 0 = some 0 := by kernel_rfl
theorem ZdE : Zw Tryz.prog 109 1 = some 1 := by kernel_rfl
theorem Ztt : enters Tryz.prog 22 = true := by kernel_rfl
theorem ZcO : Zw Tryz.prog 61 3 = some 3 := by kernel_rfl
theorem Zv5 : enters Tryz.prog 97 = true := by kernel_rfl
theorem Zc4 : Zad Tryz.prog 61 = some (.agg #[.string ⟨#[]⟩, .string ⟨#[]⟩, .slice none 0 0, .int .i64 0, .slice none 0 0]) := by kernel_rfl
theorem Zd9 : Zw Tryz.prog 61 2 = some 2 := by kernel_rfl
theorem Zqg : lk Tryz.prog 54 = some none := by kernel_rfl
theorem Zwu : enters Tryz.prog 63 = true := by kernel_rfl
theorem Zv6 : enters Tryz.prog 96 = true := by kernel_rfl
theorem ZvK : enters Tryz.prog 43 = true := by kernel_rfl
theorem ZgK : Zw Tryz.prog 36 0 = some 0 := by kernel_rfl
theorem ZwB : enters Tryz.prog 53 = true := by kernel_rfl
theorem ZwA : enters Tryz.prog 54 = true := by kernel_rfl
theorem Zwz : enters Tryz.prog 55 = true := by kernel_rfl
theorem Zcj : lk Tryz.prog 36 = some (some 5) := by kernel_rfl
theorem Zwy : enters Tryz.prog 56 = true := by kernel_rfl
theorem ZvL : enters Tryz.prog 20 = true := by kernel_rfl
theorem Zwx : enters Tryz.prog 57 = true := by kernel_rfl
theorem Zww : enters Tryz.prog 58 = true := by kernel_rfl
theorem Znn : lk Tryz.prog 109 = some (some 2) := by kernel_rfl
theorem Zij : Zad Tryz.prog 109 = some (.agg #[.string ⟨#[]⟩, .int .i64 0]) := by kernel_rfl
theorem ZwR : enters Tryz.prog 28 = true := by kernel_rfl
theorem Zwn : enters Tryz.prog 72 = true := by kernel_rfl
theorem ZsW : Extern.findNext Tryz.f157 = none := by kernel_rfl
theorem ZsX : Extern.find Tryz.f157 = some Extern.BytealgCompare.compare := by kernel_rfl
theorem Zu2 : enters Tryz.prog 123 = true := by kernel_rfl
theorem ZvG : enters Tryz.prog 88 = true := by kernel_rfl
theorem Zuk : enters Tryz.prog 204 = true := by kernel_rfl
theorem Zut : enters Tryz.prog 187 = true := by kernel_rfl
theorem ZvJ : enters Tryz.prog 46 = true := by kernel_rfl
theorem ZuL : enters Tryz.prog 145 = true := by kernel_rfl
theorem sz4 : ZL Tryz.prog 4 = some 1 := by kernel_rfl
theorem lk4 : lk Tryz.prog 4 = some none := by kernel_rfl
theorem Zuu : enters Tryz.prog 186 = true := by kernel_rfl
theorem ZuT : enters Tryz.prog 134 = true := by kernel_rfl
theorem ZsK : lk Tryz.prog 178 = some none := by kernel_rfl
theorem Zt1 : lk Tryz.prog 66 = some none := by kernel_rfl
theorem ZuO : enters Tryz.prog 141 = true := by kernel_rfl
theorem ZtA : Zad Tryz.prog 188 = some (.agg #[.int .u64 0, .int .u32 0]) := by kernel_rfl
theorem Zue : ZbC Tryz.prog 178 4 1 1 = true := by kernel_rfl
theorem zo4 : Zad Tryz.prog 4 = some (.bool false) := by kernel_rfl
theorem ZtB : Zad Tryz.prog 178 = some (.slice none 0 0) := by kernel_rfl
theorem ZtU : ZL Tryz.prog 178 = some 1 := by kernel_rfl
theorem ZuP : enters Tryz.prog 138 = true := by kernel_rfl
theorem ZuN : enters Tryz.prog 143 = true := by kernel_rfl
theorem ZuM : enters Tryz.prog 144 = true := by kernel_rfl
theorem Zvh : enters Tryz.prog 103 = true := by kernel_rfl
theorem Zvg : enters Tryz.prog 105 = true := by kernel_rfl
theorem ZvI : enters Tryz.prog 47 = true := by kernel_rfl
theorem Zvf : enters Tryz.prog 106 = true := by kernel_rfl
theorem Zve : enters Tryz.prog 107 = true := by kernel_rfl
theorem Zvd : enters Tryz.prog 108 = true := by kernel_rfl
theorem Zqp : Zw Tryz.prog 86 0 = some 0 := by kernel_rfl
theorem Zqo : Zw Tryz.prog 86 1 = some 1 := by kernel_rfl
theorem ZnL : Zw Tryz.prog 169 0 = some 0 := by kernel_rfl
theorem ZnK : Zw Tryz.prog 205 2 = some 2 := by kernel_rfl
theorem Zvq : ZL Tryz.prog 86 = some 3 := by kernel_rfl
theorem ZvB : lk Tryz.prog 86 = some (some 3) := by kernel_rfl
theorem ZwE : enters Tryz.prog 50 = true := by kernel_rfl
theorem Zsx : ZL Tryz.prog 169 = some 2 := by kernel_rfl
theorem ZsL : lk Tryz.prog 169 = some (some 2) := by kernel_rfl
theorem Zu1 : enters Tryz.prog 125 = true := by kernel_rfl
theorem Zsw : ZL Tryz.prog 205 = some 3 := by kernel_rfl
theorem ZsJ : lk Tryz.prog 205 = some (some 3) := by kernel_rfl
theorem ZuD : enters Tryz.prog 159 = true := by kernel_rfl
theorem ZnQ : Zw Tryz.prog 138 1 = some 1 := by kernel_rfl
theorem ZnP : Zw Tryz.prog 138 2 = some 2 := by kernel_rfl
theorem ZnO : Zw Tryz.prog 138 3 = some 3 := by kernel_rfl
theorem ZuZ : enters Tryz.prog 127 = true := by kernel_rfl
theorem Zsy : ZL Tryz.prog 138 = some 4 := by kernel_rfl
theorem ZsM : lk Tryz.prog 138 = some (some 4) := by kernel_rfl
theorem Zv9 : enters Tryz.prog 93 = true := by kernel_rfl
theorem Zqn : Zw Tryz.prog 91 1 = some 1 := by kernel_rfl
theorem Zvz : lk Tryz.prog 89 = some none := by kernel_rfl
theorem Zu0 : enters Tryz.prog 126 = true := by kernel_rfl
theorem Zqu : Zw Tryz.prog 26 1 = some 1 := by kernel_rfl
theorem ZvD : lk Tryz.prog 24 = some none := by kernel_rfl
theorem ZwC : enters Tryz.prog 52 = true := by kernel_rfl
theorem Zqm : Zw Tryz.prog 93 0 = some 0 := by kernel_rfl
theorem Zql : Zw Tryz.prog 93 1 = some 1 := by kernel_rfl
theorem Zqk : Zw Tryz.prog 93 2 = some 2 := by kernel_rfl
theorem ZvA : lk Tryz.prog 88 = some none := by kernel_rfl
theorem Zwb : enters Tryz.prog 91 = true := by kernel_rfl
theorem Zqj : Zw Tryz.prog 93 3 = some 3 := by kernel_rfl
theorem Zvy : lk Tryz.prog 91 = some (some 2) := by kernel_rfl
theorem Zwa : enters Tryz.prog 92 = true := by kernel_rfl
theorem Zvp : ZL Tryz.prog 93 = some 5 := by kernel_rfl
theorem Zvx : lk Tryz.prog 93 = some (some 5) := by kernel_rfl
theorem ZwD : enters Tryz.prog 51 = true := by kernel_rfl
theorem Zqt : Zw Tryz.prog 28 0 = some 0 := by kernel_rfl
theorem Zqs : Zw Tryz.prog 28 1 = some 1 := by kernel_rfl
theorem ZvF : lk Tryz.prog 22 = some none := by kernel_rfl
theorem Zw0 : enters Tryz.prog 14 = true := by kernel_rfl
theorem Zqr : Zw Tryz.prog 28 2 = some 2 := by kernel_rfl
theorem ZvE : lk Tryz.prog 23 = some none := by kernel_rfl
theorem ZwZ : enters Tryz.prog 15 = true := by kernel_rfl
theorem Zqq : Zw Tryz.prog 28 3 = some 3 := by kernel_rfl
theorem ZvC : lk Tryz.prog 26 = some (some 2) := by kernel_rfl
theorem ZwY : enters Tryz.prog 16 = true := by kernel_rfl
theorem ZsU : Zw Tryz.prog 86 2 = some 2 := by kernel_rfl
theorem Zrz : Zw Tryz.prog 169 1 = some 1 := by kernel_rfl
theorem Zry : Zw Tryz.prog 205 0 = some 0 := by kernel_rfl
theorem Zrx : Zw Tryz.prog 205 1 = some 1 := by kernel_rfl
theorem Zl8 : ZbC Tryz.prog 30 97 3 40 = true := by kernel_rfl
theorem Zwt : enters Tryz.prog 64 = true := by kernel_rfl
theorem Zub : ZbC Tryz.prog 54 109 2 24 = true := by kernel_rfl
theorem ZuW : enters Tryz.prog 131 = true := by kernel_rfl
theorem Zua : ZbC Tryz.prog 57 164 3 32 = true := by kernel_rfl
theorem ZuA : enters Tryz.prog 162 = true := by kernel_rfl
theorem ZrA : Zw Tryz.prog 138 0 = some 0 := by kernel_rfl
theorem ZuU : enters Tryz.prog 133 = true := by kernel_rfl
theorem Zvi : enters Tryz.prog 102 = true := by kernel_rfl
theorem ZsV : Zw Tryz.prog 26 0 = some 0 := by kernel_rfl
theorem Zwr : enters Tryz.prog 66 = true := by kernel_rfl
theorem ZqE : Zad Tryz.prog 59 = some (.agg #[.int .i64 0, .slice none 0 0]) := by kernel_rfl
theorem ZsT : Zw Tryz.prog 91 0 = some 0 := by kernel_rfl
theorem ZuV : enters Tryz.prog 132 = true := by kernel_rfl
theorem Zvr : ZL Tryz.prog 57 = some 1 := by kernel_rfl
theorem ZrY : ZL Tryz.prog 59 = some 2 := by kernel_rfl
theorem Zvk : enters Tryz.prog 100 = true := by kernel_rfl
theorem ZtR : ZL Tryz.prog 54 = some 1 := by kernel_rfl
theorem Zvj : enters Tryz.prog 101 = true := by kernel_rfl
theorem Zgc : ZbC Tryz.prog 31 61 5 88 = true := by kernel_rfl
theorem Zws : enters Tryz.prog 65 = true := by kernel_rfl
theorem Zci : Zad Tryz.prog 36 = some (.agg #[.string ⟨#[]⟩, .slice none 0 0, .slice none 0 0, .int .i64 0, .slice none 0 0]) := by kernel_rfl
theorem ZwV : enters Tryz.prog 24 = true := by kernel_rfl
theorem ZvU : ZL Tryz.prog 30 = some 1 := by kernel_rfl
theorem ZwU : enters Tryz.prog 25 = true := by kernel_rfl
theorem ZoN : ZL Tryz.prog 31 = some 1 := by kernel_rfl
theorem ZwT : enters Tryz.prog 26 = true := by kernel_rfl
theorem Zc1 : ZL Tryz.prog 36 = some 5 := by kernel_rfl
theorem Zwm : enters Tryz.prog 74 = true := by kernel_rfl
theorem ZuG : enters Tryz.prog 154 = true := by kernel_rfl
theorem Zup : enters Tryz.prog 194 = true := by kernel_rfl
theorem ZuE : enters Tryz.prog 156 = true := by kernel_rfl
theorem Zu6 : enters Tryz.prog 119 = true := by kernel_rfl
theorem Zwk : enters Tryz.prog 76 = true := by kernel_rfl
theorem ZuF : enters Tryz.prog 155 = true := by kernel_rfl
theorem Zu8 : enters Tryz.prog 117 = true := by kernel_rfl
theorem Zu7 : enters Tryz.prog 118 = true := by kernel_rfl
theorem Zwl : enters Tryz.prog 75 = true := by kernel_rfl
theorem ZwQ : enters Tryz.prog 33 = true := by kernel_rfl
theorem ZwP : enters Tryz.prog 34 = true := by kernel_rfl
theorem ZwO : enters Tryz.prog 35 = true := by kernel_rfl
theorem Zvs : (match Program.underlying Tryz.prog 57 with | some (.slice _) => true | _ => false) = true := by kernel_rfl
theorem ZtW : ZbI Tryz.prog 59 = some [(0, 1), (1, 1)] := by kernel_rfl
theorem Zvt : (match Program.underlying Tryz.prog 54 with | some (.slice _) => true | _ => false) = true := by kernel_rfl
theorem Zus : enters Tryz.prog 188 = true := by kernel_rfl
theorem Zvv : ZbI Tryz.prog 61 = some [(0, 1), (1, 1), (2, 1), (3, 2)] := by kernel_rfl
theorem sz5 : ZL Tryz.prog 5 = some 1 := by kernel_rfl
theorem zo5 : Zad Tryz.prog 5 = some (.int .u8 0) := by kernel_rfl
theorem Zii : enters Tryz.prog 77 = true := by kernel_rfl
theorem Zv4 : enters Tryz.prog 98 = true := by kernel_rfl
theorem Zml : (match Program.underlying Tryz.prog 30 with | some (.slice _) => true | _ => false) = true := by kernel_rfl
theorem Zib : enters Tryz.prog 60 = true := by kernel_rfl
theorem Zf3 : ZbI Tryz.prog 36 = some [(0, 1), (1, 1), (2, 1), (3, 2)] := by kernel_rfl
theorem Zwv : enters Tryz.prog 61 = true := by kernel_rfl
theorem Zg1 : (match Program.underlying Tryz.prog 31 with | some (.slice _) => true | _ => false) = true := by kernel_rfl
theorem ZwX : enters Tryz.prog 17 = true := by kernel_rfl
theorem ZwW : enters Tryz.prog 19 = true := by kernel_rfl
theorem Zwj : enters Tryz.prog 78 = true := by kernel_rfl
theorem Zwi : enters Tryz.prog 79 = true := by kernel_rfl
theorem Zu5 : enters Tryz.prog 120 = true := by kernel_rfl
theorem Zwh : enters Tryz.prog 80 = true := by kernel_rfl
theorem ZwN : enters Tryz.prog 36 = true := by kernel_rfl
theorem ZwM : enters Tryz.prog 37 = true := by kernel_rfl
theorem ZwL : enters Tryz.prog 38 = true := by kernel_rfl
theorem Zwg : enters Tryz.prog 81 = true := by kernel_rfl
theorem Zwf : enters Tryz.prog 82 = true := by kernel_rfl
theorem Zu4 : enters Tryz.prog 121 = true := by kernel_rfl
theorem Zwe : enters Tryz.prog 83 = true := by kernel_rfl
theorem ZwK : enters Tryz.prog 39 = true := by kernel_rfl
theorem ZwJ : enters Tryz.prog 40 = true := by kernel_rfl
theorem ZwI : enters Tryz.prog 41 = true := by kernel_rfl
theorem ZvP : (Tryz.prog.info? 288).map (·.comparable) = some true := by kernel_rfl
theorem Zsu : ZL Tryz.prog 312 = some 1 := by kernel_rfl
theorem Ztx : Zad Tryz.prog 240 = some (.nilIface) := by kernel_rfl
theorem Ztw : Zad Tryz.prog 243 = some (.nilIface) := by kernel_rfl
theorem Ztv : Zad Tryz.prog 245 = some (.nilIface) := by kernel_rfl
theorem ZuH : enters Tryz.prog 150 = true := by kernel_rfl
theorem Zrf : lk Tryz.prog 68 = some none := by kernel_rfl
theorem ZpF : enters Tryz.prog 111 = true := by kernel_rfl
theorem ZuK : enters Tryz.prog 146 = true := by kernel_rfl
theorem Zvc : enters Tryz.prog 109 = true := by kernel_rfl
theorem Zvb : enters Tryz.prog 110 = true := by kernel_rfl
theorem Zwq : enters Tryz.prog 67 = true := by kernel_rfl
theorem Zwp : enters Tryz.prog 68 = true := by kernel_rfl
theorem Zwo : enters Tryz.prog 69 = true := by kernel_rfl
theorem ZwF : enters Tryz.prog 49 = true := by kernel_rfl
theorem ZwG : enters Tryz.prog 48 = true := by kernel_rfl
theorem ZwH : enters Tryz.prog 45 = true := by kernel_rfl
theorem ZwS : enters Tryz.prog 27 = true := by kernel_rfl
theorem ZsI : lk Tryz.prog 28 = some (some 5) := by kernel_rfl
theorem en5 : enters Tryz.prog 5 = true := by kernel_rfl
theorem en7 : enters Tryz.prog 7 = true := by kernel_rfl
theorem Zw1 : enters Tryz.prog 12 = true := by kernel_rfl
theorem ZvM : enters Tryz.prog 13 = true := by kernel_rfl
theorem en9 : enters Tryz.prog 9 = true := by kernel_rfl
theorem ZvO : enters Tryz.prog 10 = true := by kernel_rfl
theorem ZvN : enters Tryz.prog 11 = true := by kernel_rfl
set_option maxRecDepth 4000
set_option maxHeartbeats 6400000
variable {J : JoinT}
abbrev cur (b : Nat) (l : List UInt8) (i : Nat) : Cells := Zap b [str l, .int .i64 i] 128
theorem Zfh (n lo hi:Int) (B:Kn):Zaa (pj J) 59 [.int .i64 n,.int .i64 lo,.int .i64 hi] B (.bool (decide (lo≤n) && decide (n≤hi))):=by
 refine cB 15 Tryz.func59 (h:=?_)
 refine Za (xA (h:=ZT [(0,_),(1,_),(2,_),(6,_)] t4 (Za (xM (h:=xM (h:=Zdp (h:=xM (h:=Zv (d:=10) rfl (fun g1=>?_) (fun g1=>?_)))))))))
 try simp only [sQ,ne_eq] at g1
 refine xM (h:=xM (h:=ZbT (h:=xT (h:=xA (h:=ZT [(0,_),(1,_),(2,_),(6,_)] t4 (Ze ?_))))))
 exact eR t1 ⟨by exact Zd (by rw [Bool.eq_iff_iff];simp [];omega),rfl,rfl⟩
 try simp only [sQ,ne_eq] at g1
 refine xP (h:=xP (h:=xP (h:=xF (h:=xA (h:=ZT [(0,_),(1,_),(2,_),(6,_)] t4 (Ze ?_))))))
 exact eR t1 ⟨by exact Zd (by rw [Bool.eq_iff_iff];simp [];omega),rfl,rfl⟩

theorem ZlI (c:UInt8) (B:Kn):Zaa (pj J) 122 [.int .u8 c.toNat] B (.bool (Za3 c)):=by
 refine cB 17 Tryz.func122 (h:=?_)
 refine Za (xA (h:=ZT [(0,_),(2,_)] t2 (Za (xM (h:=Zdp (h:=xM (h:=Zv (d:=5) rfl (fun g1=>?_) (fun g1=>?_))))))))
 try simp only [sQ,ne_eq] at g1
 refine xM (h:=ZbT (h:=xT (h:=xM (h:=Zv (d:=9) rfl (fun g2=>?_) (fun g2=>?_)))))
 try simp only [sQ,ne_eq] at g2
 refine xP (h:=xP (h:=xP (h:=xP (h:=xP (h:=xP (h:=xT (h:=xA (h:=ZT [(0,_),(2,_)] t2 (Ze ?_)))))))))
 exact eR t1 ⟨by exact Zd (by rw [Bool.eq_iff_iff];simp [Za3];omega),rfl,rfl⟩
 try simp only [sQ,ne_eq] at g2
 refine xM (h:=Zdp (h:=xM (h:=Zv (d:=12) rfl (fun g3=>?_) (fun g3=>?_))))
 try simp only [sQ,ne_eq] at g3
 refine xM (h:=ZbT (h:=xT (h:=xF (h:=xA (h:=ZT [(0,_),(2,_)] t2 (Ze ?_))))))
 exact eR t1 ⟨by exact Zd (by rw [Bool.eq_iff_iff];simp [Za3];omega),rfl,rfl⟩
 try simp only [sQ,ne_eq] at g3
 refine xP (h:=xP (h:=xF (h:=xF (h:=xA (h:=ZT [(0,_),(2,_)] t2 (Ze ?_))))))
 exact eR t1 ⟨by exact Zd (by rw [Bool.eq_iff_iff];simp [Za3];omega),rfl,rfl⟩
 try simp only [sQ,ne_eq] at g1
 refine xP (h:=xP (h:=xF (h:=xM (h:=xM (h:=Zdp (h:=xM (h:=Zv (d:=12) rfl (fun g4=>?_) (fun g4=>?_))))))))
 try simp only [sQ,ne_eq] at g4
 refine xM (h:=ZbT (h:=xT (h:=xF (h:=xA (h:=ZT [(0,_),(2,_)] t2 (Ze ?_))))))
 exact eR t1 ⟨by exact Zd (by rw [Bool.eq_iff_iff];simp [Za3];omega),rfl,rfl⟩
 try simp only [sQ,ne_eq] at g4
 refine xP (h:=xP (h:=xF (h:=xF (h:=xA (h:=ZT [(0,_),(2,_)] t2 (Ze ?_))))))
 exact eR t1 ⟨by exact Zd (by rw [Bool.eq_iff_iff];simp [Za3];omega),rfl,rfl⟩

theorem Zbx (l:List UInt8) (hl:l.length≤2000000) (B:Kn):Zaa (pj J) 42 [str l] B (.bool (Zaf l)):=by
 refine cB 37 Tryz.func42 (h:=?_)
 refine Za (xA (h:=ZT [(0,_),(2,_)] t2 (Zc (Za (xA (h:=ZT [(0,_),(2,_),(3,_)] t3 (Zh (Zin (α:=Nat) (fun k=>[(0,str l),(3,.int .i64 k)]) (fun k=>[]) (fun k Bx=>Bx=B∧k≤l.length∧(l.take k).all Za3=true) (fun k=>l.length - k) 0 t2 rfl (⟨rfl,Nat.zero_le _,by simp⟩) (fun k B1 hle1 hI=>?_)))))))))
 obtain ⟨rfl,hk,ha⟩:=hI
 refine Zc (Za (xM (h:=xM (h:=xVs Tryz.underlying9 (h:=ZF (h:=ZT [(0,_),(3,_),(7,_)] t3 (Zb rfl (fun g1=>?_) (fun g1=>?_))))))))
 try simp only [sQ,ne_eq] at g1
 obtain ⟨c,hc⟩ :∃c,l[k]? = some c:=⟨_,List.getElem?_eq_getElem oz⟩
 refine wSk (Zc (Zh (Zlo 33 (!(Za3 c)) [0,3,7] ?_ ?_)))
 refine xM (h:=xM (h:=Zq (Zdr rfl rfl Tryz.underlying9 rfl rfl oz (by simpa using hc) ?_)))
 refine Zdp (h:=xM (h:=Zv (d:=14) rfl (fun g1=>?_) (fun g1=>?_)))
 try simp only [sQ,ne_eq] at g1
 refine xM (h:=xM (h:=Zq (Zdr rfl rfl Tryz.underlying9 rfl rfl oz (by simpa using hc) ?_)))
 refine ZbT (h:=xT (h:=xN (h:=xM (h:=Zv (d:=21) rfl (fun g2=>?_) (fun g2=>?_)))))
 try simp only [sQ,ne_eq] at g2
 refine xM (h:=xM (h:=Zq (Zdr rfl rfl Tryz.underlying9 rfl rfl oz (by simpa using hc) ?_)))
 refine Zdp (h:=xM (h:=Zv (d:=26) rfl (fun g3=>?_) (fun g3=>?_)))
 try simp only [sQ,ne_eq] at g3
 refine xM (h:=xM (h:=Zq (Zdr rfl rfl Tryz.underlying9 rfl rfl oz (by simpa using hc) ?_)))
 refine ZbT (h:=xT (h:=xN (h:=xT (h:=?_))))
 exact ⟨rfl,rfl,rfl,ZhX rfl (by rw [Bool.eq_iff_iff];simp [Za3,];omega),t3⟩
 try simp only [sQ,ne_eq] at g3
 refine xP (h:=xP (h:=xP (h:=xP (h:=xF (h:=xN (h:=xT (h:=?_)))))))
 exact ⟨rfl,rfl,rfl,ZhX rfl (by rw [Bool.eq_iff_iff];simp [Za3,];omega),t3⟩
 try simp only [sQ,ne_eq] at g2
 refine xP (h:=xP (h:=xP (h:=xP (h:=xP (h:=xP (h:=xP (h:=xP (h:=xP (h:=xP (h:=xP (h:=xF (h:=?_))))))))))))
 exact ⟨rfl,rfl,rfl,ZhX rfl (by rw [Bool.eq_iff_iff];simp [Za3,];omega),t3⟩
 try simp only [sQ,ne_eq] at g1
 refine xP (h:=xP (h:=xP (h:=xP (h:=xF (h:=xN (h:=xM (h:=xM (h:=xM (h:=Zq (Zdr rfl rfl Tryz.underlying9 rfl rfl oz (by simpa using hc) ?_))))))))))
 refine Zdp (h:=xM (h:=Zv (d:=26) rfl (fun g4=>?_) (fun g4=>?_)))
 try simp only [sQ,ne_eq] at g4
 refine xM (h:=xM (h:=Zq (Zdr rfl rfl Tryz.underlying9 rfl rfl oz (by simpa using hc) ?_)))
 refine ZbT (h:=xT (h:=xN (h:=xT (h:=?_))))
 exact ⟨rfl,rfl,rfl,ZhX rfl (by rw [Bool.eq_iff_iff];simp [Za3,];omega),t3⟩
 try simp only [sQ,ne_eq] at g4
 refine xP (h:=xP (h:=xP (h:=xP (h:=xF (h:=xN (h:=xT (h:=?_)))))))
 exact ⟨rfl,rfl,rfl,ZhX rfl (by rw [Bool.eq_iff_iff];simp [Za3,];omega),t3⟩
 refine ZT [(0,_),(3,_),(7,_),(33,_)] t4 (Zb rfl (fun g9=>?_) (fun g9=>?_))
 try simp only [sQ,ne_eq] at g9
 refine Za (xA (h:=ZT [(0,_),(2,_),(3,_),(7,_),(33,_)] t5 (Ze (Zy (Zk (Zq1 (Zy (Zk ?_))))))))
 exact eR t1 ⟨Zd (by simp [Zaf,ZpQ hc g9]),rfl,rfl⟩
 try simp only [sQ,ne_eq] at g9
 refine ZY (ZS (Zo (Zj (xM (h:=Zq (Zfw rfl rfl rfl rfl (by first | exact ZbQ oz oz | rfl) ?_))))))
 refine xA (h:=?_)
 exact ZlC (k+1) oz ⟨rfl,oz,Zll hc g9 ha⟩ t2 rfl
 try simp only [sQ,ne_eq] at g1
 refine ZD (ZW (ZlB (Zs (Zo (Za (xM (h:=xVs Tryz.underlying9 (h:=xR ZpE rfl (Zfh _ _ _ _) (h:=xA (h:=ZT [(0,_),(2,_),(3,_),(7,_)] t4 (Ze ?_)))))))))))
 exact eR t1 ⟨Zd (by (obtain rfl:k=l.length:=oz);rw [List.take_length] at ha;rw [Bool.eq_iff_iff];simp [Zaf,ha];omega),rfl,rfl⟩

theorem Zlg (b:Nat) (l:List UInt8) (i:Nat) (hi:i≤l.length) (hl:l.length≤2000000) (B:Kn):ZqC (pj J) 85 [ptr ⟨b,0,none⟩] B (cur b l i) (.bool (decide (i=l.length))) (cur b l i):=by
 refine cB 13 Tryz.func85 (h:=?_)
 refine Za (xA (h:=ZT [(0,_),(2,_)] t2 (Zc (Z2 (same _ _) mo kr ⟨rfl,rfl⟩ (fun _ _=>?_)))))
 refine aM 0 rfl (h:=aNc 1 rfl (h:=aW 2 rfl Zbv (h:=aT 3 rfl (Zal fun D=>Zp rfl rfl lk3 rfl (atL 0 rfl rfl rfl) r4) (h:=aM 4 rfl (h:=aNc 5 rfl (h:=aW 6 rfl ZfL (h:=aT 7 rfl (Zal fun D=>Zp rfl rfl lk9 rfl (atL 0 rfl rfl rfl) r4) (h:=aT 8 rfl (Zal fun D=>Zp6 rfl rfl Tryz.underlying9 rfl r4) (h:=Ztl 9 rfl (h:=aA 10 rfl (h:=ZB kr kr ?_)))))))))))
 refine Zo (ZT [(0,_),(2,_)] t2 (Ze ?_))
 exact e1 0 rfl t1 ⟨Zd (by rw [Bool.eq_iff_iff];simp;omega),rfl,rfl⟩

theorem Zsr (b:Nat) (l:List UInt8) (i:Nat) (hi:i≤l.length) (hl:l.length≤2000000) (x:UInt8) (B:Kn):ZqC (pj J) 163 [ptr ⟨b,0,none⟩,.int .u8 x.toNat] B (cur b l i) (.bool (decide (l[i]? = some x))) (cur b l (if l[i]? = some x then i+1 else i)):=by
 refine cB 27 Tryz.func163 (h:=?_)
 refine Za (xA (h:=ZT [(0,_),(1,_),(4,_)] t3 (Zc (Zgh 19 (decide (l[i]?≠some x)) [0,1,4] (same _ _) mo kr ⟨rfl,rfl⟩ (fun _ _=>?_) ?_))))
 refine aM 0 rfl (h:=aT 1 rfl (Zal fun D=>Zim 0 rfl rfl rfl Ztr rfl (Zlg _ _ _ oz oz _) r4) (h:=?_))
 refine aM 2 rfl (h:=Zay (d:=7) rfl (fun g1=>?_) (fun g1=>?_))
 try simp only [sQ,ne_eq] at g1
 refine aZ 3 rfl (h:=aZ 4 rfl (h:=aZ 5 rfl (h:=aZ 6 rfl (h:=aZ 7 rfl (h:=aZ 8 rfl (h:=aZ 9 rfl (h:=aZ 10 rfl (h:=aZ 11 rfl (h:=aZ 12 rfl (h:=aZ 13 rfl (h:=aPT 14 rfl (h:=ZB kr kr ?_))))))))))))
 exact ⟨rfl,rfl,rfl,ZhX rfl (by first | (simp [g1];done) | (rw [Bool.eq_iff_iff];simp [hc,← UInt8.toNat_inj];omega)),t3⟩
 try simp only [sQ,ne_eq] at g1
 obtain ⟨c,hc⟩ :∃c,l[i]? = some c:=⟨_,List.getElem?_eq_getElem oz⟩
 refine aM 3 rfl (h:=aNc 4 rfl (h:=aW 5 rfl ZfL (h:=aT 6 rfl (Zal fun D=>Zp rfl rfl lk9 rfl (atL 0 rfl rfl rfl) r4) (h:=aM 7 rfl (h:=aNc 8 rfl (h:=aW 9 rfl Zbv (h:=aT 10 rfl (Zal fun D=>Zp rfl rfl lk3 rfl (atL 0 rfl rfl rfl) r4) (h:=aT 11 rfl (Zal fun D=>Zdr rfl rfl Tryz.underlying9 rfl rfl oz (by simpa using hc) r4) (h:=?_)))))))))
 refine aM 12 rfl (h:=Ztj 13 rfl (h:=aPF 14 rfl (h:=ZB kr kr ?_)))
 exact ⟨rfl,rfl,rfl,ZhX rfl (by first | (simp [g1];done) | (rw [Bool.eq_iff_iff];simp [hc,← UInt8.toNat_inj];omega)),t3⟩
 refine ZT [(0,_),(1,_),(4,_),(19,_)] t4 (Zb rfl (fun g2=>?_) (fun g2=>?_))
 try simp only [sQ,ne_eq] at g2
 refine Za (xA (h:=ZT [(0,_),(1,_),(4,_),(19,_)] t4 (Ze (Zk ?_))))
 exact e1 0 rfl t1 ⟨Zd (by simp [g2]),rfl,by rw [if_neg g2]⟩
 try simp only [sQ,ne_eq] at g2
 refine wSk (Za (xM (h:=xNc (h:=xW Zbv (h:=x1 lk3 0 (h:=Zq (Zfw rfl rfl rfl rfl (by first | exact ZbQ oz oz | rfl) ?_)))))))
 refine xNc (h:=xW Zbv (h:=xS [_] 0 [_,_] sz3 (h:=ZC [(0,_),(1,_),(4,_),(19,_)] [_] t4 rfl (Za (xA (h:=ZT [(0,_),(1,_),(4,_),(19,_)] t4 (Ze ?_)))))))
 exact e1 0 rfl t1 ⟨Zd (by simp [g2]),rfl,by rw [if_pos g2];rfl⟩

theorem Zne (b:Nat) (l:List UInt8) (i:Nat) (hi:i≤l.length) (hl:l.length≤2000000) (B:Kn):ZqC (pj J) 84 [ptr ⟨b,0,none⟩] B (cur b l i) (.tuple #[str (word l i),.bool (ZcW (word l i))]) (cur b l (i+(word l i).length)):=by
 refine cB 54 Tryz.func84 (h:=?_)
 refine Za (xA (h:=xA (h:=ZT [(0,_),(2,_),(3,_)] t3 (Za (xM (h:=xNc (h:=xW Zbv (h:=x1 lk3 0 (h:=xA (h:=ZT [(0,_),(2,_),(3,_),(4,_)] t4 (Zc (Zh (Zin (α:=Nat) (fun k=>[(0,ptr ⟨b,0,none⟩),(4,.int .i64 i)]) (fun k=>[cur b l (i+k)]) (fun k Bx=>Bx=B∧i+k≤l.length∧((l.drop i).take k).all Za3=true) (fun k=>l.length - i - k) 0 t2 rfl (⟨rfl,oz,by simp⟩) (fun k B1 hle1 hI=>?_))))))))))))))
 obtain ⟨rfl,hk,ha⟩:=hI
 refine Zc (Zgh 24 (match l[i+k]? with | some c=>Za3 c | none=>false) [0,4] (same _ _) mo kr ⟨rfl,rfl⟩ (fun _ _=>?_) ?_)
 refine aM 0 rfl (h:=aT 1 rfl (Zal fun D=>Zim 0 rfl rfl rfl Ztr rfl (Zlg _ _ _ oz oz _) r4) (h:=?_))
 refine aN 2 rfl (h:=aM 3 rfl (h:=Zay (d:=13) rfl (fun g1=>?_) (fun g1=>?_)))
 try simp only [sQ,ne_eq] at g1
 obtain ⟨c,hc⟩ :∃c,l[i+k]? = some c:=⟨_,List.getElem?_eq_getElem oz⟩
 refine aM 4 rfl (h:=aNc 5 rfl (h:=aW 6 rfl ZfL (h:=aT 7 rfl (Zal fun D=>Zp rfl rfl lk9 rfl (atL 0 rfl rfl rfl) r4) (h:=aM 8 rfl (h:=aNc 9 rfl (h:=aW 10 rfl Zbv (h:=aT 11 rfl (Zal fun D=>Zp rfl rfl lk3 rfl (atL 0 rfl rfl rfl) r4) (h:=aT 12 rfl (Zal fun D=>Zdr rfl rfl Tryz.underlying9 rfl rfl oz hc r4) (h:=?_)))))))))
 refine aT 13 rfl (Zal fun D=>Zae rfl rfl Zu3 rfl (ZlI _ _) r4) (h:=aPT 14 rfl (h:=ZB kr kr ?_))
 exact ⟨rfl,rfl,rfl,ZhX rfl (by first | (rw [hc];done) | (rw [List.getElem?_eq_none oz])),t2⟩
 try simp only [sQ,ne_eq] at g1
 refine aZ 4 rfl (h:=aZ 5 rfl (h:=aZ 6 rfl (h:=aZ 7 rfl (h:=aZ 8 rfl (h:=aZ 9 rfl (h:=aZ 10 rfl (h:=aZ 11 rfl (h:=aZ 12 rfl (h:=aZ 13 rfl (h:=aPF 14 rfl (h:=ZB kr kr ?_)))))))))))
 exact ⟨rfl,rfl,rfl,ZhX rfl (by first | (rw [hc];done) | (rw [List.getElem?_eq_none oz])),t2⟩
 refine ZT [(0,_),(4,_),(24,_)] t3 (Zb rfl (fun g2=>?_) (fun g2=>?_))
 try simp only [sQ,ne_eq] at g2
 refine wSk (Zh (Zj (xM (h:=xNc (h:=xW Zbv (h:=x1 lk3 0 (h:=Zq (Zfw rfl rfl rfl rfl (by first | exact ZbQ oz oz | rfl) ?_))))))))
 refine xNc (h:=xW Zbv (h:=xS [_] 0 [_,_] sz3 (h:=ZS ?_)))
 obtain ⟨c,hc,hn⟩:=ZmY g2
 exact ZlC (k+1) (by have:=Zbn hc;omega) ⟨rfl,by have:=Zbn hc;omega,Zll (by simpa using hc) hn ha⟩ t2 rfl
 try simp only [sQ,ne_eq] at g2
 have hw:word l i=(l.drop i).take k:=Zot ha (fun c hc=>by rw [hc] at g2;exact g2)
 have hwl:(word l i).length=k:=by rw [hw,List.length_take,List.length_drop];omega
 refine ZD (ZW (ZlB (Zs (Zo (Za (xM (h:=xNc (h:=xW Zbv (h:=x1 lk3 0 (h:=xM (h:=Zq (ZhD rfl rfl rfl rfl (by first | exact ZbQ oz oz | rfl) ?_))))))))))))
 refine xA (h:=ZT [(0,_),(4,_),(5,_),(24,_)] t4 (Zc (Z2 (same _ _) mo kr ⟨rfl,rfl⟩ (fun _ _=>?_))))
 refine aM 0 rfl (h:=aNc 1 rfl (h:=aW 2 rfl ZfL (h:=aT 3 rfl (Zal fun D=>Zp rfl rfl lk9 rfl (atL 0 rfl rfl rfl) r4) (h:=aM 4 rfl (h:=aM 5 rfl (h:=aNc 6 rfl (h:=aW 7 rfl Zbv (h:=aT 8 rfl (Zal fun D=>Zp rfl rfl lk3 rfl (atL 0 rfl rfl rfl) r4) (h:=aT 9 rfl (Zal fun D=>Ze5 rfl rfl Tryz.underlying9 rfl (a:=i) (b:=i+k) ⟨_,_,rfl,rfl⟩ ⟨_,_,rfl,oz⟩ oz oz r4) (h:=?_))))))))))
 refine aM 10 rfl (h:=Zvn 11 rfl (h:=aM 12 rfl (h:=Zay (d:=50) rfl (fun g1=>?_) (fun g1=>?_))))
 try simp only [sQ,ne_eq] at g1
 refine aM 13 rfl (h:=ZrU 14 rfl (h:=aPT 15 rfl (h:=aA 16 rfl (h:=aA 17 rfl (h:=ZB kr kr ?_)))))
 refine Zo (ZT [(0,_),(2,_),(3,_),(4,_),(5,_),(24,_)] t6 (Ze ?_))
 exact ZrL .ret (.inl rfl) [_,_] 0 rfl t2 ⟨Zhc (by rw [ZeG,hw]) (Zd (by rw [Bool.eq_iff_iff];simp [ZcW,hwl];omega)),rfl,by rw [hwl]⟩
 try simp only [sQ,ne_eq] at g1
 refine aZ 13 rfl (h:=aZ 14 rfl (h:=aPF 15 rfl (h:=aA 16 rfl (h:=aA 17 rfl (h:=ZB kr kr ?_)))))
 refine Zo (ZT [(0,_),(2,_),(3,_),(4,_),(5,_),(24,_)] t6 (Ze ?_))
 exact ZrL .ret (.inl rfl) [_,_] 0 rfl t2 ⟨Zhc (by rw [ZeG,hw]) (Zd (by rw [Bool.eq_iff_iff];simp [ZcW,hwl];omega)),rfl,by rw [hwl]⟩

theorem ZpG (b:Nat) (l:List UInt8) (i:Nat) (hi:i≤l.length) (hl:l.length≤2000000) (B:Kn):ZqC (pj J) 134 [ptr ⟨b,0,none⟩] B (cur b l i) (.tuple #[str (ZgR l i),.bool (Zkv l i)]) (cur b l (dom l i).2):=by
 refine cB 53 Tryz.func134 (h:=?_)
 refine Za (xA (h:=xA (h:=ZT [(0,_),(2,_),(3,_)] t3 (Za (xM (h:=xNc (h:=xW Zbv (h:=x1 lk3 0 (h:=xA (h:=ZT [(0,_),(2,_),(3,_),(4,_)] t4 (Zc (Za (xM (h:=Zq (Zg7 0 rfl rfl rfl Zuf rfl (Zne _ _ _ oz oz _) ?_)))))))))))))))
 refine xM (h:=xE (h:=xE (h:=xA (h:=xA (h:=ZC [(0,_),(2,_),(3,_),(4,_),(6,_)] [_] t5 rfl (Za (xM (h:=xN (h:=ZT [(0,_),(2,_),(3,_),(4,_),(6,_),(20,_)] t6 (Zb rfl (fun g1=>?_) (fun g1=>?_)))))))))))
 try simp only [sQ,ne_eq] at g1
 refine Za (xA (h:=xA (h:=ZT [(0,_),(2,_),(3,_),(4,_),(6,_),(20,_)] t6 (Ze (Zk ?_)))))
 exact ZrL .ret (.inl rfl) [_,_] 0 rfl t2 ⟨Zhc (by simp [ZgR,Zku g1]) (Zd (by simp [Zkv,Zku g1])),rfl,by rw [Zku g1]⟩
 try simp only [sQ,ne_eq] at g1
 refine wSk (Zc (Za (xA (h:=ZT [(0,_),(2,_),(3,_),(4,_),(6,_),(7,_),(20,_)] t7 (Zh (Zin (α:=Nat × Nat) (fun x=>[(0,ptr ⟨b,0,none⟩),(4,.int .i64 i),(7,.int .i64 x.1)]) (fun x=>[cur b l x.2]) (fun x Bx=>Bx=B∧1≤x.1∧x.1≤3∧i≤x.2∧x.2≤l.length∧dom l i=more (3 - x.1) l x.2) (fun x=>3 - x.1) (1,i+(word l i).length) t3 rfl (⟨rfl,oz,oz,oz,Zge hi,ZpH g1⟩) (fun x B1 hle1 hI=>?_)))))))
 obtain ⟨rfl,hk1,hk3,hix,hxl,hd⟩:=hI
 refine Zc (Za (xM (h:=ZF (h:=xM (h:=Zv (d:=23) rfl (fun g2=>?_) (fun g2=>?_))))))
 try simp only [sQ,ne_eq] at g2
 refine xM (h:=Zq (Zg7 0 rfl rfl rfl Zuz rfl (Zsr _ _ _ oz oz 46 _) ?_))
 refine xT (h:=ZC [(0,_),(4,_),(7,_),(26,_)] [_] t4 rfl (Zb rfl (fun g3=>?_) (fun g3=>?_)))
 try simp only [sQ,ne_eq] at g3
 rw [if_pos g3]
 have hx2:=Zbn g3
 refine wSk (Zc (Zh (Za (xM (h:=Zq (Zg7 0 rfl rfl rfl Zuf rfl (Zne _ _ _ oz oz _) ?_))))))
 refine xM (h:=xE (h:=xE (h:=xA (h:=xA (h:=ZC [(0,_),(4,_),(7,_),(9,_),(26,_)] [_] t5 rfl (Za (xM (h:=xN (h:=ZT [(0,_),(4,_),(7,_),(9,_),(26,_),(35,_)] t6 (Zb rfl (fun g4=>?_) (fun g4=>?_)))))))))))
 try simp only [sQ,ne_eq] at g4
 refine Za (xA (h:=xA (h:=ZT [(0,_),(2,_),(3,_),(4,_),(7,_),(9,_),(26,_),(35,_)] t8 (Ze (Zy (Zk (Zq1 (Zy (Zk ?_)))))))))
 have hdd:=hd.trans (Zpa oz g3 g4)
 exact ZrL .ret (.inl rfl) [_,_] 0 rfl t2 ⟨Zhc (by simp [ZgR,hdd]) (Zd (by simp [Zkv,hdd])),rfl,by rw [hdd]⟩
 try simp only [sQ,ne_eq] at g4
 refine ZY (ZS (Zo (Zj (xM (h:=Zq (Zfw rfl rfl rfl rfl (by first | exact ZbQ oz oz | rfl) ?_))))))
 refine xA (h:=?_)
 exact ZlC (x.1+1,x.2+1+(word l (x.2+1)).length) (so) ⟨rfl,so,so,so,Zge oz,by rw [hd,Znj oz g3 g4];rw [show 3 - (x.1+1)=3 - x.1 - 1 from by omega]⟩ t3 rfl
 try simp only [sQ,ne_eq] at g3
 rw [if_neg g3]
 replace hd:=hd.trans (Zgx g3)
 refine ZD (ZW (ZlB (Zs (Zo (Zc (Z2 (same _ _) mo kr ⟨rfl,rfl⟩ (fun _ _=>?_)))))))
 refine aM 0 rfl (h:=aNc 1 rfl (h:=aW 2 rfl ZfL (h:=aT 3 rfl (Zal fun D=>Zp rfl rfl lk9 rfl (atL 0 rfl rfl rfl) r4) (h:=aM 4 rfl (h:=aM 5 rfl (h:=aNc 6 rfl (h:=aW 7 rfl Zbv (h:=aT 8 rfl (Zal fun D=>Zp rfl rfl lk3 rfl (atL 0 rfl rfl rfl) r4) (h:=aT 9 rfl (Zal fun D=>Ze5 rfl rfl Tryz.underlying9 rfl (a:=i) (b:=x.2) ⟨_,_,rfl,rfl⟩ ⟨_,_,rfl,rfl⟩ oz oz r4) (h:=?_))))))))))
 refine aM 10 rfl (h:=aNc 11 rfl (h:=aW 12 rfl Zbv (h:=aT 13 rfl (Zal fun D=>Zp rfl rfl lk3 rfl (atL 0 rfl rfl rfl) r4) (h:=aM 14 rfl (h:=aT 15 rfl (Zal fun D=>ZhD rfl rfl rfl rfl (by first | exact ZbQ oz oz | rfl) r4) (h:=?_))))))
 refine ZrU 16 rfl (h:=aA 17 rfl (h:=aA 18 rfl (h:=ZB kr kr ?_)))
 refine Zo (ZT [(0,_),(2,_),(3,_),(4,_),(7,_),(26,_)] t6 (Ze ?_))
 exact ZrL .ret (.inl rfl) [_,_] 0 rfl t2 ⟨Zhc (by simp [ZgR,hd]) (Zd (by rw [Bool.eq_iff_iff];simp [Zkv,hd];omega)),rfl,by rw [hd]⟩
 try simp only [sQ,ne_eq] at g2
 replace hd:dom l i=(true,x.2):=hd.trans (by rw [show 3 - x.1=0 from by omega];rfl)
 refine xP (h:=xP (h:=xF (h:=ZT [(0,_),(4,_),(7,_),(26,_)] t4 (Zb (t:=false) rfl (fun h=>Bool.noConfusion h) (fun _=>ZD (ZW (ZlB (Zs (Zo (Zc (Z2 (same _ _) mo kr ⟨rfl,rfl⟩ (fun _ _=>?_))))))))))))
 refine aM 0 rfl (h:=aNc 1 rfl (h:=aW 2 rfl ZfL (h:=aT 3 rfl (Zal fun D=>Zp rfl rfl lk9 rfl (atL 0 rfl rfl rfl) r4) (h:=aM 4 rfl (h:=aM 5 rfl (h:=aNc 6 rfl (h:=aW 7 rfl Zbv (h:=aT 8 rfl (Zal fun D=>Zp rfl rfl lk3 rfl (atL 0 rfl rfl rfl) r4) (h:=aT 9 rfl (Zal fun D=>Ze5 rfl rfl Tryz.underlying9 rfl (a:=i) (b:=x.2) ⟨_,_,rfl,rfl⟩ ⟨_,_,rfl,rfl⟩ oz oz r4) (h:=?_))))))))))
 refine aM 10 rfl (h:=aNc 11 rfl (h:=aW 12 rfl Zbv (h:=aT 13 rfl (Zal fun D=>Zp rfl rfl lk3 rfl (atL 0 rfl rfl rfl) r4) (h:=aM 14 rfl (h:=aT 15 rfl (Zal fun D=>ZhD rfl rfl rfl rfl (by first | exact ZbQ oz oz | rfl) r4) (h:=?_))))))
 refine ZrU 16 rfl (h:=aA 17 rfl (h:=aA 18 rfl (h:=ZB kr kr ?_)))
 refine Zo (ZT [(0,_),(2,_),(3,_),(4,_),(7,_),(26,_)] t6 (Ze ?_))
 exact ZrL .ret (.inl rfl) [_,_] 0 rfl t2 ⟨Zhc (by simp [ZgR,hd]) (Zd (by rw [Bool.eq_iff_iff];simp [Zkv,hd];omega)),rfl,by rw [hd]⟩

theorem Zb4 (l:List UInt8) (hl:l.length≤2000000) (B:Kn):Zaa (pj J) 44 [str l] B (.bool (Zaf l)):=by
 refine cB 16 Tryz.func44 (h:=?_)
 refine Za (xA (h:=ZT [(0,_),(2,_)] t2 (Za (xM (h:=xB [(0,_)] [_,_] [_,_] ZsC Zos (h:=xAl [_,_] Zos (h:=fun b0=>xS [_,_] 0 [_,_] Zsz (h:=ZC [(0,_),(2,_),(3,_)] [_] t3 rfl (Za (Zq (Zg7 0 rfl rfl rfl Zuf rfl (Zne _ _ 0 oz hl _) ?_)))))))))))
 refine xM (h:=xE (h:=xE (h:=xA (h:=xA (h:=ZC [(0,_),(2,_),(3,_),(5,_)] [_] t4 rfl (Za (xM (h:=xM (h:=Zv (d:=13) rfl (fun g1=>?_) (fun g1=>?_))))))))))
 refine Zq (Zim 0 rfl rfl rfl Ztr rfl (Zlg _ _ (0+(word l 0).length) (Zge (Nat.zero_le _)) oz _) ?_)
 refine xT (h:=xA (h:=ZT [(0,_),(2,_),(3,_),(5,_)] t4 (Ze ?_)))
 exact eR t1 ⟨Zd (by rw [ZcK];simp [g1];try omega),rfl,rfl⟩
 refine xP (h:=xF (h:=xA (h:=ZT [(0,_),(2,_),(3,_),(5,_)] t4 (Ze ?_))))
 exact eR t1 ⟨Zd (by rw [ZcK];simp [g1];try omega),rfl,rfl⟩

abbrev Ztu (s : Cells) (q : Option Addr) (m cp : Nat) (ls : List (List UInt8)) : Prop := Zfu s q m cp 9 1 (ls.map str)
theorem Ziq {s:Cells} {q:Option Addr} {m cp:Nat} {ls:List (List UInt8)} {a:List UInt8} (h:Zfu s q m cp 9 1 (ls.map str ++ [str a])):Ztu s q m cp (ls ++ [a]):=by
 unfold Ztu
 rw [List.map_append]
 exact h
theorem Zrh (l:List UInt8) (hl:l.length≤2000000) (x0:UInt8) (B:Kn):ZvS (pj J) 94 [str l,.int .u8 x0.toNat] B (fun v s=>∃q cp,v = .slice q (cut x0 l).length cp∧Ztu s q (cut x0 l).length cp (cut x0 l)):=by
 refine cB 35 Tryz.func94 (h:=?_)
 refine Za (xA (h:=ZT [(0,_),(1,_),(4,_)] t3 (Za (xBs [] [] Tryz.underlying99 sz9 zo9 (h:=fun b0=>xA (h:=ZC [(0,_),(1,_),(4,_),(5,_)] [_] t4 rfl (Za (xA (h:=ZT [(0,_),(1,_),(4,_),(5,_),(6,_)] t5 (Zc (Za (xA (h:=ZT [(0,_),(1,_),(4,_),(5,_),(6,_),(7,_)] t6 (Zh (Zin (α:=CutSt) (fun x=>[(0,str l),(1,.int .u8 x0.toNat),(5,.slice x.q x.m x.cp),(6,.int .i64 x.f),(7,.int .i64 x.i)]) (fun x=>[x.s]) (fun x Bx=>Bx=B∧x.f≤x.i∧x.i≤l.length∧x.m≤x.i∧x.m=x.ps.length∧Ztu x.s x.q x.m x.cp x.ps∧cut x0 l=x.ps ++ glue ((l.take x.i).drop x.f) (cut x0 (l.drop x.i))) (fun x=>l.length - x.i) ⟨0,0,0,[],some ⟨b0,0,none⟩,0,Zap b0 [] 9⟩ t5 rfl (⟨rfl,Nat.le_refl _,Nat.zero_le _,Nat.le_refl _,rfl,Zfu.lit rfl,by simp [Zla (Zlj x0 l)]⟩) (fun x B1 hle1 hI=>?_))))))))))))))))
 obtain ⟨rfl,hf,hi,hn,hm,hv,hc⟩:=hI
 refine Zc (Za (xM (h:=xM (h:=xVs Tryz.underlying9 (h:=ZF (h:=ZT [(0,_),(1,_),(5,_),(6,_),(7,_),(12,_)] t6 (Zb rfl (fun g1=>?_) (fun g1=>?_))))))))
 try simp only [sQ,ne_eq] at g1
 obtain ⟨c,hx⟩ :∃c,l[x.i]? = some c:=⟨_,List.getElem?_eq_getElem oz⟩
 refine wSk (Zc (Zh (Za (xM (h:=xM (h:=Zq (Zdr rfl rfl Tryz.underlying9 rfl rfl oz hx ?_)))))))
 refine xM (h:=Zil (h:=ZT [(0,_),(1,_),(5,_),(6,_),(7,_),(12,_),(19,_)] t7 (Zb rfl (fun g2=>?_) (fun g2=>?_))))
 try simp only [sQ,ne_eq] at g2
 refine Za (xM (h:=xM (h:=xM (h:=xM (h:=Zq (Ze5 rfl rfl Tryz.underlying9 rfl (a:=x.f) (b:=x.i) ⟨_,_,rfl,rfl⟩ ⟨_,_,rfl,rfl⟩ oz oz ?_))))))
 refine xBs [(0,_)] [_] Tryz.underlying99 sz9 zo9 (h:=fun b1=>Zq (Zeh 0 rfl (hv) rfl rfl Zs3 Ztn rfl rfl (Za6.box 1 rfl) rfl rfl oz (fun l1 p1 c1 hv1=>?_)))
 refine xA (h:=ZC [(0,_),(1,_),(5,_),(6,_),(7,_),(12,_),(19,_)] [_,_] t7 rfl (Zlp [0] rfl (Zj (xM (h:=Zq (Zfw rfl rfl rfl rfl (by first | exact ZbQ oz oz | rfl) ?_))))))
 refine xA (h:=ZS (Zo (Zj (xM (h:=Zq (Zfw rfl rfl rfl rfl (by first | exact ZbQ oz oz | rfl) ?_))))))
 refine xA (h:=?_)
 exact ZlC ⟨x.i+1,x.i+1,x.m+1,x.ps ++ [(l.take x.i).drop x.f],p1,c1,l1⟩ (so) ⟨rfl,Nat.le_refl _,so,so,by simp [hm],Ziq hv1,by rw [hc,ZrQ hx (ZtK g2),List.append_assoc];simp [Zpy,Zla (Zlj x0 _)]⟩ t5 rfl
 try simp only [sQ,ne_eq] at g2
 refine ZY (ZS (Zo (Zj (xM (h:=Zq (Zfw rfl rfl rfl rfl (by first | exact ZbQ oz oz | rfl) ?_))))))
 refine xA (h:=?_)
 exact ZlC ⟨x.i+1,x.f,x.m,x.ps,x.q,x.cp,x.s⟩ (so) ⟨rfl,so,so,so,hm,hv,by rw [hc,ZpJ hx (ZtJ g2),ZnH,ZmL hx hf]⟩ t5 rfl
 try simp only [sQ,ne_eq] at g1
 obtain hie:x.i=l.length:=by omega
 rw [hie,List.take_length,List.drop_length] at hc
 refine ZD (ZW (ZlB (Zs (Zo (Za (xM (h:=xM (h:=xM (h:=Zq (Ze5 rfl rfl Tryz.underlying9 rfl (a:=x.f) (b:=l.length) ⟨_,_,rfl,rfl⟩ rfl oz oz ?_))))))))))
 refine xBs [(0,_)] [_] Tryz.underlying99 sz9 zo9 (h:=fun b1=>Zq (Zeh 0 rfl (hv) rfl rfl Zs3 Ztn rfl rfl (Za6.box 1 rfl) rfl rfl oz (fun l2 p2 c2 hv2=>?_)))
 refine xA (h:=ZC [(0,_),(1,_),(4,_),(5,_),(6,_),(7,_),(12,_)] [_,_] t7 rfl (Ze ?_))
 have he:cut x0 l=x.ps ++ [l.drop x.f]:=by rw [hc];simp [cut,glue]
 have hlen:(cut x0 l).length=x.m+1:=by rw [he];simp [hm]
 exact Zes .ret (.inl rfl) [_] [0] rfl ⟨rfl,trivial⟩ ⟨rfl,_,rfl,p2,c2,by rw [hlen];rfl,by rw [hlen,he];rw [List.take_length] at hv2;exact Ziq hv2⟩

theorem ZiA (l:List UInt8) (hl:l.length≤2000000) (B:Kn):Zaa (pj J) 53 [str l] B (.bool (Zcl l)):=by
 refine cB 27 Tryz.func53 (h:=?_)
 refine Za (xA (h:=ZT [(0,_),(2,_)] t2 (Za (xM (h:=Zq (Zr7 rfl rfl Zv8 rfl (Zrh _ hl 46 _) ?_))))))
 rintro _ s ⟨q,cp,rfl,hv⟩
 refine xA (h:=ZC [(0,_),(2,_),(3,_)] [_] t3 rfl (Zc (Za (xA (h:=ZT [(0,_),(2,_),(3,_),(4,_)] t4 (Zh (Zin (α:=Nat) (fun k=>[(0,str l),(3,.slice q (cut 46 l).length cp),(4,.int .i64 k)]) (fun k=>[s]) (fun k Bx=>Bx=B∧k≤(cut 46 l).length∧((cut 46 l).take k).all Zaf=true) (fun k=>(cut 46 l).length - k) 0 t3 rfl (⟨rfl,Nat.zero_le _,by simp⟩) (fun k B1 hle1 hI=>?_))))))))
 obtain ⟨rfl,hk,ha⟩:=hI
 have hcc:=Zji 46 l
 refine Zc (Za (xM (h:=xM (h:=xV Tryz.underlying99 (h:=ZF (h:=ZT [(0,_),(3,_),(4,_),(10,_)] t4 (Zb rfl (fun g1=>?_) (fun g1=>?_))))))))
 try simp only [sQ,ne_eq] at g1
 obtain ⟨y,hy⟩ :∃y,(cut 46 l)[k]? = some y:=⟨_,List.getElem?_eq_getElem oz⟩
 have hyl:=Zkw 46 l y (List.mem_of_getElem? hy)
 obtain ⟨a,rfl,hsp,hat⟩:=hv.at (B:=B1) (L:=[s]) (i:=k) (v:=str y) 0 rfl (by rw [List.getElem?_map,hy];rfl)
 refine wSk (Zc (Zh (Za (xM (h:=xM (h:=Zq (Zbs rfl rfl Tryz.underlying99 sz9 rfl rfl oz oz ?_)))))))
 refine Zq (Zp rfl rfl lk9 rfl (Ztd hat) (xR Zqw rfl (Zbx _ oz _) (h:=?_)))
 refine xN (h:=ZT [(0,_),(3,_),(4,_),(10,_),(18,_)] t5 (Zb rfl (fun g2=>?_) (fun g2=>?_)))
 try simp only [sQ,ne_eq] at g2
 refine Za (xA (h:=ZT [(0,_),(2,_),(3,_),(4,_),(10,_),(18,_)] t6 (Ze (Zy (Zk (Zq1 (Zy (Zk ?_))))))))
 exact eR t1 ⟨Zd (by simp [Zcl,Zjs hy g2]),rfl,rfl⟩
 try simp only [sQ,ne_eq] at g2
 refine ZY (ZS (Zo (Zj (xM (h:=Zq (Zfw rfl rfl rfl rfl (by first | exact ZbQ oz oz | rfl) ?_))))))
 refine xA (h:=?_)
 exact ZlC (k+1) oz ⟨rfl,oz,ZgW hy g2 ha⟩ t3 rfl
 try simp only [sQ,ne_eq] at g1
 obtain hke:k=(cut 46 l).length:=by omega
 rw [hke,List.take_length] at ha
 refine ZD (ZW (ZlB (Zs (Zo (Za (xM (h:=xV Tryz.underlying99 (h:=ZbT (h:=xM (h:=Zv (d:=22) rfl (fun g3=>?_) (fun g3=>?_)))))))))))
 try simp only [sQ,ne_eq] at g3
 refine xM (h:=xVs Tryz.underlying9 (h:=ZbT (h:=xT (h:=xA (h:=ZT [(0,_),(2,_),(3,_),(4,_),(10,_)] t5 (Ze ?_))))))
 exact eR t1 ⟨Zd (by rw [Bool.eq_iff_iff];simp [Zcl,ha];omega),rfl,rfl⟩
 try simp only [sQ,ne_eq] at g3
 refine xP (h:=xP (h:=xP (h:=xF (h:=xA (h:=ZT [(0,_),(2,_),(3,_),(4,_),(10,_)] t5 (Ze ?_))))))
 exact eR t1 ⟨Zd (by rw [Bool.eq_iff_iff];simp [Zcl,ha];omega),rfl,rfl⟩

theorem Zfi (q:Option Addr) (cp:Nat) (us:List DUser) (u:Str) (B:Kn) (hu:SlK B q cp 3 Zt us):Zaa (pj J) 22 [.slice q us.length cp,str u] B (.int .i64 (Zho us u)):=by
 refine cB 20 Tryz.func22 (h:=?_)
 have hun:=hu.len
 refine Za (xA (h:=Zc (Za (xA (h:=Zh (Zx (α:=Nat) [0,1] (fun k=>[(5,.int .i64 k)]) [] (fun k=>[]) (fun k Bx=>Bx=B∧k≤us.length∧∀x,x∈us.take k→x.name≠u) (fun k=>us.length - k) 0 t1 rfl (⟨rfl,Nat.zero_le _,by simp⟩) (fun k B1 hle1 hI=>?_)))))))
 obtain ⟨rfl,hk,ha⟩:=hI
 refine ZC [(0,_),(1,_),(5,_)] [] t3 rfl (Zc (Za (xM (h:=xM (h:=xV Tryz.underlying30 (h:=ZF (h:=Zb rfl (fun g1=>?_) (fun g1=>?_))))))))
 try simp only [sQ,ne_eq] at g1
 refine wSk (Zc (Zh (Za (xM (h:=xM (h:=?_))))))
 obtain ⟨x,hx⟩:=ZX (xs:=us) (i:=k) om
 obtain ⟨bb3,oo3,rfl⟩:=hu.base hx
 obtain ⟨_,⟨rfl,hb4,hb4b⟩,hc4⟩:=hu.elem hx
 refine xIx Tryz.underlying30 ZdR (h:=xW ZbP (h:=y1 lk9 hc4 0 (h:=xM (h:=ZdS (h:=Zb rfl (fun g2=>?_) (fun g2=>?_))))))
 try simp only [sQ,ne_eq] at g2
 refine Za (xM (h:=xA (h:=Ze (Zy (Zk (ZN (Zy (Zk ?_))))))))
 exact eR t1 ⟨ZJ (Zpk hx g2 ha).symm,rfl,rfl⟩
 try simp only [sQ,ne_eq] at g2
 refine ZY (ZS (Zo (Zj (xM (h:=xD (h:=xA (h:=?_)))))))
 exact ZE (k+1) [] so2 ⟨rfl,oz,ZaM hx ha g2⟩ t3 rfl
 try simp only [sQ,ne_eq] at g1
 refine ZD (ZW (ZG (Zs (Zo (Za (xA (h:=Ze ?_)))))))
 exact eR t1 ⟨ZJ (Znz (Zbc oz ha)).symm,rfl,rfl⟩

theorem Zks (q q':Option Addr) (cp cp':Nat) (xs ys:List Str) (B:Kn) (ha:SlK B q cp 1 ZcT xs) (hb:SlK B q' cp' 1 ZcT ys):Zaa (pj J) 156 [.slice q xs.length cp,.slice q' ys.length cp'] B (.bool (decide (xs=ys))):=by
 refine cB 26 Tryz.func156 (h:=?_)
 have han:=ha.len
 have hbn:=hb.len
 refine Za (xA (h:=Zc (Za (xM (h:=xV Tryz.underlying99 (h:=xM (h:=xV Tryz.underlying99 (h:=ZaS (h:=Zb rfl (fun g1=>?_) (fun g1=>?_))))))))))
 try simp only [sQ,ne_eq] at g1
 refine Za (xA (h:=Ze (Zk ?_)))
 exact eR t1 ⟨Zd (ZfN g1),rfl,rfl⟩
 try simp only [sQ,ne_eq] at g1
 refine wSk (Zc (Za (xA (h:=Zh (Zx (α:=Nat) [0,1,10] (fun k=>[(5,.int .i64 k)]) [] (fun k=>[]) (fun k Bx=>Bx=B∧k≤xs.length∧xs.take k=ys.take k) (fun k=>xs.length - k) 0 t1 rfl (⟨rfl,Nat.zero_le _,by simp⟩) (fun k B1 hle1 hI=>?_))))))
 obtain ⟨rfl,hk,he⟩:=hI
 refine ZC [(0,_),(1,_),(5,_),(10,_)] [] t4 rfl (Zc (Za (xM (h:=xM (h:=xV Tryz.underlying99 (h:=ZF (h:=Zb rfl (fun g2=>?_) (fun g2=>?_))))))))
 try simp only [sQ,ne_eq] at g2
 refine wSk (Zc (Zh (Zc (Z2 (same _ _) mo kr ⟨rfl,rfl⟩ (fun _ _=>?_)))))
 refine aM 0 rfl (h:=aM 1 rfl (h:=?_))
 obtain ⟨x,hx⟩:=ZX (xs:=xs) (i:=k) om
 obtain ⟨bb3,oo3,rfl⟩:=ha.base hx
 obtain ⟨_,⟨rfl,hb4⟩,hc4⟩:=ha.elem hx
 refine aIx 2 rfl Tryz.underlying99 sz9 (h:=aT 3 rfl (Zal fun D=>Zp rfl rfl lk9 rfl (hc4 _ 0 _ rfl) r4) (h:=aM 4 rfl (h:=aM 5 rfl (h:=?_))))
 obtain ⟨y,hy⟩:=ZX (xs:=ys) (i:=k) om
 obtain ⟨bb6,oo6,rfl⟩:=hb.base hy
 obtain ⟨_,⟨rfl,hb7⟩,hc7⟩:=hb.elem hy
 refine aIx 6 rfl Tryz.underlying99 sz9 (h:=aT 7 rfl (Zal fun D=>Zp rfl rfl lk9 rfl (hc7 _ 0 _ rfl) r4) (h:=ZeI 8 rfl (h:=ZB kr kr ?_)))
 refine Zo (Zb rfl (fun g3=>?_) (fun g3=>?_))
 try simp only [sQ,ne_eq] at g3
 refine Za (xA (h:=Ze (Zy (Zk (ZN (Zy (Zk ?_)))))))
 exact eR t1 ⟨Zd (Zer hx hy g3),rfl,rfl⟩
 try simp only [sQ,ne_eq] at g3
 refine ZY (ZS (Zo (Zj (xM (h:=xD (h:=xA (h:=?_)))))))
 exact ZE (k+1) [] so2 ⟨rfl,oz,Zbw hx hy g3 he⟩ t4 rfl
 try simp only [sQ,ne_eq] at g2
 refine ZD (ZW (ZG (Zs (Zo (Za (xA (h:=Ze ?_)))))))
 exact eR t1 ⟨Zd (eqT oz oz he),rfl,rfl⟩

theorem Zpf (q:Option Addr) (cp:Nat) (xs:List Str) (u:Str) (B:Kn) (ha:SlK B q cp 1 ZcT xs):Zaa (pj J) 160 [.slice q xs.length cp,str u] B (.bool (decide (u∈xs))):=by
 refine cB 18 Tryz.func160 (h:=?_)
 have han:=ha.len
 refine Za (xA (h:=Zc (Za (xA (h:=Zh (Zx (α:=Nat) [0,1] (fun k=>[(5,.int .i64 k)]) [] (fun k=>[]) (fun k Bx=>Bx=B∧k≤xs.length∧∀x,x∈xs.take k→x≠u) (fun k=>xs.length - k) 0 t1 rfl (⟨rfl,Nat.zero_le _,by simp⟩) (fun k B1 hle1 hI=>?_)))))))
 obtain ⟨rfl,hk,hn⟩:=hI
 refine ZC [(0,_),(1,_),(5,_)] [] t3 rfl (Zc (Za (xM (h:=xM (h:=xV Tryz.underlying99 (h:=ZF (h:=Zb rfl (fun g1=>?_) (fun g1=>?_))))))))
 try simp only [sQ,ne_eq] at g1
 refine wSk (Zc (Zh (Za (xM (h:=xM (h:=?_))))))
 obtain ⟨x,hx⟩:=ZX (xs:=xs) (i:=k) om
 obtain ⟨bb3,oo3,rfl⟩:=ha.base hx
 obtain ⟨_,⟨rfl,hb4⟩,hc4⟩:=ha.elem hx
 refine xIx Tryz.underlying99 sz9 (h:=y1 lk9 hc4 0 (h:=xM (h:=ZdS (h:=Zb rfl (fun g2=>?_) (fun g2=>?_)))))
 try simp only [sQ,ne_eq] at g2
 refine Za (xA (h:=Ze (Zy (Zk (ZN (Zy (Zk ?_)))))))
 exact eR t1 ⟨Zd (ZvZ hx g2),rfl,rfl⟩
 try simp only [sQ,ne_eq] at g2
 refine ZY (ZS (Zo (Zj (xM (h:=xD (h:=xA (h:=?_)))))))
 exact ZE (k+1) [] so2 ⟨rfl,oz,ZaM hx hn g2⟩ t3 rfl
 try simp only [sQ,ne_eq] at g1
 refine ZD (ZW (ZG (Zs (Zo (Za (xA (h:=Ze ?_)))))))
 exact eR t1 ⟨Zd (Zv0 (Zbc oz hn)),rfl,rfl⟩

theorem ZlN (q:Option Addr) (cp:Nat) (xs:List Str) (B:Kn) (ha:SlK B q cp 1 ZcT xs):Zaa (pj J) 128 [.slice q xs.length cp] B (.bool (Zcm xs)):=by
 refine cB 29 Tryz.func128 (h:=?_)
 have han:=ha.len
 refine Za (xA (h:=Zc (Za (xA (h:=Zh (Zx (α:=Nat) [0] (fun k=>[(3,.int .i64 k)]) [] (fun k=>[]) (fun k Bx=>Bx=B∧k≤xs.length∧(xs.take k).all Zaf=true∧(xs.take k).Nodup) (fun k=>xs.length - k) 0 t1 rfl (⟨rfl,Nat.zero_le _,by simp,by simp⟩) (fun k B1 hle1 hI=>?_)))))))
 obtain ⟨rfl,hk,hv,hn⟩:=hI
 refine ZC [(0,_),(3,_)] [] t2 rfl (Zc (Za (xM (h:=xM (h:=xV Tryz.underlying99 (h:=ZF (h:=Zb rfl (fun g1=>?_) (fun g1=>?_))))))))
 try simp only [sQ,ne_eq] at g1
 refine wSk (Zc (Zh (Zc (Z2 (same _ _) mo kr ⟨rfl,rfl⟩ (fun _ _=>?_)))))
 refine aM 0 rfl (h:=aM 1 rfl (h:=?_))
 obtain ⟨x,hx⟩:=ZX (xs:=xs) (i:=k) om
 obtain ⟨bb3,oo3,rfl⟩:=ha.base hx
 obtain ⟨_,⟨rfl,hb4⟩,hc4⟩:=ha.elem hx
 refine aIx 2 rfl Tryz.underlying99 sz9 (h:=aT 3 rfl (Zal fun D=>Zp rfl rfl lk9 rfl (hc4 _ 0 _ rfl) r4) (h:=aT 4 rfl (Zal fun D=>Zae rfl rfl Zqw rfl (Zbx _ om2 _) r4) (h:=?_)))
 refine aN 5 rfl (h:=aM 6 rfl (h:=Zay (d:=16) rfl (fun g2=>?_) (fun g2=>?_)))
 try simp only [sQ,ne_eq] at g2
 refine aZ 7 rfl (h:=aZ 8 rfl (h:=aZ 9 rfl (h:=aZ 10 rfl (h:=aZ 11 rfl (h:=aZ 12 rfl (h:=aZ 13 rfl (h:=aZ 14 rfl (h:=aPT 15 rfl (h:=ZB kr kr ?_)))))))))
 refine Zo (Zb (t:=true) rfl (fun _=>Za (xA (h:=Ze (Zy (Zk (ZN (Zy (Zk ?_)))))))) (fun h=>Bool.noConfusion h))
 exact eR t1 ⟨Zd (ZfY hx g2),rfl,rfl⟩
 try simp only [sQ,ne_eq] at g2
 refine aM 7 rfl (h:=aM 8 rfl (h:=?_))
 obtain ⟨hq6,q6,cp6,hv6,hr6⟩:=ha.cutE 0 k om om
 have hr6n:=hr6.len
 refine aT 9 rfl (Zal fun D=>ZdT (a:=0) (b:=k) hv6 om hq6 rfl rfl Tryz.underlying99 sz9 rfl rfl ⟨_,_,rfl,by first | omega | (simp;done) | (simp;omega)⟩ r4) (h:=?_)
 refine aM 10 rfl (h:=aM 11 rfl (h:=aIx 12 rfl Tryz.underlying99 sz9 (h:=aT 13 rfl (Zal fun D=>Zp rfl rfl lk9 rfl (hc4 _ 0 _ rfl) r4) (h:=aT 14 rfl (Zal fun D=>Zae rfl rfl ZuC rfl (Zpf _ _ _ _ _ hr6) r4) (h:=aPF 15 rfl (h:=ZB kr kr ?_))))))
 refine Zo (Zb rfl (fun g3=>?_) (fun g3=>?_))
 try simp only [sQ,ne_eq] at g3
 refine Za (xA (h:=Ze (Zy (Zk (ZN (Zy (Zk ?_)))))))
 exact eR t1 ⟨Zd (ZfX hx (by simpa using g3)),rfl,rfl⟩
 try simp only [sQ,ne_eq] at g3
 refine ZY (ZS (Zo (Zj (xM (h:=xD (h:=xA (h:=?_)))))))
 exact ZE (k+1) [] so2 ⟨rfl,oz,ZgW hx g2 hv,Znc hx hn (by simpa using g3)⟩ t2 rfl
 try simp only [sQ,ne_eq] at g1
 refine ZD (ZW (ZG (Zs (Zo (Za (xM (h:=xV Tryz.underlying99 (h:=ZbT (h:=xA (h:=Ze ?_))))))))))
 exact eR t1 ⟨Zd (Zgw oz hv hn),rfl,rfl⟩

theorem Ziz (q:Option Addr) (cp:Nat) (x:DLetter) (B:Kn) (ha:SlK B q cp 1 ZcT x.to_) (h1:x.fr.length≤2000000) (h2:x.text.length≤2000000):Zaa (pj J) 95 [.agg #[str x.fr,.slice q x.to_.length cp,str x.text]] B (.bool (Zca x)):=by
 refine cB 23 Tryz.func95 (h:=?_)
 refine Za (xBx [_,_,_] (h:=fun b1=>xA (h:=tL1 (Za (xW ZnN (h:=x1 lk9 0 (h:=xR Zqw rfl (Zbx _ om2 _) (h:=?_))))))))
 refine xM (h:=Zv (d:=6) rfl (fun g1=>?_) (fun g1=>?_))
 try simp only [sQ,ne_eq] at g1
 refine xW Zkp (h:=x1 Zj6 0 (h:=xR ZuY rfl (ZlN _ _ _ _ ha) (h:=xT (h:=xM (h:=Zv (d:=11) rfl (fun g2=>?_) (fun g2=>?_))))))
 try simp only [sQ,ne_eq] at g2
 refine xW Zkp (h:=x1 Zj6 0 (h:=xV Tryz.underlying99 (h:=ZdM (h:=xT (h:=xM (h:=Zv (d:=17) rfl (fun g3=>?_) (fun g3=>?_)))))))
 try simp only [sQ,ne_eq] at g3
 refine xW ZnM (h:=x1 lk9 0 (h:=xVs Tryz.underlying9 (h:=ZbT (h:=xT (h:=xA (h:=Ze ?_))))))
 exact eR t1 ⟨Zd (by rw [Bool.eq_iff_iff];simp [Zca,g1,g2,g3];try omega),rfl,rfl⟩
 try simp only [sQ,ne_eq] at g3
 refine xP (h:=xP (h:=xP (h:=xP (h:=xF (h:=xA (h:=Ze ?_))))))
 exact eR t1 ⟨Zd (by rw [Bool.eq_iff_iff];simp [Zca,g1,g2,g3];try omega),rfl,rfl⟩
 try simp only [sQ,ne_eq] at g2
 refine xP (h:=xP (h:=xP (h:=xP (h:=xF (h:=xM (h:=xP (h:=xP (h:=xP (h:=xP (h:=xF (h:=xA (h:=Ze ?_))))))))))))
 exact eR t1 ⟨Zd (by rw [Bool.eq_iff_iff];simp [Zca,g1,g2];try omega),rfl,rfl⟩
 try simp only [sQ,ne_eq] at g1
 refine xP (h:=xP (h:=xP (h:=xF (h:=xM (h:=xP (h:=xP (h:=xP (h:=xP (h:=xF (h:=xM (h:=xP (h:=xP (h:=xP (h:=xP (h:=xF (h:=xA (h:=Ze ?_)))))))))))))))))
 exact eR t1 ⟨Zd (by rw [Bool.eq_iff_iff];simp [Zca,g1];try omega),rfl,rfl⟩

theorem Zrp (q:Option Addr) (cp:Nat) (xs:List Str) (v:Str) (B:Kn) (ha:SlK B q cp 1 ZcT xs):Zaa (pj J) 217 [.slice q xs.length cp,str v] B (.int .i64 (Zt7 xs v)):=by
 refine cB 19 Tryz.func217 (h:=?_)
 have han:=ha.len
 refine Za (xA (h:=Zc (Za (xM (h:=xV Tryz.underlying99 (h:=xM (h:=Zh (Zx (α:=Nat) [0,1,7] (fun k=>[(8,.int .i64 k)]) [] (fun k=>[]) (fun k Bx=>Bx=B∧k≤xs.length∧∀x,x∈xs.take k→decide (x=v)=false) (fun k=>xs.length - k) 0 t1 rfl (⟨rfl,Nat.zero_le _,by simp⟩) (fun k B1 hle1 hI=>?_)))))))))
 obtain ⟨rfl,hk,hn⟩:=hI
 refine ZC [(0,_),(1,_),(7,_),(8,_)] [] t4 rfl (Za (ZF (h:=Zc (Zb rfl (fun g1=>?_) (fun g1=>?_)))))
 try simp only [sQ,ne_eq] at g1
 refine wSk (Zc (Zh (Za (xM (h:=xA (h:=Za (xM (h:=xM (h:=xM (h:=?_))))))))))
 obtain ⟨x,hx⟩:=ZX (xs:=xs) (i:=k) om
 obtain ⟨bb3,oo3,rfl⟩:=ha.base hx
 obtain ⟨_,⟨rfl,hb4⟩,hc4⟩:=ha.elem hx
 refine xIx Tryz.underlying99 sz9 (h:=y1 lk9 hc4 0 (h:=ZdS (h:=Zb rfl (fun g2=>?_) (fun g2=>?_))))
 try simp only [sQ,ne_eq] at g2
 refine Za (xM (h:=xA (h:=Ze (Zy (Zk (ZN (Zy (Zk ?_))))))))
 exact eR t1 ⟨ZJ (Zga hx (by simp [g2]) hn).symm,rfl,rfl⟩
 try simp only [sQ,ne_eq] at g2
 refine ZY (ZS (Zo (Zj (xD (h:=xM (h:=?_))))))
 exact ZE (k+1) [] so2 ⟨rfl,oz,ZaM hx hn (by simp [Ne.symm g2])⟩ t4 rfl
 try simp only [sQ,ne_eq] at g1
 refine ZD (ZW (ZG (Zs (Zo (Za (xA (h:=Ze ?_)))))))
 exact eR t1 ⟨ZJ (Zd6 (Zbc oz hn)).symm,rfl,rfl⟩

theorem Zma (q:Option Addr) (cp:Nat) (xs:List Str) (v:Str) (B:Kn) (ha:SlK B q cp 1 ZcT xs):Zaa (pj J) 195 [.slice q xs.length cp,str v] B (.bool (decide (v∈xs))):=by
 refine cB 9 Tryz.func195 (h:=?_)
 refine Za (xA (h:=Za (xM (h:=xM (h:=xR Zui rfl (Zrp _ _ _ _ _ ha) (h:=Zdp (h:=xA (h:=Ze ?_))))))))
 exact eR t1 ⟨Zd (by rw [Bool.eq_iff_iff];simp [Zpl]),rfl,rfl⟩

theorem ZjR (q:Option Addr) (cp:Nat) (xs:List Str) (B:Kn) (ha:SlK B q cp 1 ZcT xs):Zaa (pj J) 164 [.slice q xs.length cp] B (.bool (decide (1≤xs.length) && Zcm xs)):=by
 refine cB 31 Tryz.func164 (h:=?_)
 have han:=ha.len
 refine Za (xA (h:=Zc (Za (xM (h:=xV Tryz.underlying99 (h:=ZF (h:=xM (h:=Zv (d:=8) rfl (fun g1=>?_) (fun g1=>?_)))))))))
 try simp only [sQ,ne_eq] at g1
 refine xP (h:=xP (h:=xP (h:=xT (h:=Zb (t:=true) rfl (fun _=>Za (xA (h:=Ze (Zk ?_)))) (fun h=>Bool.noConfusion h)))))
 exact eR t1 ⟨Zd (by simp;omega),rfl,rfl⟩
 try simp only [sQ,ne_eq] at g1
 refine xM (h:=xV Tryz.underlying99 (h:=ZdM (h:=xF (h:=Zb rfl (fun g2=>?_) (fun g2=>?_)))))
 try simp only [sQ,ne_eq] at g2
 refine Za (xA (h:=Ze (Zk ?_)))
 exact eR t1 ⟨Zd (by simp [Zcm];omega),rfl,rfl⟩
 try simp only [sQ,ne_eq] at g2
 refine wSk (Zc (Za (xM (h:=xV Tryz.underlying99 (h:=xM (h:=Zh (Zx (α:=Nat) [0,12,13,14] (fun k=>[(15,.int .i64 k)]) [] (fun k=>[]) (fun k Bx=>Bx=B∧k≤xs.length∧(xs.take k).all Zaf=true∧(xs.take k).Nodup) (fun k=>xs.length - k) 0 t1 rfl (⟨rfl,Nat.zero_le _,by simp,by simp⟩) (fun k B1 hle1 hI=>?_))))))))
 obtain ⟨rfl,hk,hv,hn⟩:=hI
 refine ZC [(0,_),(12,_),(13,_),(14,_),(15,_)] [] t5 rfl (Za (ZF (h:=Zc (Zb rfl (fun g3=>?_) (fun g3=>?_)))))
 try simp only [sQ,ne_eq] at g3
 refine wSk (Zc (Zh (Za (xM (h:=?_)))))
 obtain ⟨x,hx⟩:=ZX (xs:=xs) (i:=k) om
 obtain ⟨bb3,oo3,rfl⟩:=ha.base hx
 obtain ⟨_,⟨rfl,hb4⟩,hc4⟩:=ha.elem hx
 refine xIx Tryz.underlying99 sz9 (h:=y1 lk9 hc4 0 (h:=xA (h:=xA (h:=Za (xM (h:=xR ZrM rfl (Zb4 _ om2 _) (h:=?_)))))))
 refine xN (h:=xM (h:=Zv (d:=23) rfl (fun g4=>?_) (fun g4=>?_)))
 try simp only [sQ,ne_eq] at g4
 refine xP (h:=xP (h:=xP (h:=xP (h:=xP (h:=xT (h:=Zb (t:=true) rfl (fun _=>Za (xA (h:=Ze (Zy (Zk (ZN (Zy (Zk ?_)))))))) (fun h=>Bool.noConfusion h)))))))
 exact eR t1 ⟨Zd (by rw [← ZfY hx g4,Bool.and_false]),rfl,rfl⟩
 try simp only [sQ,ne_eq] at g4
 refine xM (h:=xM (h:=?_))
 obtain ⟨hq6,q6,cp6,hv6,hr6⟩:=ha.cutE 0 k om om
 have hr6n:=hr6.len
 refine Zq (ZdT (a:=0) (b:=k) hv6 om hq6 rfl rfl Tryz.underlying99 sz9 rfl rfl ⟨_,_,rfl,by first | omega | (simp;done) | (simp;omega)⟩ ?_)
 refine xM (h:=xR Zuo rfl (Zma _ _ _ _ _ hr6) (h:=xF (h:=Zb rfl (fun g5=>?_) (fun g5=>?_))))
 try simp only [sQ,ne_eq] at g5
 refine Za (xA (h:=Ze (Zy (Zk (ZN (Zy (Zk ?_)))))))
 exact eR t1 ⟨Zd (by rw [← ZfX hx (by simpa using g5),Bool.and_false]),rfl,rfl⟩
 try simp only [sQ,ne_eq] at g5
 refine ZY (ZS (Zo (Zj (xD (h:=xM (h:=?_))))))
 exact ZE (k+1) [] so2 ⟨rfl,oz,ZgW hx g4 hv,Znc hx hn (by simpa using g5)⟩ t5 rfl
 try simp only [sQ,ne_eq] at g3
 refine ZD (ZW (ZG (Zs (Zo (Za (xA (h:=Ze ?_)))))))
 exact eR t1 ⟨Zd (by rw [← Zgw oz hv hn];simp;omega),rfl,rfl⟩

theorem Zi0 (q:Option Addr) (cp:Nat) (x:DLetter) (B:Kn) (ha:SlK B q cp 1 ZcT x.to_) (h1:x.fr.length≤2000000) (h2:x.text.length≤2000000):Zaa (pj J) 136 [.agg #[str x.fr,.slice q x.to_.length cp,str x.text]] B (.bool (Zca x)):=by
 refine cB 17 Tryz.func136 (h:=?_)
 refine Za (xBx [_,_,_] (h:=fun b1=>xA (h:=tL1 (Za (xW ZnN (h:=x1 lk9 0 (h:=xR ZrM rfl (Zb4 _ om2 _) (h:=?_))))))))
 refine xM (h:=Zv (d:=6) rfl (fun g1=>?_) (fun g1=>?_))
 refine xW Zkp (h:=x1 Zj6 0 (h:=xR Zuy rfl (ZjR _ _ _ _ ha) (h:=xT (h:=xM (h:=Zv (d:=11) rfl (fun g2=>?_) (fun g2=>?_))))))
 refine xW ZnM (h:=x1 lk9 0 (h:=xVs Tryz.underlying9 (h:=ZbT (h:=xT (h:=xA (h:=Ze ?_))))))
 exact eR t1 ⟨Zd (by rw [Zd3];simp [g1,g2]),rfl,rfl⟩
 refine xP (h:=xP (h:=xP (h:=xP (h:=xF (h:=xA (h:=Ze ?_))))))
 exact eR t1 ⟨Zd (by rw [Zd3];simp [g1,g2]),rfl,rfl⟩
 refine xP (h:=xP (h:=xP (h:=xF (h:=xM (h:=xP (h:=xP (h:=xP (h:=xP (h:=xF (h:=xA (h:=Ze ?_)))))))))))
 exact eR t1 ⟨Zd (by rw [Zd3];simp [g1]),rfl,rfl⟩

theorem ZjP (aq:Option Addr) (cq:Nat) (q:DQueue) (B:Kn) (hq:SlK B aq cq 4 ZI q.items):Zaa (pj J) 55 [.agg #[.int .i64 q.next,.slice aq q.items.length cq]] B (.bool (ZaK q)):=by
 refine cB 48 Tryz.func55 (h:=?_)
 have hqn:=hq.len
 refine Za (xBx [_,_] (h:=fun b1=>xA (h:=tL1 (Za (xA (h:=Zc (Za (xA (h:=Zh (Zx (α:=Nat × Int) [0,1] (fun p=>[(3,.int .i64 p.2),(4,.int .i64 p.1)]) [] (fun p=>[]) (fun p Bx=>Bx=B∧p.1≤q.items.length∧Zda 0 q.items=Zda p.2 (q.items.drop p.1)∧0≤p.2∧p.2≤99) (fun p=>q.items.length - p.1) (0,0) t2 rfl (⟨rfl,Nat.zero_le _,rfl,by decide,by decide⟩) (fun p B2 hle2 hI=>?_)))))))))))
 obtain ⟨rfl,hk,hs,hl0,hl1⟩:=hI
 refine ZC [(0,_),(1,_),(3,_),(4,_)] [_] t4 rfl (Zc (Za (xM (h:=xW Zbp (h:=x1 Zhm 0 (h:=xV Tryz.underlying32 (h:=ZF (h:=Zb rfl (fun g1=>?_) (fun g1=>?_)))))))))
 try simp only [sQ,ne_eq] at g1
 refine wSk (Zc (Zh (Za (xW Zbp (h:=x1 Zhm 0 (h:=xM (h:=?_)))))))
 obtain ⟨x,hx⟩:=ZX (xs:=q.items) (i:=p.1) om
 obtain ⟨bb4,oo4,rfl⟩:=hq.base hx
 obtain ⟨_,⟨qi5,ci5,rfl,hi5,hb5,hb5b⟩,hc5⟩:=hq.elem hx
 have hi5n:=hi5.len
 refine xIx Tryz.underlying32 Zbd (h:=?_)
 replace hs:=ZmZ hs hx
 refine yL [_,_,_,_] Zd2 hc5 0 (h:=xAl [_,_,_,_] Zeu (h:=fun b6=>xS [_,_,_,_] 1 [_,_,_,_] Zbd (h:=tL2 (Zc (Za (xW ZdG (h:=x1 lk3 1 (h:=xM (h:=xD (h:=xR ZpE rfl (Zfh _ _ _ _) (h:=xN (h:=xM (h:=Zv (d:=24) rfl (fun g2=>?_) (fun g2=>?_))))))))))))))
 try simp only [sQ,ne_eq] at g2
 refine xP (h:=xP (h:=xP (h:=xP (h:=xP (h:=xP (h:=xP (h:=xP (h:=xP (h:=xT (h:=Zb (t:=true) rfl (fun _=>Za (xA (h:=Ze (Zk (Zy (Zk (ZN (Zy (Zk ?_))))))))) (fun h=>Bool.noConfusion h)))))))))))
 exact eR t1 ⟨Zd (ZkX (by rw [hs,if_neg];intro h;simp [h.1] at g2)),rfl,rfl⟩
 try simp only [sQ,ne_eq] at g2
 simp only [Bool.and_eq_true,decide_eq_true_eq] at g2
 refine xW ZdF (h:=x1 lk9 1 (h:=xW Zb5 (h:=x1 Zj6 1 (h:=xW ZeX (h:=x1 lk9 1 (h:=xB [(0,_),(1,_),(2,_)] [_,_,_] [_,_,_] ZsB Zr0 (h:=xR Zv7 rfl (Ziz _ _ ⟨x.fr,x.left,x.text⟩ _ hi5 oa oa) (h:=?_))))))))
 refine xN (h:=xF (h:=Zb rfl (fun g3=>?_) (fun g3=>?_)))
 try simp only [sQ,ne_eq] at g3
 refine Za (xA (h:=Ze (Zk (Zy (Zk (ZN (Zy (Zk ?_))))))))
 exact eR t1 ⟨Zd (ZkX (by rw [hs,if_neg];intro h;rw [Zd4,g3] at h;cases h.2)),rfl,rfl⟩
 try simp only [sQ,ne_eq] at g3
 refine wSk (Zj (xW ZdG (h:=x1 lk3 1 (h:=xA (h:=ZS (Zo (Zj (xM (h:=xD (h:=xA (h:=?_)))))))))))
 exact ZE (p.1+1,x.id) [0] so2 ⟨rfl,so,by rw [hs,if_pos ⟨g2,g3⟩],so,so⟩ t4 rfl
 try simp only [sQ,ne_eq] at g1
 rw [Zn7 oz,Zda] at hs
 refine ZD (ZW (ZG (Zs (Zo (Za (xW Zfn (h:=x1 lk3 0 (h:=xM (h:=xD (h:=xR ZpE rfl (Zfh _ _ _ _) (h:=xM (h:=Zv (d:=42) rfl (fun g1=>?_) (fun g1=>?_)))))))))))))
 try simp only [sQ,ne_eq] at g1
 refine xW Zbp (h:=x1 Zhm 0 (h:=xV Tryz.underlying32 (h:=ZbT (h:=xT (h:=xA (h:=Ze ?_))))))
 exact eR t1 ⟨Zd (by rw [← ZkW hs,Bool.eq_iff_iff];simp [g1,g1];try omega),rfl,rfl⟩
 try simp only [sQ,ne_eq] at g1
 refine xP (h:=xP (h:=xP (h:=xP (h:=xF (h:=xA (h:=Ze ?_))))))
 exact eR t1 ⟨Zd (by rw [← ZkW hs,Bool.eq_iff_iff];simp [g1,g1];try omega),rfl,rfl⟩

theorem Zag (aq:Option Addr) (cq:Nat) (q:DQueue) (B:Kn) (hq:SlK B aq cq 4 ZI q.items):ZA (pj J) 60 [.agg #[.int .i64 q.next,.slice aq q.items.length cq]] B [] (fun v B' Ls=>∃l a cp,Ls=[l]∧v = .agg #[.int .i64 q.next,.slice a q.items.length cp]∧ZU (B'.less B) l a cp 101 4 ZI q.items):=by
 refine cB 34 Tryz.func60 (h:=?_)
 have hqn:=hq.len
 refine Za (xBx [_,_] (h:=fun b1=>xAl [_,_] Zor (h:=fun b2=>tL2 (Za (xW Zfn (h:=x1 lk3 0 (h:=xBs [] [] Tryz.underlying32 Zbd Zeu (h:=fun b3=>xB [(0,_),(1,_)] [_,_] [_,_] Zvw Zor (h:=xAl [_,_] Zor (h:=fun b4=>xS [_,_] 3 [_,_] ZqU (h:=tL4 (Zc (Za (xA (h:=Zh (Zx (α:=Gh DItem) [0,1,2,3] (fun g=>[(4,.int .i64 g.k)]) [2,3] (fun g=>[g.l,Zap b4 [.int .i64 q.next,.slice g.a g.xs.length g.c] 34]) (fun g Bx=>g.k≤q.items.length∧g.xs=q.items.take g.k∧ZU (Bx.less B) g.l g.a g.c 101 4 ZI g.xs) (fun g=>q.items.length - g.k) ⟨0,0,_,_,_,[]⟩ t1 rfl (⟨Nat.zero_le _,rfl,.lit0⟩) (fun g B5 hle5 hI=>?_)))))))))))))))))
 obtain ⟨hk,hxs,hv⟩:=hI
 have hxn:=congrArg List.length hxs
 rw [List.length_take] at hxn
 replace hq:=up1 hle5 hq
 refine ZC [(0,_),(1,_),(2,_),(3,_),(4,_)] [_,_,_,_] t5 rfl (Zc (Za (xM (h:=xW Zbp (h:=x1 Zhm 0 (h:=xV Tryz.underlying32 (h:=ZF (h:=Zb rfl (fun g1=>?_) (fun g1=>?_)))))))))
 try simp only [sQ,ne_eq] at g1
 refine wSk (Zc (Zh (Za (xW Zbp (h:=x1 Zhm 0 (h:=xM (h:=?_)))))))
 obtain ⟨x,hx⟩:=ZX (xs:=q.items) (i:=g.k) om
 obtain ⟨bb7,oo7,rfl⟩:=hq.base hx
 obtain ⟨_,⟨qi8,ci8,rfl,hi8,hb8,hb8b⟩,hc8⟩:=hq.elem hx
 have hi8n:=hi8.len
 refine xIx Tryz.underlying32 Zbd (h:=yL [_,_,_,_] Zd2 hc8 0 (h:=xAl [_,_,_,_] Zeu (h:=fun b9=>xS [_,_,_,_] 4 [_,_,_,_] Zbd (h:=tL5 (Za (xBs [] [] Tryz.underlying99 sz9 zo9 (h:=fun b10=>xW Zb5 (h:=x1 Zj6 4 (h:=Zq (ZaG (R:=ZcT) 5 rfl (ZU.lit0 (R:=ZcT)) rfl rfl rfl Zs3 Ztn rfl rfl rfl hi8.rows ZcT.one rfl om (fun l11 p11 c11 hv11=>?_)))))))))))
 refine xW Zb5 (h:=xS [_] 4 [_,_,_,_] ZtQ (h:=tL6 (Zr5 5 rfl hv11 ZcT.any om3 hle5 (fun B12 hle12 hr12f=>?_))))
 have hr12:=hr12f.mono ZcT.mono Kn.less_le
 replace hv:=hv.mono ZI.mono (Kn.less_mono hle12)
 have hr12n:=hr12.len
 refine Zj (xW Zbp (h:=x1 Zhm 3 (h:=xL [_,_,_,_] Zd2 4 (h:=xBs [(0,_)] [_,_,_,_] Tryz.underlying32 Zbd Zeu (h:=fun b13=>Zq (Ze6 (z:=⟨x.id,x.fr,x.text,x.left⟩) (R:=ZI) 2 rfl hv rfl rfl rfl Zuc Zvu rfl rfl (Za6.box 6 rfl) rfl rfl (⟨_,_,rfl,hr12f,by first | assumption | omega | (simp;done) | (simp;omega),by first | assumption | omega | (simp;done) | (simp;omega)⟩) om (fun l14 p14 c14 hv14=>?_)))))))
 refine xW Zbp (h:=xS [_] 3 [_,_] ZtS (h:=ZS (Zo (Zj (xM (h:=xD (h:=xA (h:=?_))))))))
 exact ZE ⟨g.k+1,0,l14,p14,c14,(g.xs ++ [⟨x.id,x.fr,x.text,x.left⟩])⟩ [0,1,2,3] so2 ⟨so,by simp only [];rw [Zcb hx,hxs],hv14⟩ t5 rfl
 try simp only [sQ,ne_eq] at g1
 have hxe:g.xs=q.items:=by rw [hxs];exact List.take_of_length_le oz
 refine ZD (ZW (ZG (Zs (Zo (Za (xL [_,_] Zjz 3 (h:=xS [_,_] 1 [_,_] ZqU (h:=tL4 (Ze ?_)))))))))
 exact Zes .ret (.inl rfl) [_] [2] rfl ⟨⟨_,rfl,.inr ⟨[_,_],Zjz,ZbX 1 rfl rfl rfl,rfl⟩⟩,trivial⟩ ⟨_,_,_,rfl,by rw [← hxe];rfl,hxe ▸ hv⟩

theorem Zkc (q:Option Addr) (cp:Nat) (x:DItem) (B:Kn) (hx:SlK B q cp 1 ZcT x.left):ZA (pj J) 190 [.agg #[.int .i64 x.id,str x.fr,str x.text,.slice q x.left.length cp]] B [] (fun v B' Ls=>B'=B∧∃ins a c,Ls=[ins]∧v = .agg #[.int .i64 x.id,str x.fr,str x.text,.slice a x.left.length c]∧Zom 9 ins a c x.left):=by
 refine cB 9 Tryz.func190 (h:=?_)
 have hxn:=hx.len
 refine Za (xBx [_,_,_,_] (h:=fun b1=>xAl [_,_,_,_] Zeu (h:=fun b2=>tL2 (Za (xBs [] [] Tryz.underlying99 sz9 zo9 (h:=fun b3=>xW Zb5 (h:=x1 Zj6 0 (h:=Zq (ZaG (R:=ZcT) 2 rfl (ZU.lit0 (R:=ZcT)) rfl rfl rfl Zs3 Ztn rfl rfl rfl hx.rows ZcT.one rfl om (fun l4 p4 c4 hv4=>?_))))))))))
 refine xW Zb5 (h:=xS [_] 0 [_,_,_,_] ZtQ (h:=tL3 (Za (xL [_,_,_,_] Zd2 0 (h:=xS [_,_,_,_] 1 [_,_,_,_] Zbd (h:=tL3 (Ze ?_)))))))
 exact eN [2] rfl ⟨⟨_,rfl,.inr ⟨[_,_,_,_],Zd2,ZbX 1 rfl rfl rfl,rfl⟩⟩,trivial⟩ ⟨rfl,_,_,_,rfl,rfl,(hv4).anyK ZcT.any⟩

theorem Zmf (q:Option Addr) (m cp:Nat) (B:Kn):ZA (pj J) 189 [.slice q m cp] B [] (fun v B' Ls=>B'=B∧∃b,Ls=[Zap b [.slice q m cp] 32]∧v = .func (.func 205) #[] #[ptr ⟨b,0,none⟩]):=by
 refine cB 4 Tryz.func189 (h:=?_)
 refine Za (xBx [_] (h:=fun b1=>xA (h:=tL1 (Za (Zq (Zc8 (xs:=[]) (ys:=[_]) rfl rfl rfl rfl (xA (h:=Ze ?_))))))))
 exact eN [0] rfl t1 ⟨rfl,_,rfl,rfl⟩

theorem ZrR (l bc:Nat) (q:Option Addr) (cp:Nat) (xs:List DItem) (Inv:Nat→Kn→Cells→Prop) (s0:Cells) (B:Kn) (hq:SlK B q cp 4 ZI xs) (hcc:ZaB B bc 0 [.slice q xs.length cp]) (h0:Inv xs.length B s0) (hround :∀(j:Nat) (i:Int) (x:DItem) (row:List Value) (B':Kn) (s:Cells),B.le B'→Inv (j+1) B' s→xs[j]? = some x→ZI B' row x→∃lp,(l,Obj.loop lp)∈s∧lp.params.size=2∧Zoo (pj J) l lp.fn (Zjq lp.params lp.tmps [.int .i64 i,.agg row.toArray]) lp.assign lp.body B' s (fun B'' s'=>Inv j B'' s')):ZA (pj J) 205 [.func (.yield l) #[] #[],ptr ⟨bc,0,none⟩] B [s0] (fun v B' Ls=>∃s,Ls=[s]∧Inv 0 B' s):=by
 refine cB 19 Tryz.func205 (h:=?_)
 have hqn:=hq.len
 refine Za (Zq (Zp rfl rfl Zhm rfl (hcc _ 0 _ rfl) (xV Tryz.underlying32 (h:=xU (h:=xA (h:=Zh (Zx (α:=Int × Cells) [0,1] (fun g=>[(3,.int .i64 g.1)]) [0] (fun g=>[g.2]) (fun g Bx=>-1≤g.1∧g.1<xs.length∧Inv (g.1+1).toNat Bx g.2) (fun g=>(g.1+1).toNat) ((xs.length:Int) - 1,s0) t1 rfl (⟨so,so,by rw [show ((xs.length:Int) - 1+1).toNat=xs.length from by omega];exact h0⟩) (fun g B1 hle1 hI=>?_))))))))
 obtain ⟨hk1,hk,hI⟩:=hI
 replace hq:=up1 hle1 hq
 replace hcc:=hcc.mono hle1
 refine ZC [(0,_),(1,_),(3,_)] [_] t3 rfl (Zc (Za (xM (h:=Zdp (h:=Zb rfl (fun g1=>?_) (fun g1=>?_))))))
 try simp only [sQ,ne_eq] at g1
 refine wSk (Zc (Zh (Za (xM (h:=xM (h:=Zq (Zp rfl rfl Zhm rfl (hcc _ 0 _ rfl) (xM (h:=?_)))))))))
 obtain ⟨x,hx⟩:=Ztp (xs:=xs) (i:=g.1) om om
 obtain ⟨bb3,oo3,rfl⟩:=hq.base hx
 obtain ⟨_,⟨qi4,ci4,rfl,hi4,hb4,hb4b⟩,hc4⟩:=hq.elem hx
 have hi4n:=hi4.len
 refine xIx Tryz.underlying32 Zbd (h:=?_)
 obtain ⟨lp,hl,hs,hr⟩:=hround g.1.toNat g.1 x _ _ g.2 (oy) (by rw [show g.1.toNat+1=(g.1+1).toNat from by omega];exact hI) hx ⟨_,_,rfl,oy,oy,oy⟩
 refine yL [_,_,_,_] Zd2 hc4 0 (h:=Zq (ZqJ (j:=0) rfl hl rfl rfl rfl rfl hs.symm hr (fun Bc sc hlec hIc=>xN (h:=tL1 (Zb rfl (fun g2=>by cases g2) (fun g2=>?_))))))
 try simp only [sQ,ne_eq] at g2
 refine ZY (ZS (Zo (Zj (xM (h:=xU (h:=xA (h:=?_)))))))
 exact ZE (g.1 - 1,sc) [0] so2 ⟨so,so,by simp only [];rw [show (g.1 - 1+1).toNat=g.1.toNat from by omega];exact hIc⟩ t3 rfl
 try simp only [sQ,ne_eq] at g1
 refine ZD (ZW (ZG (Zs ?_)))
 exact Zes .normal (.inr rfl) [] [0] rfl trivial ⟨_,rfl,by rw [show (g.1+1).toNat=0 from by omega] at hI;exact hI⟩

theorem ZjU (q:Option Addr) (cp:Nat) (x:DQueue) (B:Kn) (hx:SlK B q cp 4 ZI x.items):ZA (pj J) 148 [.agg #[.int .i64 x.next,.slice q x.items.length cp]] B [] (fun v B' Ls=>∃s,Ls=[s]∧ZfQ 9 232 v x.items s):=by
 refine Zjn 17 Tryz.func148 rfl rfl rfl (Nat.le_of_ble_eq_true rfl) ?_
 refine ZdW (xBx [_,_] (h:=fun b1=>xA (h:=ZmM [(0,_),(1,_),(2,_)] [_] t3 rfl (ZdW (xAl [_] Ztz (h:=fun b2=>ZmM [(0,_),(1,_),(2,_),(3,_)] [_,_] t4 rfl (Zss (ZdW (xW Zbp (h:=x1 Zhm 0 (h:=xC Zur rfl (Zmf _ _ _ _) (h:=?_))))))))))))
 rintro _ B3 _ hle3 ⟨rfl,b3,rfl,rfl⟩
 refine ZmM [(0,_),(1,_),(2,_),(3,_),(8,_)] [_,_,_] t5 rfl (ZqS (ZtP 2 rfl (fun B4 hle4 hm4=>?_)))
 replace hx:=up1 hle4 hx
 have hcc:=ZbH hm4
 refine ZtO [1] rfl (ZoH (J:=fun B' L'=>∃v s,L'=[Zap b2 [v] 193,s]∧ZfQ 9 232 v x.items s) (cap:=[_]) rfl Zuj (fun lp l hTn hTS hps hasg hbd hst hlp=>?_) (fun r B9 L9 hle9 hJ=>?_))
 refine ZA.mono (ZrR l _ _ _ x.items (fun j B9 s9=>∃v cells,s9.Perm ((l,Obj.loop lp) :: (Zap b2 [v] 193 ++ cells))∧ZfQ 9 232 v (x.items.drop j) cells) _ _ hx hcc ⟨.pointer none,[],by simp,by rw [List.drop_length];exact ⟨rfl,rfl⟩⟩ ?_) ?_
 rintro j i y row B9 s9 hle9 ⟨v,cells,hp,hl⟩ hy hrow
 obtain ⟨qy,cy,rfl,hy5,hy6,hy7⟩:=hrow
 have hy5n:=hy5.len
 obtain ⟨p9,rfl⟩:=hl.ptr
 obtain ⟨hA,hN⟩:=ZpS (a:=9) (b:=10) (x:=.int .i64 i) (y:=.agg #[.int .i64 y.id,str y.fr,str y.text,.slice qy y.left.length cy]) hTS hTn rfl rfl
 refine ⟨lp,hp.mem_iff.2 (List.mem_cons_self ..),by rw [hps];rfl,?_⟩
 rw [hps,hasg,hbd]
 refine Zm1 (L:=[Zap b2 [.pointer p9] 193,cells]) (lp:=lp) hN [(3,_),(9,_),(10,_)] (hA.sub t3) (by simpa using hp) hst ?_
 refine Zj (xAl [_,_,_,_] Zeu (h:=fun b4=>xS [_,_,_,_] 3 [_,_,_,_] Zbd (h:=⟨rfl,rfl,rfl,(tL4 (Zh (Z2 (keeps _ [1,3] _) mo kr ⟨Kn.le.refl _,Zba.refl _ _⟩ (fun _ _=>?_))))⟩)))
 refine aT 0 rfl (ZR fun D B L hI=>Z6 [_,_,_,_] rfl rfl Zd2 rfl (ZbX 3 (hI.2.2.1.trans rfl) rfl rfl) r4) (h:=aT 2 rfl (ZR fun D B L hI=>Zp rfl rfl Zrg rfl (atL 1 (hI.2.1.trans rfl) rfl rfl) r4) (h:=Zz 1 kr rfl kr (ZaD rfl rfl Zuq rfl (Zkc _ _ y _ hy5) ?_)))
 rintro _ B5 _ hle5 ⟨rfl,ins5,a5,c5,rfl,rfl,hs5⟩
 refine ⟨⟨Kn.le.refl _,t2⟩,(aT 3 rfl (ZR fun D B L hI=>Zav (parts:=[(0,_),(1,_)]) [_,_,_,_,_] [_,_,_,_,_] rfl rfl ZtX Zty rfl rfl rfl r4) (h:=Zz 4 kr rfl kr (Zsn (l:=[_,_,_,_,_]) rfl rfl rfl rfl (fun b6=>?_))))⟩
 refine ⟨⟨Kn.le.refl _,t2⟩,(Z0 5 kr rfl kr kr kr (ZV [_] 1 [_] rfl rfl ZtT rfl rfl rfl rfl rfl rfl rfl rfl ?_))⟩
 refine ZS (⟨rfl,rfl,(l,Obj.loop lp) :: (Zap b2 [ptr ⟨b6,0,none⟩] 193 ++ (Zap b6 ([.int .i64 y.id,str y.fr,str y.text,.slice a5 y.left.length c5] ++ [.pointer p9]) 232 ++ (ins5 ++ cells))),Zap b4 [.int .i64 y.id,str y.fr,str y.text,.slice qy y.left.length cy] 101,?_,_,_,.refl _,?_⟩)
 refine (Zam [0,1,5,4,2] _ _ _ rfl).trans ?_
 rw [hlp]
 simp [Zap]
 rw [Zn6 hy]
 exact ⟨_,_,_,_,_,rfl,.refl _,⟨_,_,rfl,hs5,oy,oy,oy⟩,hl⟩
 rintro _ B9 _ hle9 ⟨s9,rfl,v,cells,hp,hl⟩
 exact ⟨[Zap b2 [v] 193,cells],_,rfl,by simpa using hp,v,cells,rfl,by simpa using hl⟩
 obtain ⟨v,s9,rfl,hl⟩:=hJ
 refine ZS (Zo (Za (x1 Zrg 0 (h:=xA (h:=tL3 (Ze ?_))))))
 exact ⟨.inl rfl,r,2,rfl,rfl,[_],[_],t1,⟨_,List.perm_append_comm⟩,_,rfl,hl⟩

theorem Zm4 (nx:Int) (v:Value) (xs:List DItem) (cells:Cells) (B:Kn) (hn:xs.length≤2000000) (hv:ZfQ 9 232 v xs cells):ZA (pj J) 147 [.int .i64 nx,v] B [cells] (fun v B' Ls=>B'=B∧∃l q c,Ls=[l]∧v = .agg #[.int .i64 nx,.slice q xs.length c]∧ZaR l q c 101 4 (Za4 9) xs):=by
 refine cB 27 Tryz.func147 (h:=?_)
 obtain ⟨p,rfl⟩:=hv.ptr
 refine Za (xAl [_,_] Zor (h:=fun b1=>tL2 (Za (xM (h:=xBs [] [] Tryz.underlying32 Zbd Zeu (h:=fun b2=>xB [(0,_),(1,_)] [_,_] [_,_] Zvw Zor (h:=xAl [_,_] Zor (h:=fun b3=>xS [_,_] 3 [_,_] ZqU (h:=tL4 (Zc (Za (xM (h:=xA (h:=Zh (Zx (α:=QOf) [0,1,4,5] (fun g=>[(6,.pointer g.p)]) [0,2,3] (fun g=>[g.cells,g.l,Zap b3 [.int .i64 nx,.slice g.q g.ys.length g.c] 34]) (fun g Bx=>Bx=B∧g.ys ++ g.xs=xs∧ZaR g.l g.q g.c 101 4 (Za4 9) g.ys∧ZfQ 9 232 (.pointer g.p) g.xs g.cells) (fun g=>g.xs.length) ⟨p,[],xs,_,_,_,_⟩ t1 rfl (⟨rfl,rfl,.lit0,hv⟩) (fun g B4 hle4 hI=>?_))))))))))))))))
 obtain ⟨rfl,hxs,hvd,hl⟩:=hI
 refine ZC [(0,_),(1,_),(4,_),(5,_),(6,_)] [_,_,_,_] t5 rfl (Zc (Za (xM (h:=Zq (Zr8 rfl rfl rfl rfl rfl (ZpB Tryz.underlying193) (Zb rfl (fun g1=>?_) (fun g1=>?_)))))))
 obtain ⟨y,ys,b8,q8,c8,np,ins8,rest8,hp8,hrest,hperm,hy5,hy6,hy7,hy8,hl8⟩:=hl.more (by simpa using g1)
 rw [hp8]
 have hlen:=congrArg List.length hxs
 rw [List.length_append,hrest,List.length_cons] at hlen
 replace hlen:g.ys.length+1≤2000000:=by omega
 refine Zgg 0 rfl hperm (tL6 (wSk (Zc (Zh (Z2 (keeps _ [0,3] _) mo kr ⟨Kn.le.refl _,Zba.refl _ _⟩ (fun _ _=>?_))))))
 refine aW 0 rfl Zbp (h:=aT 1 rfl (ZR fun D B L hI=>Zp rfl rfl Zhm rfl (atL 3 (hI.2.2.1.trans rfl) rfl rfl) r4) (h:=aM 2 rfl (h:=aNc 3 rfl (h:=aW 4 rfl Zrw (h:=aT 5 rfl (ZR fun D B L hI=>Z6 [_,_,_,_] rfl rfl Zd2 rfl (ZbX 0 (hI.2.1.trans rfl) rfl rfl) r4) (h:=Zz 6 kr rfl kr (Zu (parts:=[(0,_)]) [_,_,_,_] rfl rfl Tryz.underlying32 Zbd Zeu rfl rfl rfl rfl rfl (fun b5=>?_))))))))
 refine ⟨⟨Kn.le.refl _,t2⟩,(Zz 7 kr rfl kr (Zsp (R:=Za4 9) (z:=y) 2 4 rfl rfl rfl hvd rfl rfl rfl Zuc Zvu rfl rfl (Za6.box 6 rfl) rfl rfl ⟨_,_,rfl,hy5,hy6,hy7,hy8⟩ oz (fun l9 q9 c9 hv9=>?_)))⟩
 refine ⟨⟨Kn.le.refl _,t2⟩,(aW 8 rfl Zbp (h:=Z0 9 kr rfl kr kr kr (ZV [_] 3 [_,_] rfl rfl ZtS rfl rfl rfl rfl rfl rfl rfl rfl ?_)))⟩
 refine ZS (Zo (Zj (xM (h:=xNc (h:=xW Zrv (h:=x1 Zrg 0 (h:=xA (h:=?_))))))))
 exact ZE ⟨np,g.ys ++ [y],ys,l9,q9,c9,rest8⟩ [5,1,2,3] (by rw [hrest];simp) ⟨rfl,by rw [← hxs,hrest];simp,hv9,hl8⟩ t5 rfl
 rw [hl.done (by simpa using g1),List.append_nil] at hxs
 subst hxs
 refine ZD (ZW (ZG (Zs (Zo (Za (xL [_,_] Zjz 3 (h:=xS [_,_] 1 [_,_] ZqU (h:=tL4 (Ze ?_)))))))))
 exact eN [2] rfl ⟨⟨_,rfl,.inr ⟨[_,_],Zjz,ZbX 1 rfl rfl rfl,rfl⟩⟩,trivial⟩ ⟨rfl,_,_,_,rfl,rfl,hvd⟩

theorem ZiH (q:Option Addr) (cp:Nat) (x:DQueue) (B:Kn) (hx:SlK B q cp 4 ZI x.items):ZA (pj J) 110 [.agg #[.int .i64 x.next,.slice q x.items.length cp]] B [] (fun v B' Ls=>∃l q c,Ls=[l]∧v = .agg #[.int .i64 x.next,.slice q x.items.length c]∧ZaR l q c 101 4 (Za4 9) x.items):=by
 refine cB 8 Tryz.func110 (h:=?_)
 have hxn:=hx.len
 refine Za (xBx [_,_] (h:=fun b1=>xAl [_,_] Zor (h:=fun b2=>tL2 (Zc (Z2 (keeps _ [0] _) mo kr ⟨Kn.le.refl _,Zba.refl _ _⟩ (fun _ _=>?_))))))
 refine aW 0 rfl Zfn (h:=aT 1 rfl (ZR fun D B L hI=>Zp rfl rfl lk3 rfl (atL 0 (hI.2.1.trans rfl) rfl rfl) r4) (h:=aT 2 rfl (ZR fun D B L hI=>Z6 [_,_] rfl rfl Zjz rfl (ZbX 0 (hI.2.1.trans rfl) rfl rfl) r4) (h:=Zz 3 kr rfl kr (ZaD rfl rfl ZuI rfl (ZjU _ _ x _ hx) ?_))))
 rintro _ B3 _ hle3 ⟨sl3,rfl,hl3⟩
 refine ⟨⟨hle3,t1⟩,(Zz 4 kr rfl kr (ZdU [2] rfl rfl rfl rfl ZuJ rfl (Zm4 _ _ _ _ _ oa hl3) ?_))⟩
 rintro _ B4 _ hle4 ⟨rfl,ld4,ad4,cd4,rfl,rfl,hd4⟩
 refine ⟨⟨hle3,t1⟩,(Z0 5 kr rfl kr kr kr (ZV [_,_] 1 [_,_] rfl rfl ZqU rfl rfl rfl rfl rfl rfl rfl rfl ?_))⟩
 refine Zo (tL3 (Ze ?_))
 exact eN [2] rfl ⟨⟨_,rfl,.inr ⟨[_,_],Zjz,ZbX 1 rfl rfl rfl,rfl⟩⟩,trivial⟩ ⟨_,_,_,rfl,rfl,hd4⟩

theorem ZnB (q:Option Addr) (m cp:Nat) (B:Kn):Zaa (pj J) 241 [.slice q m cp] B (.int .i64 m):=by
 refine cB 5 Tryz.func241 (h:=?_)
 refine Za (xA (h:=Za (xM (h:=xV Tryz.underlying210 (h:=xA (h:=Ze ?_))))))
 exact eR t1 ⟨rfl,rfl,rfl⟩

theorem Zfl (q:Option Addr) (cp:Nat) (xs:List Int) (i j:Nat) (a b:Int) (hi:xs[i]? = some a) (hj:xs[j]? = some b) (B:Kn) (hx:SlK B q cp 1 ZdQ xs):Zaa (pj J) 242 [.slice q xs.length cp,.int .i64 i,.int .i64 j] B (.bool (decide (a<b))):=by
 refine cB 16 Tryz.func242 (h:=?_)
 have hil:=Zbn hi
 have hjl:=Zbn hj
 refine Za (xA (h:=Zc (Z2 (same _ _) mo kr ⟨rfl,rfl⟩ (fun _ _=>?_))))
 refine aM 0 rfl (h:=aM 1 rfl (h:=?_))
 obtain ⟨z,hz⟩:=ZX (xs:=xs) (i:=i) om
 obtain ⟨bb2,oo2,rfl⟩:=hx.base hz
 obtain ⟨_,rfl,hc3⟩:=hx.elem hz
 refine aIx 2 rfl Tryz.underlying207 sz3 (h:=aT 3 rfl (Zal fun D=>Zp rfl rfl lk3 rfl (hc3 _ 0 _ rfl) r4) (h:=aM 4 rfl (h:=aM 5 rfl (h:=?_))))
 obtain ⟨w,hw⟩:=ZX (xs:=xs) (i:=j) om
 obtain ⟨_,rfl,hc5⟩:=hx.elem hw
 refine aIx 6 rfl Tryz.underlying207 sz3 (h:=?_)
 rw [hi] at hz
 cases hz
 rw [hj] at hw
 cases hw
 refine aT 7 rfl (Zal fun D=>Zp rfl rfl lk3 rfl (hc5 _ 0 _ rfl) r4) (h:=ZkF 8 rfl (h:=aA 9 rfl (h:=ZB kr kr ?_)))
 refine Zo (Ze ?_)
 exact eR t1 ⟨rfl,rfl,rfl⟩

theorem Zpm (b:Nat) (q:Option Addr) (cp:Nat) (xs:List Int) (l:Cells) (z:Int) (hn:xs.length≤2000000) (B:Kn) (hv:ZU B l q cp 3 1 ZdQ xs):ZA (pj J) 244 [ptr ⟨b,0,none⟩,.iface 3 (.int .i64 z)] B [Zap b [.slice q xs.length cp] 210,l] (fun v B' Ls=>B'=B∧∃q' c' l',Ls=[Zap b [.slice q' (xs ++ [z]).length c'] 210,l']∧ZU B l' q' c' 3 1 ZdQ (xs ++ [z])):=by
 refine cB 13 Tryz.func244 (h:=?_)
 refine Z2 (keeps _ [0] _) mo kr ⟨Kn.le.refl _,Zba.refl _ _⟩ (fun _ _=>?_)
 refine aM 0 rfl (h:=aM 1 rfl (h:=aNc 2 rfl (h:=aT 3 rfl (ZR fun D B L hI=>Zp rfl rfl Zex rfl (atL 0 (hI.2.1.trans rfl) rfl rfl) r4) (h:=aM 4 rfl (h:=aT 5 rfl (ZR fun D B L hI=>Zip rfl rfl Tryz.underlying3 rfl rfl r4) (h:=Zz 6 kr rfl kr (Zu (parts:=[(0,_)]) [_] rfl rfl Tryz.underlying207 sz3 zo3 rfl rfl rfl rfl rfl (fun b1=>?_))))))))
 refine ⟨⟨Kn.le.refl _,t1⟩,(Zz 7 kr rfl kr (Ze6 (z:=z) (R:=ZdQ) 1 rfl hv rfl rfl rfl Zud ZtV rfl rfl (Za6.box 2 rfl) rfl rfl (rfl) om (fun l2 p2 c2 hv2=>?_)))⟩
 refine ⟨⟨Kn.le.refl _,t1⟩,(aNc 8 rfl (h:=Z0 9 kr rfl kr kr kr (ZV [_] 0 [_] rfl rfl Zsv rfl rfl rfl rfl rfl rfl rfl rfl ?_)))⟩
 exact Zes .normal (.inr rfl) [] [0,1] rfl trivial ⟨rfl,_,_,_,rfl,hv2⟩

theorem Zrq (b:Nat) (q:Option Addr) (cp:Nat) (xs:List Int) (l:Cells) (z:Int) (hz:xs[xs.length - 1]? = some z) (hn:xs.length≤2000000) (B:Kn) (hv:ZU B l q cp 3 1 ZdQ xs):ZA (pj J) 243 [ptr ⟨b,0,none⟩] B [Zap b [.slice q xs.length cp] 210,l] (fun v B' Ls=>B'=B∧v = .iface 3 (.int .i64 z)∧Ls=[Zap b [.slice q (xs.length - 1) cp] 210,l]∧ZU B l q cp 3 1 ZdQ (xs.take (xs.length - 1))):=by
 refine cB 25 Tryz.func243 (h:=?_)
 have hl1:=Zbn hz
 have hcp:=hv.cap
 have hv9:=hv.take (k:=xs.length - 1) oz
 have hs0:=hv.slice0 (sz:=1)
 refine Za (xA (h:=Za (xM (h:=xNc (h:=x1 Zex 0 (h:=xV Tryz.underlying210 (h:=Zq (ZhD (r:=((xs.length - 1:Nat):Int)) rfl rfl rfl rfl (by rw [show ((xs.length:Int) - 1)=((xs.length - 1:Nat):Int) from by omega];exact ZbQ oz oz) ?_))))))))
 refine xA (h:=Za (xM (h:=xNc (h:=x1 Zex 0 (h:=xM (h:=?_))))))
 obtain ⟨w,hw⟩:=ZX (xs:=xs) (i:=(xs.length - 1)) om
 obtain ⟨bb2,_,hp2,rfl,hw2,hc2⟩:=hv.row hw
 refine xIp hp2 Tryz.underlying207 sz3 (h:=?_)
 rw [hz] at hw
 cases hw
 refine Zq (Zp rfl rfl lk3 rfl (hc2 _ 1 rfl 0 _ rfl) (xA (h:=Za (xM (h:=xM (h:=xNc (h:=x1 Zex 0 (h:=xM (h:=Zq (ZhE rfl rfl Tryz.underlying207 sz3 rfl (a:=0) (b:=xs.length - 1) rfl ⟨_,_,rfl,rfl⟩ oz oz ?_))))))))))
 rw [hs0]
 refine xNc (h:=xS [_] 0 [_] Zsv (h:=tL2 (Za (xM (h:=Zq (Zdq rfl rfl Tryz.underlying3 rfl rfl (xA (h:=Ze ?_))))))))
 exact eN [0,1] rfl t1 ⟨rfl,rfl,rfl,hv9⟩

theorem Zfk (q:Option Addr) (cp:Nat) (xs:List Int) (l:Cells) (i j:Nat) (a b:Int) (hi:xs[i]? = some a) (hj:xs[j]? = some b) (hn:xs.length≤2000000) (B:Kn) (hv:ZU B l q cp 3 1 ZdQ xs):ZA (pj J) 245 [.slice q xs.length cp,.int .i64 i,.int .i64 j] B [l] (fun v B' Ls=>B'=B∧∃l',Ls=[l']∧ZU B l' q cp 3 1 ZdQ ((xs.set i b).set j a)):=by
 refine cB 20 Tryz.func245 (h:=?_)
 have hil:=Zbn hi
 have hjl:=Zbn hj
 refine Z2 (keeps _ [0] _) mo kr ⟨Kn.le.refl _,Zba.refl _ _⟩ (fun _ _=>?_)
 refine aM 0 rfl (h:=aM 1 rfl (h:=aM 2 rfl (h:=aM 3 rfl (h:=aM 4 rfl (h:=aM 5 rfl (h:=?_))))))
 obtain ⟨y,hy⟩:=ZX (xs:=xs) (i:=j) om
 obtain ⟨bb2,_,hp2,rfl,hw2,hc2⟩:=hv.row hy
 refine aT 6 rfl (ZR fun D B L hI=>ZjC hp2 rfl rfl Tryz.underlying207 sz3 rfl rfl om om r4) (h:=?_)
 refine aT 7 rfl (ZR fun D B L hI=>Zp rfl rfl lk3 rfl (hc2 _ 0 (hI.2.1.trans rfl) 0 _ rfl) r4) (h:=aM 8 rfl (h:=aM 9 rfl (h:=?_)))
 obtain ⟨x,hx⟩:=ZX (xs:=xs) (i:=i) om
 obtain ⟨bb4,_,hp4,rfl,hw4,hc4⟩:=hv.row hx
 refine aT 10 rfl (ZR fun D B L hI=>ZjC hp4 rfl rfl Tryz.underlying207 sz3 rfl rfl om om r4) (h:=?_)
 refine aT 11 rfl (ZR fun D B L hI=>Zp rfl rfl lk3 rfl (hc4 _ 0 (hI.2.1.trans rfl) 0 _ rfl) r4) (h:=?_)
 obtain ⟨bb5,_,hp5,rfl,hw5,hc5⟩:=hv.row hx
 refine aT 12 rfl (ZR fun D B L hI=>ZjC hp5 rfl rfl Tryz.underlying207 sz3 rfl rfl om om r4) (h:=?_)
 refine ZkE 13 kr rfl kr kr (Zgf (k:=i) (off:=0) (y) [_] 0 hv hp5 hx rfl rfl sz3 rfl rfl rfl rfl rfl rfl ((fun row h=>by cases h;rfl)) (fun l6 hv6=>?_))
 obtain ⟨w,hw⟩:=ZX (xs:=(xs.set i (y))) (i:=j) om
 obtain ⟨bb8,_,hp8,rfl,hw8,hc8⟩:=hv6.row hw
 refine aT 14 rfl (ZR fun D B L hI=>ZjC hp8 rfl rfl Tryz.underlying207 sz3 rfl rfl om om r4) (h:=?_)
 refine Z0 15 kr rfl kr kr kr (Zgf (k:=j) (off:=0) (x) [_] 0 hv6 hp8 hw rfl rfl sz3 rfl rfl rfl rfl rfl rfl ((fun row h=>by cases h;rfl)) (fun l9 hv9=>?_))
 rw [hi] at hx
 cases hx
 rw [hj] at hy
 cases hy
 exact Zes .normal (.inr rfl) [] [0] rfl trivial ⟨rfl,_,rfl,hv9⟩

theorem Zpq (b:Nat) (q:Option Addr) (cp:Nat) (xs:List Int) (l:Cells) (j:Nat) (hj:j<xs.length) (hn:xs.length≤2000000) (hh:Ze2 xs j) (B:Kn) (hv:ZU B l q cp 3 1 ZdQ xs):ZA (pj J) 196 [.iface 209 (ptr ⟨b,0,none⟩),.int .i64 j] B [Zap b [.slice q xs.length cp] 210,l] (fun v B' Ls=>B'=B∧∃ys l',Ls=[Zap b [.slice q ys.length cp] 210,l']∧ZU B l' q cp 3 1 ZdQ ys∧ys.Perm xs∧ZcV ys):=by
 refine cB 23 Tryz.func196 (h:=?_)
 refine Zh (Zx (α:=Nat × List Int × Cells) [0] (fun g=>[(1,.int .i64 g.1)]) [0,1] (fun g=>[Zap b [.slice q g.2.1.length cp] 210,g.2.2]) (fun g Bx=>Bx=B∧g.1<g.2.1.length∧g.2.1.Perm xs∧Ze2 g.2.1 g.1∧ZU B g.2.2 q cp 3 1 ZdQ g.2.1) (fun g=>g.1) (j,xs,l) t1 rfl (⟨rfl,hj,.refl _,hh,hv⟩) (fun g B1 hle1 hI=>?_))
 obtain ⟨rfl,hk,hp,hb,hv⟩:=hI
 have hpl:=hp.length_eq
 refine ZC [(0,_),(1,_)] [_,_] t2 rfl (Zh (Za (xM (h:=Zq (ZhD rfl rfl rfl rfl (ZbQ oz oz) ?_)))))
 refine Zq (Zr4 (r:=(((g.1 - 1) / 2:Nat):Int)) rfl rfl rfl rfl oz (by rw [show Int.tdiv ((g.1:Int) - 1) 2=(((g.1 - 1) / 2:Nat):Int) from ZtL g.1];exact ZbQ oz oz) ?_)
 refine xA (h:=Zc (Za (xM (h:=xM (h:=Zil (h:=xM (h:=Zv (d:=11) rfl (fun g1=>?_) (fun g1=>?_))))))))
 try simp only [sQ,ne_eq] at g1
 refine xP (h:=xP (h:=xP (h:=xP (h:=xP (h:=xT (h:=Zb (t:=true) rfl (fun _=>ZD (ZW (Zek rfl (ZG (Zs ?_))))) (fun h=>Bool.noConfusion h)))))))
 exact Zes .normal (.inr rfl) [] [0,1] rfl trivial ⟨rfl,_,_,rfl,hv,hp,ZqN (by rw [show g.1=0 from by omega] at hb;exact hb)⟩
 try simp only [sQ,ne_eq] at g1
 refine xM (h:=xM (h:=xM (h:=Zq (ZeK 1 rfl rfl rfl Zn4 rfl rfl (ZaZ Zde Tryz.underlying209 Zex (atL 0 rfl rfl rfl)) (Zaa.borrow fun hm2=>Zfl _ _ _ _ _ _ _ (ZaF oz) (ZaF oz) _ (hv.lend ZdQ.mono hm2 om)) ?_))))
 refine xN (h:=xF (h:=Zb rfl (fun g2=>?_) (fun g2=>?_)))
 try simp only [sQ,ne_eq] at g2
 refine ZD (ZW (Zek rfl (ZG (Zs ?_))))
 exact Zes .normal (.inr rfl) [] [0,1] rfl trivial ⟨rfl,_,_,rfl,hv,hp,ZqP hb (by simpa using g2)⟩
 try simp only [sQ,ne_eq] at g2
 refine wSk (Za (xM (h:=xM (h:=xM (h:=Zq (ZfU [1] rfl rfl rfl rfl Zn3 rfl rfl (ZaZ Zdd Tryz.underlying209 Zex (atL 0 rfl rfl rfl)) (Zfk _ _ _ _ _ _ _ _ (ZaF oz) (ZaF oz) oz _ hv) ?_))))))
 rintro _ B3 _ hle3 ⟨rfl,l3,rfl,hv3⟩
 refine tL2 (Zj (xM (h:=xA (h:=ZS ?_))))
 rw [← ZcF g.2.1 ((g.1 - 1) / 2) g.1]
 exact ZE ((g.1 - 1) / 2,(swp g.2.1 ((g.1 - 1) / 2) g.1),l3) [0,1] (so) ⟨rfl,by have:=ZcF g.2.1 ((g.1 - 1) / 2) g.1;simp only [];omega,(Ze8 oz oz).trans hp,ZqO oz oz hb (by simpa using g2),hv3⟩ t2 rfl

theorem ZlV (b:Nat) (q:Option Addr) (cp:Nat) (xs:List Int) (l:Cells) (z:Int) (hn:xs.length<2000000) (hh:ZcV xs) (B:Kn) (hv:ZU B l q cp 3 1 ZdQ xs):ZA (pj J) 165 [.iface 209 (ptr ⟨b,0,none⟩),.iface 3 (.int .i64 z)] B [Zap b [.slice q xs.length cp] 210,l] (fun v B' Ls=>B'=B∧∃q' c' ys l',Ls=[Zap b [.slice q' ys.length c'] 210,l']∧ZU B l' q' c' 3 1 ZdQ ys∧ys.Perm (xs ++ [z])∧ZcV ys):=by
 refine cB 12 Tryz.func165 (h:=?_)
 refine Za (xM (h:=xM (h:=Zq (ZfU [0,1] rfl rfl rfl rfl Zug rfl rfl (Zjb ZlJ Tryz.underlying209) (Zpm _ _ _ _ _ _ oz _ hv) ?_))))
 rintro _ B1 _ hle1 ⟨rfl,q1,c1,l1,rfl,hv1⟩
 refine tL2 (Zj (xM (h:=xM (h:=Zq (ZeK 1 rfl rfl rfl Zs5 rfl rfl (ZaZ ZiN Tryz.underlying209 Zex (atL 0 rfl rfl rfl)) (Zaa.borrow fun hm2=>ZnB _ _ _ _) (Zq (ZhD (r:=((xs.length:Nat):Int)) rfl rfl rfl rfl ((congrArg _ (show _=((xs.length:Nat):Int) from by rw [List.length_append,List.length_singleton];omega)).trans (ZbQ oz oz)) ?_)))))))
 refine xK [0,1] rfl Zun rfl (Zpq _ _ _ _ _ _ (by simp) (by simp;omega) (ZoU hh) _ hv1) (h:=?_)
 rintro _ Bu _ hleu ⟨rfl,ysu,lu,rfl,hvu,hpu,hhu⟩
 exact Zes .normal (.inr rfl) [] [0,1] rfl trivial ⟨rfl,_,_,_,_,rfl,hvu,hpu,hhu⟩

theorem ZlX (b:Nat) (q:Option Addr) (cp:Nat) (xs:List Int) (l:Cells) (m:Nat) (hm:m≤xs.length) (hm0:0<xs.length) (hn:xs.length≤2000000) (hh:Zeg xs m 0) (B:Kn) (hv:ZU B l q cp 3 1 ZdQ xs):ZA (pj J) 197 [.iface 209 (ptr ⟨b,0,none⟩),.int .i64 0,.int .i64 m] B [Zap b [.slice q xs.length cp] 210,l] (fun v B' Ls=>B'=B∧∃ys l',Ls=[Zap b [.slice q ys.length cp] 210,l']∧ZU B l' q cp 3 1 ZdQ ys∧ys.Perm xs∧ZpX ys m∧(∀k,m≤k→hat ys k=hat xs k)):=by
 refine cB 48 Tryz.func197 (h:=?_)
 refine Za (xA (h:=Za (xM (h:=xA (h:=Zc (Zh (Zx (α:=Nat × List Int × Cells) [0,1,2,6] (fun g=>[(7,.int .i64 g.1)]) [0,1] (fun g=>[Zap b [.slice q g.2.1.length cp] 210,g.2.2]) (fun g Bx=>Bx=B∧g.1<g.2.1.length∧g.2.1.Perm xs∧Zeg g.2.1 m g.1∧(∀k,m≤k→hat g.2.1 k=hat xs k)∧ZU B g.2.2 q cp 3 1 ZdQ g.2.1) (fun g=>xs.length - g.1) (0,xs,l) t1 rfl (⟨rfl,hm0,.refl _,hh,fun _ _=>rfl,hv⟩) (fun g B1 hle1 hI=>?_))))))))
 obtain ⟨rfl,hk,hp,hb,hs,hv⟩:=hI
 have hpl:=hp.length_eq
 refine ZC [(0,_),(1,_),(2,_),(6,_),(7,_)] [_,_] t5 rfl (Zh (Za (xM (h:=Zq (ZtG (r:=((2*g.1:Nat):Int)) rfl rfl rfl rfl ((congrArg _ (show _=((2*g.1:Nat):Int) from by omega)).trans (ZbQ oz oz)) ?_)))))
 refine Zq (Zfw (r:=((2*g.1+1:Nat):Int)) rfl rfl rfl rfl ((congrArg _ (show _=((2*g.1+1:Nat):Int) from by omega)).trans (ZbQ oz oz)) ?_)
 refine xA (h:=Zc (Za (xM (h:=xM (h:=Zdp (h:=xM (h:=Zv (d:=18) rfl (fun g1=>?_) (fun g1=>?_))))))))
 try simp only [sQ,ne_eq] at g1
 refine xP (h:=xP (h:=xT (h:=Zb (t:=true) rfl (fun _=>ZD (ZW (Zek rfl (ZG (Zs (Zo (Za (xM (h:=xM (h:=ZdM (h:=xA (h:=Ze ?_)))))))))))) (fun h=>Bool.noConfusion h))))
 exact eN [0,1] rfl t1 ⟨rfl,_,_,rfl,hv,hp,Zn8 hb oz,hs⟩
 try simp only [sQ,ne_eq] at g1
 refine xM (h:=ZF (h:=xF (h:=Zb rfl (fun g2=>by have:=of_decide_eq_true g2;omega) (fun g2=>?_))))
 try simp only [sQ,ne_eq] at g2
 refine wSk (Za (xM (h:=xA (h:=Zc (Za (xM (h:=Zq (Zfw (r:=((2*g.1+1+1:Nat):Int)) rfl rfl rfl rfl ((congrArg _ (show _=((2*g.1+1+1:Nat):Int) from by omega)).trans (ZbQ oz oz)) ?_))))))))
 refine xA (h:=Za (xM (h:=xM (h:=ZF (h:=xM (h:=Zv (d:=28) rfl (fun g3=>?_) (fun g3=>?_)))))))
 try simp only [sQ,ne_eq] at g3
 refine xM (h:=xM (h:=xM (h:=Zq (ZeK 1 rfl rfl rfl Zn4 rfl rfl (ZaZ Zde Tryz.underlying209 Zex (atL 0 rfl rfl rfl)) (Zaa.borrow fun hm2=>Zfl _ _ _ _ _ _ _ (ZaF oz) (ZaF oz) _ (hv.lend ZdQ.mono hm2 om)) ?_))))
 refine xT (h:=Zb rfl (fun g4=>?_) (fun g4=>?_))
 try simp only [sQ,ne_eq] at g4
 refine Zj (xM (h:=xA (h:=Zo (Zc (Za (xM (h:=xM (h:=xM (h:=Zq (ZeK 1 rfl rfl rfl Zn4 rfl rfl (ZaZ Zde Tryz.underlying209 Zex (atL 0 rfl rfl rfl)) (Zaa.borrow fun hm3=>Zfl _ _ _ _ _ _ _ (ZaF oz) (ZaF oz) _ (hv.lend ZdQ.mono hm3 om)) ?_))))))))))
 refine xN (h:=Zb rfl (fun g5=>?_) (fun g5=>?_))
 try simp only [sQ,ne_eq] at g5
 refine ZD (ZW (Zek rfl (ZG (Zs (Zo (Za (xM (h:=xM (h:=ZdM (h:=xA (h:=Ze ?_)))))))))))
 exact eN [0,1] rfl t1 ⟨rfl,_,_,rfl,hv,hp,ZgQ hb (by intro k h0 hk he;(try simp only [decide_eq_true_eq,decide_eq_false_iff_not,Bool.not_eq_true',Bool.not_eq_false',Int.not_lt] at *);rcases (show k=2*g.1+1∨k=2*g.1+1+1 from by omega) with rfl | rfl <;> omega),hs⟩
 try simp only [sQ,ne_eq] at g5
 refine wSk (Za (xM (h:=xM (h:=xM (h:=Zq (ZfU [1] rfl rfl rfl rfl Zn3 rfl rfl (ZaZ Zdd Tryz.underlying209 Zex (atL 0 rfl rfl rfl)) (Zfk _ _ _ _ _ _ _ _ (ZaF oz) (ZaF oz) oz _ hv) ?_))))))
 rintro _ B4 _ hle4 ⟨rfl,l4,rfl,hv4⟩
 refine tL2 (Zj (xM (h:=xA (h:=ZS ?_))))
 rw [← ZcF g.2.1 g.1 (2*g.1+1+1)]
 have h5:hat g.2.1 (2*g.1+1+1)<hat g.2.1 g.1:=by simpa using g5
 exact ZE (2*g.1+1+1,(swp g.2.1 g.1 (2*g.1+1+1)),l4) [0,1] (so) ⟨rfl,by have:=ZcF g.2.1 g.1 (2*g.1+1+1);simp only [];omega,(Ze8 oz oz).trans hp,ZgP oz oz oz oz hb (by intro k h0 hk he;(try simp only [decide_eq_true_eq,decide_eq_false_iff_not,Bool.not_eq_true',Bool.not_eq_false',Int.not_lt] at *);rcases (show k=2*g.1+1∨k=2*g.1+1+1 from by omega) with rfl | rfl <;> omega) h5,(fun k hk=>by rw [Zd7 oz oz,if_neg oz,if_neg oz];exact hs k hk),hv4⟩ t5 rfl
 try simp only [sQ,ne_eq] at g4
 refine wSk (Zc (Za (xM (h:=xM (h:=xM (h:=Zq (ZeK 1 rfl rfl rfl Zn4 rfl rfl (ZaZ Zde Tryz.underlying209 Zex (atL 0 rfl rfl rfl)) (Zaa.borrow fun hm5=>Zfl _ _ _ _ _ _ _ (ZaF oz) (ZaF oz) _ (hv.lend ZdQ.mono hm5 om)) ?_)))))))
 refine xN (h:=Zb rfl (fun g5=>?_) (fun g5=>?_))
 try simp only [sQ,ne_eq] at g5
 refine ZD (ZW (Zek rfl (ZG (Zs (Zo (Za (xM (h:=xM (h:=ZdM (h:=xA (h:=Ze ?_)))))))))))
 exact eN [0,1] rfl t1 ⟨rfl,_,_,rfl,hv,hp,ZgQ hb (by intro k h0 hk he;(try simp only [decide_eq_true_eq,decide_eq_false_iff_not,Bool.not_eq_true',Bool.not_eq_false',Int.not_lt] at *);rcases (show k=2*g.1+1∨k=2*g.1+1+1 from by omega) with rfl | rfl <;> omega),hs⟩
 try simp only [sQ,ne_eq] at g5
 refine wSk (Za (xM (h:=xM (h:=xM (h:=Zq (ZfU [1] rfl rfl rfl rfl Zn3 rfl rfl (ZaZ Zdd Tryz.underlying209 Zex (atL 0 rfl rfl rfl)) (Zfk _ _ _ _ _ _ _ _ (ZaF oz) (ZaF oz) oz _ hv) ?_))))))
 rintro _ B6 _ hle6 ⟨rfl,l6,rfl,hv6⟩
 refine tL2 (Zj (xM (h:=xA (h:=ZS ?_))))
 rw [← ZcF g.2.1 g.1 (2*g.1+1)]
 have h5:hat g.2.1 (2*g.1+1)<hat g.2.1 g.1:=by simpa using g5
 exact ZE (2*g.1+1,(swp g.2.1 g.1 (2*g.1+1)),l6) [0,1] (so) ⟨rfl,by have:=ZcF g.2.1 g.1 (2*g.1+1);simp only [];omega,(Ze8 oz oz).trans hp,ZgP oz oz oz oz hb (by intro k h0 hk he;(try simp only [decide_eq_true_eq,decide_eq_false_iff_not,Bool.not_eq_true',Bool.not_eq_false',Int.not_lt] at *);rcases (show k=2*g.1+1∨k=2*g.1+1+1 from by omega) with rfl | rfl <;> omega) h5,(fun k hk=>by rw [Zd7 oz oz,if_neg oz,if_neg oz];exact hs k hk),hv6⟩ t5 rfl
 try simp only [sQ,ne_eq] at g3
 refine xP (h:=xP (h:=xP (h:=xP (h:=xF (h:=Zb (t:=false) rfl (fun h=>Bool.noConfusion h) (fun _=>wSk (Zc (Za (xM (h:=xM (h:=xM (h:=Zq (ZeK 1 rfl rfl rfl Zn4 rfl rfl (ZaZ Zde Tryz.underlying209 Zex (atL 0 rfl rfl rfl)) (Zaa.borrow fun hm7=>Zfl _ _ _ _ _ _ _ (ZaF oz) (ZaF oz) _ (hv.lend ZdQ.mono hm7 om)) ?_)))))))))))))
 refine xN (h:=Zb rfl (fun g5=>?_) (fun g5=>?_))
 try simp only [sQ,ne_eq] at g5
 refine ZD (ZW (Zek rfl (ZG (Zs (Zo (Za (xM (h:=xM (h:=ZdM (h:=xA (h:=Ze ?_)))))))))))
 exact eN [0,1] rfl t1 ⟨rfl,_,_,rfl,hv,hp,ZgQ hb (by intro k h0 hk he;(try simp only [decide_eq_true_eq,decide_eq_false_iff_not,Bool.not_eq_true',Bool.not_eq_false',Int.not_lt] at *);rcases (show k=2*g.1+1∨k=2*g.1+1+1 from by omega) with rfl | rfl <;> omega),hs⟩
 try simp only [sQ,ne_eq] at g5
 refine wSk (Za (xM (h:=xM (h:=xM (h:=Zq (ZfU [1] rfl rfl rfl rfl Zn3 rfl rfl (ZaZ Zdd Tryz.underlying209 Zex (atL 0 rfl rfl rfl)) (Zfk _ _ _ _ _ _ _ _ (ZaF oz) (ZaF oz) oz _ hv) ?_))))))
 rintro _ B8 _ hle8 ⟨rfl,l8,rfl,hv8⟩
 refine tL2 (Zj (xM (h:=xA (h:=ZS ?_))))
 rw [← ZcF g.2.1 g.1 (2*g.1+1)]
 have h5:hat g.2.1 (2*g.1+1)<hat g.2.1 g.1:=by simpa using g5
 exact ZE (2*g.1+1,(swp g.2.1 g.1 (2*g.1+1)),l8) [0,1] (so) ⟨rfl,by have:=ZcF g.2.1 g.1 (2*g.1+1);simp only [];omega,(Ze8 oz oz).trans hp,ZgP oz oz oz oz hb (by intro k h0 hk he;(try simp only [decide_eq_true_eq,decide_eq_false_iff_not,Bool.not_eq_true',Bool.not_eq_false',Int.not_lt] at *);rcases (show k=2*g.1+1∨k=2*g.1+1+1 from by omega) with rfl | rfl <;> omega) h5,(fun k hk=>by rw [Zd7 oz oz,if_neg oz,if_neg oz];exact hs k hk),hv8⟩ t5 rfl

theorem ZnD (b:Nat) (q:Option Addr) (cp:Nat) (xs:List Int) (l:Cells) (hm0:0<xs.length) (hn:xs.length≤2000000) (hh:ZcV xs) (B:Kn) (hv:ZU B l q cp 3 1 ZdQ xs):ZA (pj J) 166 [.iface 209 (ptr ⟨b,0,none⟩)] B [Zap b [.slice q xs.length cp] 210,l] (fun v B' Ls=>B'=B∧v = .iface 3 (.int .i64 (hat xs 0))∧∃ys l',Ls=[Zap b [.slice q ys.length cp] 210,l']∧ZU B l' q cp 3 1 ZdQ ys∧(hat xs 0 :: ys).Perm xs∧ZcV ys):=by
 refine cB 15 Tryz.func166 (h:=?_)
 refine Za (xA (h:=Za (xM (h:=Zq (ZeK 1 rfl rfl rfl Zs5 rfl rfl (ZaZ ZiN Tryz.underlying209 Zex (atL 0 rfl rfl rfl)) (Zaa.borrow fun hm1=>ZnB _ _ _ _) (Zq (ZhD (r:=((xs.length - 1:Nat):Int)) rfl rfl rfl rfl ((congrArg _ (show _=((xs.length - 1:Nat):Int) from by omega)).trans (ZbQ oz oz)) ?_)))))))
 refine xA (h:=Za (xM (h:=xM (h:=Zq (ZfU [1] rfl rfl rfl rfl Zn3 rfl rfl (ZaZ Zdd Tryz.underlying209 Zex (atL 0 rfl rfl rfl)) (Zfk _ _ _ _ _ _ _ _ (ZaF oz) (ZaF oz) oz _ hv) ?_)))))
 rintro _ Bs _ hles ⟨rfl,ls,rfl,hvs⟩
 refine tL2 ?_
 obtain ⟨zs,hzs,hzl⟩ :∃zs,zs=swp xs 0 (xs.length - 1)∧zs.length=xs.length:=⟨_,rfl,ZcF _ _ _⟩
 have hzz:=hvs
 change ZU _ _ _ _ _ _ _ (swp xs 0 (xs.length - 1)) at hzz
 rw [← hzs] at hzz
 have hdb:Zeg zs (zs.length - 1) 0:=by rw [hzl,hzs];exact Zq3 hh hm0
 have hlz:hat zs (zs.length - 1)=hat xs 0:=by rw [hzl,hzs];exact ZoO hm0
 have hpz:zs.Perm xs:=hzs ▸ Ze8 hm0 oz
 rw [← hzl]
 refine Za (xM (h:=xM (h:=xK [0,1] rfl Zum rfl (ZlX _ _ _ _ _ _ oz oz oz hdb _ hzz) (h:=?_))))
 rintro _ Bd _ hled ⟨rfl,ysd,ld,rfl,hvd,hpd,hhd,hsd⟩
 refine tL2 ?_
 have hdl:=hpd.length_eq
 refine Za (xM (h:=Zq (ZfU [0,1] rfl rfl rfl rfl Zuh rfl rfl (Zjb Znh Tryz.underlying209) (Zrq _ _ _ _ _ _ (ZaF oz) oz _ hvd) ?_)))
 rintro _ Bo _ hleo ⟨rfl,rfl,rfl,hvo⟩
 refine xA (h:=tL2 (Ze ?_))
 have hz9:hat ysd (ysd.length - 1)=hat xs 0:=by rw [hsd _ oz,hdl];exact hlz
 exact Zes .ret (.inl rfl) [_] [0,1] rfl ⟨rfl,trivial⟩ ⟨rfl,by rw [hz9];rfl,_,_,by rw [show (ysd.take (ysd.length - 1)).length=ysd.length - 1 from by simp],hvo,ZoW (by omega) (hpd.trans hpz) hz9,ZlW (by rw [hdl];exact hhd) (by omega)⟩

theorem Zkg (q:Option Addr) (cp:Nat) (xs:List DItem) (last:Int) (B:Kn) (ha:SlK B q cp 4 ZI xs):Zaa (pj J) 137 [.slice q xs.length cp,.int .i64 last] B (.bool (asc 0 last (xs.map (·.id)))):=by
 refine cB 53 Tryz.func137 (h:=?_)
 have hxn:=ha.len
 refine Za (xA (h:=Za (xBs [] [] Tryz.underlying207 sz3 zo3 (h:=fun b1=>xBx [_] (h:=fun b2=>xA (h:=tL2 (Zc (Za (xM (h:=xV Tryz.underlying32 (h:=xM (h:=Zh (Zx (α:=Gh Int) [0,1,4,5,14,15] (fun g=>[(16,.int .i64 g.k)]) [0,1] (fun g=>[g.l,Zap b2 [.slice g.a g.xs.length g.c] 210]) (fun g Bx=>Bx=B∧g.k≤xs.length∧g.xs.Perm ((xs.take g.k).map (·.id))∧ZcV g.xs∧ZU Bx g.l g.a g.c 3 1 ZdQ g.xs) (fun g=>xs.length - g.k) ⟨0,0,_,_,_,[]⟩ t1 rfl (⟨rfl,Nat.zero_le _,.refl _,Zpo,.lit0⟩) (fun g B3 hle3 hI=>?_))))))))))))))
 obtain ⟨rfl,hk,hp,hh,hv⟩:=hI
 have hpl:=hp.length_eq
 rw [List.length_map,List.length_take] at hpl
 refine ZC [(0,_),(1,_),(4,_),(5,_),(14,_),(15,_),(16,_)] [_,_] t7 rfl (Za (ZF (h:=Zc (Zb rfl (fun g1=>?_) (fun g1=>?_)))))
 try simp only [sQ,ne_eq] at g1
 refine wSk (Zc (Zh (Za ?_)))
 obtain ⟨x,hx⟩:=ZX (xs:=xs) (i:=g.k) om
 obtain ⟨bb5,oo5,rfl⟩:=ha.base hx
 obtain ⟨_,⟨qi6,ci6,rfl,hi6,hb6,hb6b⟩,hc6⟩:=ha.elem hx
 have hi6n:=hi6.len
 refine xIx Tryz.underlying32 Zbd (h:=yL [_,_,_,_] Zd2 hc6 0 (h:=xAl [_,_,_,_] Zeu (h:=fun b7=>xS [_,_,_,_] 2 [_,_,_,_] Zbd (h:=tL3 (Zj (xM (h:=Zq (Zdq rfl rfl Tryz.underlying209 rfl rfl (xW ZdG (h:=x1 lk3 2 (h:=Zq (Zdq rfl rfl Tryz.underlying3 rfl rfl (xK [1,0] rfl Zux rfl (ZlV _ _ _ _ _ _ oz hh _ hv) (h:=?_))))))))))))))
 rintro _ Bp _ hlep ⟨rfl,qp,cp,ysp,lp,rfl,hvp,hpp,hhp⟩
 refine ZS (Zo (Zj (xD (h:=xM (h:=?_)))))
 exact ZE ⟨g.k+1,0,lp,_,_,ysp⟩ [0,1] so2 ⟨rfl,so,by simp only [];rw [Zcb hx,List.map_append];exact hpp.trans (hp.append_right _),hhp,hvp⟩ t7 rfl
 try simp only [sQ,ne_eq] at g1
 have hxe:xs.take g.k=xs:=List.take_of_length_le oz
 rw [hxe] at hp
 refine ZD (ZW (ZG (Zs (Zo (Za (xA (h:=Zc (Za (xM (h:=xV Tryz.underlying32 (h:=xM (h:=Zh (Zx (α:=Gh2 Int Int) [0,1,5,14,15,16,17,27,28] (fun h=>[(8,.int .i64 h.e),(29,.int .i64 h.k)]) [0,1] (fun h=>[h.l,Zap b2 [.slice h.a h.xs.length h.c] 210]) (fun h Bx=>Bx=B3∧h.k≤xs.length∧h.xs.Perm ((xs.drop h.k).map (·.id))∧ZcV h.xs∧asc 0 last (xs.map (·.id))=asc h.e last ((xs.drop h.k).map (·.id))∧ZU Bx h.l h.a h.c 3 1 ZdQ h.xs) (fun h=>xs.length - h.k) ⟨0,0,g.l,g.a,g.c,g.xs,0⟩ t2 rfl (⟨rfl,Nat.zero_le _,hp,hh,rfl,hv⟩) (fun h B9 hle9 hI=>?_))))))))))))))
 clear hv hp hpl hh
 obtain ⟨rfl,hk,hp,hh,hs,hv⟩:=hI
 have hpl:=hp.length_eq
 rw [List.length_map,List.length_drop] at hpl
 refine ZC [(0,_),(1,_),(5,_),(8,_),(14,_),(15,_),(16,_),(17,_),(27,_),(28,_),(29,_)] [_,_] t11 rfl (Za (ZF (h:=Zc (Zb rfl (fun g2=>?_) (fun g2=>?_)))))
 try simp only [sQ,ne_eq] at g2
 refine wSk (Zc (Zh (Za ?_)))
 obtain ⟨x,hx⟩:=ZX (xs:=xs) (i:=h.k) om
 obtain ⟨bb11,oo11,rfl⟩:=ha.base hx
 obtain ⟨_,⟨qi12,ci12,rfl,hi12,hb12,hb12b⟩,hc12⟩:=ha.elem hx
 have hi12n:=hi12.len
 refine xIx Tryz.underlying32 Zbd (h:=?_)
 rw [Zic hx,List.map_cons] at hp hs
 refine yL [_,_,_,_] Zd2 hc12 0 (h:=xAl [_,_,_,_] Zeu (h:=fun b13=>xS [_,_,_,_] 2 [_,_,_,_] Zbd (h:=tL3 (Za (xM (h:=Zq (Zdq rfl rfl Tryz.underlying209 rfl rfl (xK [1,0] rfl Zuw rfl (ZnD _ _ _ _ _ oz oz hh _ hv) (h:=?_)))))))))
 rintro _ Bo _ hleo ⟨rfl,rfl,yso,lo,rfl,hvo,hpo,hho⟩
 refine Zq (Zip rfl rfl Tryz.underlying3 rfl rfl (xA (h:=tL3 (Zc (Za (xM (h:=xW ZdG (h:=x1 lk3 2 (h:=ZaS (h:=xM (h:=Zv (d:=41) rfl (fun g3=>?_) (fun g3=>?_))))))))))))
 try simp only [sQ,ne_eq] at g3
 refine xP (h:=xP (h:=xP (h:=xT (h:=xM (h:=xP (h:=xP (h:=xP (h:=xT (h:=Zb (t:=true) rfl (fun _=>Za (xA (h:=Ze (Zk (Zy (Zk (ZN (Zy (Zk ?_))))))))) (fun h=>Bool.noConfusion h))))))))))
 exact eR t1 ⟨Zd (by rw [hs];exact ZpO hp hh (by simpa using g3)),rfl,rfl⟩
 try simp only [sQ,ne_eq] at g3
 refine xM (h:=xM (h:=ZbT (h:=xF (h:=xM (h:=Zv (d:=46) rfl (fun g4=>?_) (fun g4=>?_))))))
 try simp only [sQ,ne_eq] at g4
 refine xP (h:=xP (h:=xP (h:=xT (h:=Zb (t:=true) rfl (fun _=>Za (xA (h:=Ze (Zk (Zy (Zk (ZN (Zy (Zk ?_))))))))) (fun h=>Bool.noConfusion h)))))
 exact eR t1 ⟨Zd (by rw [hs];exact ZpN (by rw [← g3];simpa using g4)),rfl,rfl⟩
 try simp only [sQ,ne_eq] at g4
 refine xM (h:=xM (h:=ZdM (h:=xF (h:=Zb rfl (fun g5=>?_) (fun g5=>?_)))))
 try simp only [sQ,ne_eq] at g5
 refine Za (xA (h:=Ze (Zk (Zy (Zk (ZN (Zy (Zk ?_))))))))
 exact eR t1 ⟨Zd (by rw [hs];exact ZpM (by rw [← g3];simpa using g5)),rfl,rfl⟩
 try simp only [sQ,ne_eq] at g5
 refine wSk (Zj (xM (h:=xA (h:=ZS (Zo (Zj (xD (h:=xM (h:=?_)))))))))
 exact ZE ⟨h.k+1,0,lo,_,_,yso,hat h.xs 0⟩ [0,1] so2 ⟨rfl,so,List.Perm.cons_inv ((show (x.id :: yso).Perm (hat h.xs 0 :: yso) from by rw [g3]).trans (hpo.trans hp)),hho,by simp only [];rw [hs,g3];exact Zte (by rw [← g3];simpa using g4) (by rw [← g3];simpa using g5),hvo⟩ t11 rfl
 try simp only [sQ,ne_eq] at g2
 rw [Zn7 oz,List.map_nil,asc] at hs
 refine ZD (ZW (ZG (Zs (Zo (Za (xA (h:=Ze ?_)))))))
 exact eR t1 ⟨Zd hs.symm,rfl,rfl⟩

theorem Zkd (aq:Option Addr) (cq:Nat) (q:DQueue) (B:Kn) (hq:SlK B aq cq 4 ZI q.items):Zaa (pj J) 105 [.agg #[.int .i64 q.next,.slice aq q.items.length cq]] B (.bool (ZaK q)):=by
 refine cB 42 Tryz.func105 (h:=?_)
 have hqn:=hq.len
 refine Za (xBx [_,_] (h:=fun b1=>xA (h:=tL1 (Zc (Za (xW Zbp (h:=x1 Zhm 0 (h:=xV Tryz.underlying32 (h:=ZdM (h:=xM (h:=Zv (d:=9) rfl (fun g1=>?_) (fun g1=>?_))))))))))))
 try simp only [sQ,ne_eq] at g1
 refine xP (h:=xP (h:=xP (h:=xT (h:=xM (h:=xP (h:=xP (h:=xP (h:=xT (h:=Zb (t:=true) rfl (fun _=>Za (xA (h:=Ze (Zk ?_)))) (fun h=>Bool.noConfusion h))))))))))
 exact eR t1 ⟨Zd (ZfE oz),rfl,rfl⟩
 try simp only [sQ,ne_eq] at g1
 refine xW Zfn (h:=x1 lk3 0 (h:=ZF (h:=xF (h:=xM (h:=Zv (d:=14) rfl (fun g2=>?_) (fun g2=>?_))))))
 try simp only [sQ,ne_eq] at g2
 refine xP (h:=xP (h:=xP (h:=xT (h:=Zb (t:=true) rfl (fun _=>Za (xA (h:=Ze (Zk ?_)))) (fun h=>Bool.noConfusion h)))))
 exact eR t1 ⟨Zd (ZfE oz),rfl,rfl⟩
 try simp only [sQ,ne_eq] at g2
 refine xW Zfn (h:=x1 lk3 0 (h:=ZdM (h:=xF (h:=Zb rfl (fun g3=>?_) (fun g3=>?_)))))
 try simp only [sQ,ne_eq] at g3
 refine Za (xA (h:=Ze (Zk ?_)))
 exact eR t1 ⟨Zd (ZfE oz),rfl,rfl⟩
 try simp only [sQ,ne_eq] at g3
 refine wSk (Zc (Za (xW Zbp (h:=x1 Zhm 0 (h:=xV Tryz.underlying32 (h:=xM (h:=Zh (Zx (α:=Nat) [0,1,18,20,21] (fun k=>[(22,.int .i64 k)]) [] (fun k=>[]) (fun k Bx=>Bx=B∧k≤q.items.length∧(q.items.take k).all Zd4=true) (fun k=>q.items.length - k) 0 t1 rfl (⟨rfl,Nat.zero_le _,by simp⟩) (fun k B2 hle2 hI=>?_)))))))))
 obtain ⟨rfl,hk,ha⟩:=hI
 refine ZC [(0,_),(1,_),(18,_),(20,_),(21,_),(22,_)] [_] t6 rfl (Za (ZF (h:=Zc (Zb rfl (fun g4=>?_) (fun g4=>?_)))))
 try simp only [sQ,ne_eq] at g4
 refine wSk (Zc (Zh (Za ?_)))
 obtain ⟨x,hx⟩:=ZX (xs:=q.items) (i:=k) om
 obtain ⟨bb4,oo4,rfl⟩:=hq.base hx
 obtain ⟨_,⟨qi5,ci5,rfl,hi5,hb5,hb5b⟩,hc5⟩:=hq.elem hx
 have hi5n:=hi5.len
 refine xIx Tryz.underlying32 Zbd (h:=yL [_,_,_,_] Zd2 hc5 0 (h:=xAl [_,_,_,_] Zeu (h:=fun b6=>xS [_,_,_,_] 1 [_,_,_,_] Zbd (h:=tL2 (Za (xW ZdF (h:=x1 lk9 1 (h:=xW Zb5 (h:=x1 Zj6 1 (h:=xW ZeX (h:=x1 lk9 1 (h:=xB [(0,_),(1,_),(2,_)] [_,_,_] [_,_,_] ZsB Zr0 (h:=xR ZuR rfl (Zi0 _ _ ⟨x.fr,x.left,x.text⟩ _ hi5 oa oa) (h:=?_))))))))))))))
 refine xN (h:=Zb rfl (fun g5=>?_) (fun g5=>?_))
 try simp only [sQ,ne_eq] at g5
 refine Za (xA (h:=Ze (Zy (Zk (ZN (Zy (Zk ?_)))))))
 exact eR t1 ⟨Zd (ZjT hx g5),rfl,rfl⟩
 try simp only [sQ,ne_eq] at g5
 refine ZY (ZS (Zo (Zj (xD (h:=xM (h:=?_))))))
 exact ZE (k+1) [0] so2 ⟨rfl,oz,Ztf hx g5 ha⟩ t6 rfl
 try simp only [sQ,ne_eq] at g4
 refine ZD (ZW (ZG (Zs (Zo (Za (xW Zbp (h:=x1 Zhm 0 (h:=xW Zfn (h:=x1 lk3 0 (h:=xU (h:=xR ZuQ rfl (Zkg _ _ _ _ _ hq) (h:=xA (h:=Ze ?_)))))))))))))
 exact eR t1 ⟨Zd (ZjS oz ha oz oz oz),rfl,rfl⟩

theorem Znq (n:Int) (B:Kn):Zaa (pj J) 161 [.int .i64 n] B (.bool (decide (0≤n) && decide (n≤31))):=by
 refine cB 5 Tryz.func161 (h:=?_)
 refine Za (xA (h:=Za (xM (h:=xR ZpE rfl (Zfh _ _ _ _) (h:=xA (h:=Ze ?_))))))
 exact eR t1 ⟨rfl,rfl,rfl⟩

theorem Zke (n:Int) (B:Kn):Zaa (pj J) 202 [.int .i64 n] B (.bool (decide (0≤n) && decide (n≤31))):=by
 refine cB 9 Tryz.func202 (h:=?_)
 refine Za (xA (h:=Za (xM (h:=Zdp (h:=xM (h:=Zv (d:=5) rfl (fun g1=>?_) (fun g1=>?_)))))))
 refine xM (h:=ZbT (h:=xT (h:=xA (h:=Ze ?_))))
 exact eR t1 ⟨Zd (by rw [Bool.eq_iff_iff];simp [g1];try omega),rfl,rfl⟩
 refine xP (h:=xP (h:=xF (h:=xA (h:=Ze ?_))))
 exact eR t1 ⟨Zd (by rw [Bool.eq_iff_iff];simp [g1];try omega),rfl,rfl⟩

theorem Znu (m:DMail) (hm:m.text.length≤2000000) (B:Kn):Zaa (pj J) 129 [.agg #[.int .i64 m.uid,.int .i64 m.flags,str m.text]] B (.bool (Zcp m)):=by
 refine cB 17 Tryz.func129 (h:=?_)
 refine Za (xBx [_,_,_] (h:=fun b1=>xA (h:=tL1 (Za (xW Zcn (h:=x1 lk3 0 (h:=xR ZpE rfl (Zfh _ _ _ _) (h:=xM (h:=Zv (d:=6) rfl (fun g1=>?_) (fun g1=>?_))))))))))
 refine xW ZeW (h:=x1 lk3 0 (h:=xR ZuB rfl (Znq _ _) (h:=xT (h:=xM (h:=Zv (d:=11) rfl (fun g2=>?_) (fun g2=>?_))))))
 refine xW ZdD (h:=x1 lk9 0 (h:=xVs Tryz.underlying9 (h:=ZbT (h:=xT (h:=xA (h:=Ze ?_))))))
 exact eR t1 ⟨Zd (by rw [Bool.eq_iff_iff];simp [Zcp,g1,g2];try omega),rfl,rfl⟩
 refine xP (h:=xP (h:=xP (h:=xP (h:=xF (h:=xA (h:=Ze ?_))))))
 exact eR t1 ⟨Zd (by rw [Bool.eq_iff_iff];simp [Zcp,g1,g2];try omega),rfl,rfl⟩
 refine xP (h:=xP (h:=xP (h:=xF (h:=xM (h:=xP (h:=xP (h:=xP (h:=xP (h:=xF (h:=xA (h:=Ze ?_)))))))))))
 exact eR t1 ⟨Zd (by rw [Bool.eq_iff_iff];simp [Zcp,g1];try omega),rfl,rfl⟩

theorem ZlP (m:DMail) (hm:m.text.length≤2000000) (B:Kn):Zaa (pj J) 180 [.agg #[.int .i64 m.uid,.int .i64 m.flags,str m.text]] B (.bool (Zcp m)):=by
 refine cB 22 Tryz.func180 (h:=?_)
 refine Za (xBx [_,_,_] (h:=fun b1=>xA (h:=tL1 (Za (xW Zcn (h:=x1 lk3 0 (h:=Zdp (h:=xM (h:=Zv (d:=6) rfl (fun g1=>?_) (fun g1=>?_))))))))))
 refine xW Zcn (h:=x1 lk3 0 (h:=ZbT (h:=xT (h:=xM (h:=Zv (d:=11) rfl (fun g2=>?_) (fun g2=>?_))))))
 refine xW ZeW (h:=x1 lk3 0 (h:=xR Zul rfl (Zke _ _) (h:=xT (h:=xM (h:=Zv (d:=16) rfl (fun g3=>?_) (fun g3=>?_))))))
 refine xW ZdD (h:=x1 lk9 0 (h:=xVs Tryz.underlying9 (h:=ZbT (h:=xT (h:=xA (h:=Ze ?_))))))
 exact eR t1 ⟨Zd (by rw [Bool.eq_iff_iff];simp [Zcp,g1,g2,g3];try omega),rfl,rfl⟩
 refine xP (h:=xP (h:=xP (h:=xP (h:=xF (h:=xA (h:=Ze ?_))))))
 exact eR t1 ⟨Zd (by rw [Bool.eq_iff_iff];simp [Zcp,g1,g2,g3];try omega),rfl,rfl⟩
 refine xP (h:=xP (h:=xP (h:=xF (h:=xM (h:=xP (h:=xP (h:=xP (h:=xP (h:=xF (h:=xA (h:=Ze ?_)))))))))))
 exact eR t1 ⟨Zd (by rw [Bool.eq_iff_iff];simp [Zcp,g1,g2];try omega),rfl,rfl⟩
 refine xP (h:=xP (h:=xP (h:=xF (h:=xM (h:=xP (h:=xP (h:=xP (h:=xF (h:=xM (h:=xP (h:=xP (h:=xP (h:=xP (h:=xF (h:=xA (h:=Ze ?_))))))))))))))))
 exact eR t1 ⟨Zd (by rw [Bool.eq_iff_iff];simp [Zcp,g1];try omega),rfl,rfl⟩

theorem ZmW (q:Option Addr) (cp:Nat) (x:DBox) (B:Kn) (hx:SlK B q cp 3 Z9 x.mail):Zaa (pj J) 96 [.agg #[.int .i64 x.next,.slice q x.mail.length cp]] B (.bool (Zed x)):=by
 refine cB 46 Tryz.func96 (h:=?_)
 have hxn:=hx.len
 refine Za (xBx [_,_] (h:=fun b1=>xA (h:=tL1 (Za (xA (h:=Zc (Za (xA (h:=Zh (Zx (α:=Nat × Int) [0,1] (fun g=>[(3,.int .i64 g.2),(4,.int .i64 g.1)]) [] (fun g=>[]) (fun g Bx=>Bx=B∧g.1≤x.mail.length∧Zcu (x.mail.take g.1)=(true,g.2)∧0≤g.2∧g.2≤99) (fun g=>x.mail.length - g.1) (0,0) t2 rfl (⟨rfl,Nat.zero_le _,ZeQ,oz,oz⟩) (fun g B2 hle2 hI=>?_)))))))))))
 obtain ⟨rfl,hk,hs,hl0,hl1⟩:=hI
 refine ZC [(0,_),(1,_),(3,_),(4,_)] [_] t4 rfl (Zc (Za (xM (h:=xW ZbS (h:=x1 Zjy 0 (h:=xV Tryz.underlying57 (h:=ZF (h:=Zb rfl (fun g1=>?_) (fun g1=>?_)))))))))
 try simp only [sQ,ne_eq] at g1
 refine wSk (Zc (Zh (Zc (Za (xW ZbS (h:=x1 Zjy 0 (h:=xM (h:=?_))))))))
 obtain ⟨m,hm⟩:=ZX (xs:=x.mail) (i:=g.1) om
 obtain ⟨bb4,oo4,rfl⟩:=hx.base hm
 obtain ⟨_,⟨rfl,hb5⟩,hc5⟩:=hx.elem hm
 refine xIx Tryz.underlying57 ZcE (h:=yL [_,_,_] ZiV hc5 0 (h:=xR ZuX rfl (Znu m om2 _) (h:=?_)))
 refine xN (h:=xM (h:=Zv (d:=19) rfl (fun g2=>?_) (fun g2=>?_)))
 try simp only [sQ,ne_eq] at g2
 refine xP (h:=xP (h:=xP (h:=xP (h:=xP (h:=xP (h:=xP (h:=xP (h:=xT (h:=Zb (t:=true) rfl (fun _=>Za (xA (h:=Ze (Zk (Zy (Zk (ZN (Zy (Zk ?_))))))))) (fun h=>Bool.noConfusion h))))))))))
 exact eR t1 ⟨Zd (Zfs (ZeR hm (by rw [show (scn ZdC (fun _ m=>m.uid) 0 (x.mail.take g.1)).2=g.2 from congrArg Prod.snd hs];simp [ZdC,g2]))).symm,rfl,rfl⟩
 try simp only [sQ,ne_eq] at g2
 refine xW ZbS (h:=x1 Zjy 0 (h:=xM (h:=xIx Tryz.underlying57 ZcE (h:=xW Zcn (h:=y1 lk3 hc5 0 (h:=xM (h:=ZbT (h:=xF (h:=Zb rfl (fun g3=>?_) (fun g3=>?_))))))))))
 try simp only [sQ,ne_eq] at g3
 refine Za (xA (h:=Ze (Zk (Zy (Zk (ZN (Zy (Zk ?_))))))))
 exact eR t1 ⟨Zd (Zfs (ZeR hm (by rw [show (scn ZdC (fun _ m=>m.uid) 0 (x.mail.take g.1)).2=g.2 from congrArg Prod.snd hs];simp [ZdC,g2];omega))).symm,rfl,rfl⟩
 try simp only [sQ,ne_eq] at g3
 refine wSk (Zj (xW ZbS (h:=x1 Zjy 0 (h:=xM (h:=xIx Tryz.underlying57 ZcE (h:=xW Zcn (h:=y1 lk3 hc5 0 (h:=xA (h:=ZS (Zo (Zj (xM (h:=xD (h:=xA (h:=?_)))))))))))))))
 exact ZE (g.1+1,m.uid) [0] so2 ⟨rfl,oz,Zb9 hm hs (by simp [ZdC,g2];omega),Zhl g2⟩ t4 rfl
 try simp only [sQ,ne_eq] at g1
 refine ZD (ZW (ZG (Zs (Zo (Za (xW Zfm (h:=x1 lk3 0 (h:=xM (h:=xD (h:=xR ZpE rfl (Zfh _ _ _ _) (h:=xM (h:=Zv (d:=40) rfl (fun g4=>?_) (fun g4=>?_)))))))))))))
 try simp only [sQ,ne_eq] at g4
 refine xW ZbS (h:=x1 Zjy 0 (h:=xV Tryz.underlying57 (h:=ZbT (h:=xT (h:=xA (h:=Ze ?_))))))
 exact eR t1 ⟨Zd (by rw [Zfr (ZdA hs oz),g4,Bool.true_and,Bool.eq_iff_iff];simp;omega),rfl,rfl⟩
 try simp only [sQ,ne_eq] at g4
 refine xP (h:=xP (h:=xP (h:=xP (h:=xF (h:=xA (h:=Ze ?_))))))
 exact eR t1 ⟨Zd (by rw [Zfr (ZdA hs oz),g4,Bool.false_and]),rfl,rfl⟩

theorem Zi2 (q:Option Addr) (cp:Nat) (x:DBox) (B:Kn) (hx:SlK B q cp 3 Z9 x.mail):Zaa (pj J) 142 [.agg #[.int .i64 x.next,.slice q x.mail.length cp]] B (.bool (Zed x)):=by
 refine cB 38 Tryz.func142 (h:=?_)
 have hxn:=hx.len
 refine Za (xBx [_,_] (h:=fun b1=>xA (h:=tL1 (Zc (Za (xW ZbS (h:=x1 Zjy 0 (h:=xV Tryz.underlying57 (h:=ZdM (h:=Zb rfl (fun g0=>?_) (fun g0=>?_)))))))))))
 try simp only [sQ,ne_eq] at g0
 refine Za (xA (h:=Ze (Zk ?_)))
 exact eR t1 ⟨Zd (by simp [Zed];omega),rfl,rfl⟩
 try simp only [sQ,ne_eq] at g0
 refine wSk (Za (xA (h:=Zc (Za (xW ZbS (h:=x1 Zjy 0 (h:=xV Tryz.underlying57 (h:=xM (h:=Zh (Zx (α:=Nat × Int) [0,1,9,11,12] (fun g=>[(3,.int .i64 g.2),(13,.int .i64 g.1)]) [] (fun g=>[]) (fun g Bx=>Bx=B∧g.1≤x.mail.length∧Zcu (x.mail.take g.1)=(true,g.2)∧0≤g.2∧g.2≤99) (fun g=>x.mail.length - g.1) (0,0) t2 rfl (⟨rfl,Nat.zero_le _,ZeQ,oz,oz⟩) (fun g B2 hle2 hI=>?_)))))))))))
 obtain ⟨rfl,hk,hs,hl0,hl1⟩:=hI
 refine ZC [(0,_),(1,_),(3,_),(9,_),(11,_),(12,_),(13,_)] [_] t7 rfl (Za (ZF (h:=Zc (Zb rfl (fun g1=>?_) (fun g1=>?_)))))
 try simp only [sQ,ne_eq] at g1
 refine wSk (Zc (Zh (Za ?_)))
 obtain ⟨m,hm⟩:=ZX (xs:=x.mail) (i:=g.1) om
 obtain ⟨bb4,oo4,rfl⟩:=hx.base hm
 obtain ⟨_,⟨rfl,hb5⟩,hc5⟩:=hx.elem hm
 refine xIx Tryz.underlying57 ZcE (h:=yL [_,_,_] ZiV hc5 0 (h:=xAl [_,_,_] ZhC (h:=fun b6=>xS [_,_,_] 1 [_,_,_] ZcE (h:=tL2 (Zc (Za (xL [_,_,_] ZiV 1 (h:=xR Zuv rfl (ZlP m om2 _) (h:=?_)))))))))
 refine xN (h:=xM (h:=Zv (d:=20) rfl (fun g2=>?_) (fun g2=>?_)))
 try simp only [sQ,ne_eq] at g2
 refine xP (h:=xP (h:=xP (h:=xP (h:=xT (h:=Zb (t:=true) rfl (fun _=>Za (xA (h:=Ze (Zk (Zy (Zk (ZN (Zy (Zk ?_))))))))) (fun h=>Bool.noConfusion h))))))
 exact eR t1 ⟨Zd (Zfs (ZeR hm (by rw [show (scn ZdC (fun _ m=>m.uid) 0 (x.mail.take g.1)).2=g.2 from congrArg Prod.snd hs];simp [ZdC,g2]))).symm,rfl,rfl⟩
 try simp only [sQ,ne_eq] at g2
 refine xW Zcn (h:=x1 lk3 1 (h:=xM (h:=ZbT (h:=xF (h:=Zb rfl (fun g3=>?_) (fun g3=>?_))))))
 try simp only [sQ,ne_eq] at g3
 refine Za (xA (h:=Ze (Zk (Zy (Zk (ZN (Zy (Zk ?_))))))))
 exact eR t1 ⟨Zd (Zfs (ZeR hm (by rw [show (scn ZdC (fun _ m=>m.uid) 0 (x.mail.take g.1)).2=g.2 from congrArg Prod.snd hs];simp [ZdC,g2];omega))).symm,rfl,rfl⟩
 try simp only [sQ,ne_eq] at g3
 refine wSk (Zj (xW Zcn (h:=x1 lk3 1 (h:=xA (h:=ZS (Zo (Zj (xD (h:=xM (h:=?_))))))))))
 exact ZE (g.1+1,m.uid) [0] so2 ⟨rfl,oz,Zb9 hm hs (by simp [ZdC,g2];omega),Zhl g2⟩ t7 rfl
 try simp only [sQ,ne_eq] at g1
 refine ZD (ZW (ZG (Zs (Zo (Za (xW Zfm (h:=x1 lk3 0 (h:=xM (h:=ZdM (h:=xM (h:=Zv (d:=33) rfl (fun g4=>?_) (fun g4=>?_))))))))))))
 try simp only [sQ,ne_eq] at g4
 refine xW Zfm (h:=x1 lk3 0 (h:=ZbT (h:=xT (h:=xA (h:=Ze ?_)))))
 exact eR t1 ⟨Zd (by rw [Zfr (ZdA hs oz),Bool.eq_iff_iff];simp;omega),rfl,rfl⟩
 try simp only [sQ,ne_eq] at g4
 refine xP (h:=xP (h:=xP (h:=xF (h:=xA (h:=Ze ?_)))))
 exact eR t1 ⟨Zd (by rw [Zfr (ZdA hs oz),Bool.eq_iff_iff];simp;omega),rfl,rfl⟩

theorem Znt (q:Option Addr) (cp:Nat) (x:DBox) (B:Kn) (hx:SlK B q cp 3 Z9 x.mail):Zaa (pj J) 97 [.agg #[.int .i64 x.next,.slice q x.mail.length cp]] B (.int .i64 (Za8 x.mail)):=by
 refine cB 22 Tryz.func97 (h:=?_)
 have hxn:=hx.len
 refine Za (xBx [_,_] (h:=fun b1=>xA (h:=tL1 (Za (xA (h:=Zc (Za (xA (h:=Zh (Zx (α:=Nat × Nat) [0,1,2] (fun g=>[(3,.int .i64 g.2),(4,.int .i64 g.1)]) [] (fun g=>[]) (fun g Bx=>Bx=B∧g.1≤x.mail.length∧g.2=Za8 (x.mail.take g.1)∧g.2≤g.1*2000000) (fun g=>x.mail.length - g.1) (0,0) t2 rfl (⟨rfl,Nat.zero_le _,by simp [Za8],oz⟩) (fun g B2 hle2 hI=>?_)))))))))))
 obtain ⟨rfl,hk,hs,hl⟩:=hI
 refine ZC [(0,_),(1,_),(2,_),(3,_),(4,_)] [_] t5 rfl (Zc (Za (xM (h:=xW ZbS (h:=x1 Zjy 0 (h:=xV Tryz.underlying57 (h:=ZF (h:=Zb rfl (fun g1=>?_) (fun g1=>?_)))))))))
 try simp only [sQ,ne_eq] at g1
 refine wSk (Zc (Zh (Zj (xM (h:=xW ZbS (h:=x1 Zjy 0 (h:=xM (h:=?_))))))))
 obtain ⟨m,hm⟩:=ZX (xs:=x.mail) (i:=g.1) om
 obtain ⟨bb4,oo4,rfl⟩:=hx.base hm
 obtain ⟨_,⟨rfl,hb5⟩,hc5⟩:=hx.elem hm
 refine xIx Tryz.underlying57 ZcE (h:=xW ZdD (h:=y1 lk9 hc5 2 (h:=xVs Tryz.underlying9 (h:=xD (h:=xA (h:=ZS (Zo (Zj (xM (h:=xD (h:=xA (h:=?_))))))))))))
 exact ZE (g.1+1,g.2+m.text.length) [0] so2 ⟨rfl,oz,by rw [Zgq hm,← hs],oz⟩ t5 rfl
 try simp only [sQ,ne_eq] at g1
 refine ZD (ZW (ZG (Zs (Zo (Za (xM (h:=xA (h:=Ze ?_))))))))
 exact eR t1 ⟨ZJ (by rw [← Zhd hs oz]),rfl,rfl⟩

theorem Zof (q:Option Addr) (cp:Nat) (x:DBox) (B:Kn) (hx:SlK B q cp 3 Z9 x.mail):Zaa (pj J) 204 [.agg #[.int .i64 x.next,.slice q x.mail.length cp]] B (.int .i64 (Zc7 x)):=by
 refine cB 23 Tryz.func204 (h:=?_)
 have hxn:=hx.len
 refine Za (xBx [_,_] (h:=fun b1=>xA (h:=tL1 (Zc (Za (xL [_,_] Zk5 0 (h:=xR Zs6 rfl (Zi2 _ _ (⟨x.next,x.mail⟩:DBox) _ hx) (h:=xN (h:=Zb rfl (fun g0=>?_) (fun g0=>?_))))))))))
 try simp only [sQ,ne_eq] at g0
 refine Za (xA (h:=Ze (Zk ?_)))
 exact eR t1 ⟨ZJ (by simp [Zc7,g0]),rfl,rfl⟩
 try simp only [sQ,ne_eq] at g0
 refine wSk (Za (xA (h:=Zc (Za (xW ZbS (h:=x1 Zjy 0 (h:=xV Tryz.underlying57 (h:=xM (h:=Zh (Zx (α:=Nat × Nat) [0,1,2,8,10,11] (fun g=>[(3,.int .i64 g.2),(12,.int .i64 g.1)]) [] (fun g=>[]) (fun g Bx=>Bx=B∧g.1≤x.mail.length∧g.2=Za8 (x.mail.take g.1)∧g.2≤g.1*2000000) (fun g=>x.mail.length - g.1) (0,0) t2 rfl (⟨rfl,Nat.zero_le _,by simp [Za8],oz⟩) (fun g B3 hle3 hI=>?_)))))))))))
 obtain ⟨rfl,hk,hs,hl⟩:=hI
 refine ZC [(0,_),(1,_),(2,_),(3,_),(8,_),(10,_),(11,_),(12,_)] [_] t8 rfl (Za (ZF (h:=Zc (Zb rfl (fun g1=>?_) (fun g1=>?_)))))
 try simp only [sQ,ne_eq] at g1
 refine wSk (Zc (Zh (Za ?_)))
 obtain ⟨m,hm⟩:=ZX (xs:=x.mail) (i:=g.1) om
 obtain ⟨bb5,oo5,rfl⟩:=hx.base hm
 obtain ⟨_,⟨rfl,hb6⟩,hc6⟩:=hx.elem hm
 refine xIx Tryz.underlying57 ZcE (h:=yL [_,_,_] ZiV hc6 0 (h:=xAl [_,_,_] ZhC (h:=fun b7=>xS [_,_,_] 1 [_,_,_] ZcE (h:=tL2 (Zj (xM (h:=xW ZdD (h:=x1 lk9 1 (h:=xVs Tryz.underlying9 (h:=xD (h:=xA (h:=ZS (Zo (Zj (xD (h:=xM (h:=?_)))))))))))))))))
 exact ZE (g.1+1,g.2+m.text.length) [0] so2 ⟨rfl,oz,by rw [Zgq hm,← hs],oz⟩ t8 rfl
 try simp only [sQ,ne_eq] at g1
 refine ZD (ZW (ZG (Zs (Zo (Za (xM (h:=xA (h:=Ze ?_))))))))
 exact eR t1 ⟨ZJ (by rw [Zc7,if_pos g0,← Zhd hs oz]),rfl,rfl⟩

theorem ZoS (n:Int) (B:Kn):Zaa (pj J) 28 [.int .i64 n] B (.bool (decide (0≤n) && decide (n≤63))):=by
 refine cB 9 Tryz.func28 (h:=?_)
 refine Za (xA (h:=Za (xM (h:=Zdp (h:=xM (h:=Zv (d:=5) rfl (fun g1=>?_) (fun g1=>?_)))))))
 refine xM (h:=ZbT (h:=xT (h:=xA (h:=Ze ?_))))
 exact eR t1 ⟨Zd (by rw [Bool.eq_iff_iff];simp [g1];try omega),rfl,rfl⟩
 refine xP (h:=xP (h:=xF (h:=xA (h:=Ze ?_))))
 exact eR t1 ⟨Zd (by rw [Bool.eq_iff_iff];simp [g1];try omega),rfl,rfl⟩

theorem ZjG (u:DUser) (h1:u.name.length≤2000000) (h2:u.pass.length≤2000000) (B:Kn):Zaa (pj J) 135 [.agg #[str u.name,str u.pass,.int .i64 u.quota]] B (.bool (ZcX u)):=by
 refine cB 26 Tryz.func135 (h:=?_)
 refine Za (xBx [_,_,_] (h:=fun b1=>xA (h:=tL1 (Za (xW ZbP (h:=x1 lk9 0 (h:=xR ZrM rfl (Zb4 _ om2 _) (h:=?_))))))))
 refine xM (h:=Zv (d:=6) rfl (fun g1=>?_) (fun g1=>?_))
 try simp only [sQ,ne_eq] at g1
 refine xW ZbP (h:=x1 lk9 0 (h:=Zez (h:=xT (h:=xM (h:=Zv (d:=11) rfl (fun g2=>?_) (fun g2=>?_))))))
 try simp only [sQ,ne_eq] at g2
 refine xW ZgJ (h:=x1 lk9 0 (h:=xR ZrM rfl (Zb4 _ om2 _) (h:=?_)))
 refine xT (h:=xM (h:=Zv (d:=16) rfl (fun g3=>?_) (fun g3=>?_)))
 try simp only [sQ,ne_eq] at g3
 refine xW ZeE (h:=x1 lk3 0 (h:=Zdp (h:=xT (h:=xM (h:=Zv (d:=21) rfl (fun g4=>?_) (fun g4=>?_))))))
 try simp only [sQ,ne_eq] at g4
 refine xW ZeE (h:=x1 lk3 0 (h:=ZbT (h:=xT (h:=xA (h:=Ze ?_)))))
 exact eR t1 ⟨Zd (by rw [Bool.eq_iff_iff];simp [ZcX,anyone,g1,g2,g3,g4];try omega),rfl,rfl⟩
 try simp only [sQ,ne_eq] at g4
 refine xP (h:=xP (h:=xP (h:=xF (h:=xA (h:=Ze ?_)))))
 exact eR t1 ⟨Zd (by rw [Bool.eq_iff_iff];simp [ZcX,anyone,g1,g2,g3,g4];try omega),rfl,rfl⟩
 try simp only [sQ,ne_eq] at g3
 refine xP (h:=xP (h:=xP (h:=xF (h:=xM (h:=xP (h:=xP (h:=xP (h:=xF (h:=xA (h:=Ze ?_))))))))))
 exact eR t1 ⟨Zd (by rw [Bool.eq_iff_iff];simp [ZcX,anyone,g1,g2,g3];try omega),rfl,rfl⟩
 try simp only [sQ,ne_eq] at g2
 refine xP (h:=xP (h:=xP (h:=xF (h:=xM (h:=xP (h:=xP (h:=xP (h:=xF (h:=xM (h:=xP (h:=xP (h:=xP (h:=xF (h:=xA (h:=Ze ?_)))))))))))))))
 exact eR t1 ⟨Zd (by rw [Bool.eq_iff_iff];simp [ZcX,anyone,g1,g2];try omega),rfl,rfl⟩
 try simp only [sQ,ne_eq] at g1
 refine xP (h:=xP (h:=xP (h:=xF (h:=xM (h:=xP (h:=xP (h:=xP (h:=xF (h:=xM (h:=xP (h:=xP (h:=xP (h:=xF (h:=xM (h:=xP (h:=xP (h:=xP (h:=xF (h:=xA (h:=Ze ?_))))))))))))))))))))
 exact eR t1 ⟨Zd (by rw [Bool.eq_iff_iff];simp [ZcX,anyone,g1];try omega),rfl,rfl⟩

theorem ZgB (q:Option Addr) (cp:Nat) (us:List DUser) (B:Kn) (hu:SlK B q cp 3 Zt us):Zaa (pj J) 104 [.slice q us.length cp] B (.bool (Zaw us)):=by
 refine cB 32 Tryz.func104 (h:=?_)
 have hun:=hu.len
 refine Za (xA (h:=Zc (Za (xM (h:=xV Tryz.underlying30 (h:=ZF (h:=xM (h:=Zv (d:=9) rfl (fun g0=>?_) (fun g0=>?_)))))))))
 try simp only [sQ,ne_eq] at g0
 refine xP (h:=xP (h:=xP (h:=xT (h:=Zb (t:=true) rfl (fun _=>Za (xA (h:=Ze (Zk ?_)))) (fun h=>Bool.noConfusion h)))))
 exact eR t1 ⟨Zd (by rw [Bool.eq_iff_iff];simp [Zaw];omega),rfl,rfl⟩
 try simp only [sQ,ne_eq] at g0
 refine xM (h:=xV Tryz.underlying30 (h:=ZdM (h:=xF (h:=Zb rfl (fun g0b=>?_) (fun g0b=>?_)))))
 try simp only [sQ,ne_eq] at g0b
 refine Za (xA (h:=Ze (Zk ?_)))
 exact eR t1 ⟨Zd (by rw [Bool.eq_iff_iff];simp [Zaw];omega),rfl,rfl⟩
 try simp only [sQ,ne_eq] at g0b
 refine wSk (Za (xA (h:=Zc (Za (xM (h:=xV Tryz.underlying30 (h:=xM (h:=Zh (Zx (α:=Nat × Str) [0,13,14,15] (fun g=>[(3,str g.2),(16,.int .i64 g.1)]) [] (fun g=>[]) (fun g Bx=>Bx=B∧g.1≤us.length∧Zds (us.take g.1)=(true,g.2)∧g.2.length≤2000000) (fun g=>us.length - g.1) (0,[]) t2 rfl (⟨rfl,Nat.zero_le _,ZeQ,by simp⟩) (fun g B1 hle1 hI=>?_))))))))))
 obtain ⟨rfl,hk,hs,hl⟩:=hI
 refine ZC [(0,_),(3,_),(13,_),(14,_),(15,_),(16,_)] [] t6 rfl (Za (ZF (h:=Zc (Zb rfl (fun g1=>?_) (fun g1=>?_)))))
 try simp only [sQ,ne_eq] at g1
 refine wSk (Zc (Zh (Za ?_)))
 obtain ⟨m,hm⟩:=ZX (xs:=us) (i:=g.1) om
 obtain ⟨bb3,oo3,rfl⟩:=hu.base hm
 obtain ⟨_,⟨rfl,hb4,hb4b⟩,hc4⟩:=hu.elem hm
 refine xIx Tryz.underlying30 ZdR (h:=yL [_,_,_] Zjx hc4 0 (h:=xAl [_,_,_] ZhB (h:=fun b5=>xS [_,_,_] 0 [_,_,_] ZdR (h:=tL1 (Zc (Za (xL [_,_,_] Zjx 0 (h:=xR ZuS rfl (ZjG m om2 om2 _) (h:=?_)))))))))
 refine xN (h:=xM (h:=Zv (d:=23) rfl (fun g2=>?_) (fun g2=>?_)))
 try simp only [sQ,ne_eq] at g2
 refine xP (h:=xP (h:=xP (h:=xP (h:=xT (h:=Zb (t:=true) rfl (fun _=>Za (xA (h:=Ze (Zk (Zy (Zk (ZN (Zy (Zk ?_))))))))) (fun h=>Bool.noConfusion h))))))
 exact eR t1 ⟨Zd (ZeM (ZeR hm (by rw [show (scn Zev (fun _ u=>u.name) [] (us.take g.1)).2=g.2 from congrArg Prod.snd hs];simp [Zev,g2]))).symm,rfl,rfl⟩
 try simp only [sQ,ne_eq] at g2
 refine xW ZbP (h:=x1 lk9 0 (h:=xM (h:=Zq (Zp4 rfl rfl rfl rfl (xF (h:=Zb rfl (fun g3=>?_) (fun g3=>?_)))))))
 try simp only [sQ,ne_eq] at g3
 refine Za (xA (h:=Ze (Zk (Zy (Zk (ZN (Zy (Zk ?_))))))))
 exact eR t1 ⟨Zd (ZeM (ZeR hm (by rw [show (scn Zev (fun _ u=>u.name) [] (us.take g.1)).2=g.2 from congrArg Prod.snd hs,Zev,ZaP g.2 m.name,g3];simp))).symm,rfl,rfl⟩
 try simp only [sQ,ne_eq] at g3
 refine wSk (Zj (xW ZbP (h:=x1 lk9 0 (h:=xA (h:=ZS (Zo (Zj (xD (h:=xM (h:=?_))))))))))
 exact ZE (g.1+1,m.name) [] so2 ⟨rfl,oz,Zb9 hm hs (by rw [Zev,ZaP g.2 m.name,g2,g3];rfl),oy⟩ t6 rfl
 try simp only [sQ,ne_eq] at g1
 refine ZD (ZW (ZG (Zs (Zo (Za (xA (h:=Ze ?_)))))))
 exact eR t1 ⟨Zd (by rw [Zgl (ZdA hs oz),Bool.eq_iff_iff];simp;omega),rfl,rfl⟩

theorem Zir (x:DUser) (u:Str) (b:Nat) (h1:x.name.length≤2000000) (h2:u.length≤2000000) (B:Kn) (hb:ZaB B b 0 [str u]):Zaa (pj J) 114 [.agg #[str x.name,str x.pass,.int .i64 x.quota],ptr ⟨b,0,none⟩] B (.bool (decide (x.name=u))):=by
 refine cB 8 Tryz.func114 (h:=?_)
 refine Za (xBx [_,_,_] (h:=fun b1=>xA (h:=tL1 (Za (xW ZbP (h:=x1 lk9 0 (h:=Zq (Zp rfl rfl lk9 rfl (hb _ 0 _ rfl) (ZdS (h:=xA (h:=Ze ?_)))))))))))
 exact eR t1 ⟨rfl,rfl,rfl⟩

theorem ZnT (q:Option Addr) (cp:Nat) (us:List DUser) (F:FuncId) (cap:Array Value) (t:DUser→Bool) (B:Kn) (hu:SlK B q cp 3 Zt us) (he:enters (pj J) F=true) (hF :∀x:DUser,x.name.length≤2000000→x.pass.length≤2000000→Zaa (pj J) F ([.agg #[str x.name,str x.pass,.int .i64 x.quota]] ++ cap.toList) B (.bool (t x))):Zaa (pj J) 113 [.slice q us.length cp,.func (.func F) #[] cap] B (.tuple #[.agg #[str (Zf4 t us).1.name,str (Zf4 t us).1.pass,.int .i64 (Zf4 t us).1.quota],.bool (Zf4 t us).2]):=by
 refine cB 21 Tryz.func113 (h:=?_)
 have hun:=hu.len
 refine Za (xAl [_,_,_] ZhB (h:=fun b1=>xA (h:=tL1 (Zc (Za (xM (h:=xV Tryz.underlying30 (h:=xM (h:=Zh (Zx (α:=Nat) [0,1,4,9,10] (fun k=>[(11,.int .i64 k)]) [] (fun k=>[]) (fun k Bx=>Bx=B∧k≤us.length∧∀y,y∈us.take k→t y=false) (fun k=>us.length - k) 0 t1 rfl (⟨rfl,Nat.zero_le _,by simp⟩) (fun k B2 hle2 hI=>?_)))))))))))
 obtain ⟨rfl,hk,ha⟩:=hI
 refine ZC [(0,_),(1,_),(4,_),(9,_),(10,_),(11,_)] [_] t6 rfl (Za (ZF (h:=Zc (Zb rfl (fun g1=>?_) (fun g1=>?_)))))
 try simp only [sQ,ne_eq] at g1
 refine wSk (Zc (Zh (Za ?_)))
 obtain ⟨m,hm⟩:=ZX (xs:=us) (i:=k) om
 obtain ⟨bb4,oo4,rfl⟩:=hu.base hm
 obtain ⟨_,⟨rfl,hb5,hb5b⟩,hc5⟩:=hu.elem hm
 refine xIx Tryz.underlying30 ZdR (h:=yL [_,_,_] Zjx hc5 0 (h:=xAl [_,_,_] ZhB (h:=fun b6=>xS [_,_,_] 1 [_,_,_] ZdR (h:=tL2 (Za (xM (h:=xL [_,_,_] Zjx 1 (h:=Zq (ZpZ rfl rfl he rfl rfl (hF m om2 om2) ?_)))))))))
 refine Zb rfl (fun g2=>?_) (fun g2=>?_)
 try simp only [sQ,ne_eq] at g2
 refine Za (xL [_,_,_] Zjx 1 (h:=xS [_,_,_] 0 [_,_,_] ZdR (h:=xA (h:=tL2 (Ze (Zy (Zk (ZN (Zy (Zk ?_))))))))))
 exact Zs4 .ret (.inl rfl) [_,_] ⟨⟨_,rfl,.inr ⟨[_,_,_],Zjx,ZbX 0 rfl rfl rfl,rfl⟩⟩,rfl,trivial⟩ ⟨by rw [ZnS hm g2 ha];rfl,rfl,rfl⟩
 try simp only [sQ,ne_eq] at g2
 refine ZY (ZS (Zo (Zj (xD (h:=xM (h:=?_))))))
 exact ZE (k+1) [0] so2 ⟨rfl,oz,ZaM hm ha g2⟩ t6 rfl
 try simp only [sQ,ne_eq] at g1
 refine ZD (ZW (ZG (Zs (Zo (Za (xAl [_,_,_] ZhB (h:=fun b8=>tL2 (Za (xL [_,_,_] Zjx 1 (h:=xS [_,_,_] 0 [_,_,_] ZdR (h:=xA (h:=tL2 (Ze ?_)))))))))))))
 exact Zs4 .ret (.inl rfl) [_,_] ⟨⟨_,rfl,.inr ⟨[_,_,_],Zjx,ZbX 0 rfl rfl rfl,rfl⟩⟩,rfl,trivial⟩ ⟨by rw [Zl5 (Zbc oz ha)];rfl,rfl,rfl⟩

theorem Zgn (q:Option Addr) (cp:Nat) (us:List DUser) (nm:Str) (hn:nm.length≤2000000) (B:Kn) (hu:SlK B q cp 3 Zt us):Zaa (pj J) 71 [.slice q us.length cp,str nm] B (.tuple #[.agg #[str (Zac us nm).1.name,str (Zac us nm).1.pass,.int .i64 (Zac us nm).1.quota],.bool (Zac us nm).2]):=by
 refine cB 15 Tryz.func71 (h:=?_)
 have hun:=hu.len
 refine Za (xBx [_] (h:=fun b1=>xAl [_,_,_] ZhB (h:=fun b2=>xA (h:=tL2 (Zc (Za (xM (h:=xR Zs7 rfl (ZgB _ _ _ _ hu) (h:=xN (h:=Zb rfl (fun g0=>?_) (fun g0=>?_)))))))))))
 try simp only [sQ,ne_eq] at g0
 refine Za (xB [] [_,_,_] [_,_,_] ZvX ZhB (h:=xS [_,_,_] 1 [_,_,_] ZdR (h:=xA (h:=tL2 (Ze (Zk ?_))))))
 exact Zs4 .ret (.inl rfl) [_,_] ⟨⟨_,rfl,.inr ⟨[_,_,_],Zjx,ZbX 1 rfl rfl rfl,rfl⟩⟩,rfl,trivial⟩ ⟨by rw [Zac,g0];rfl,rfl,rfl⟩
 try simp only [sQ,ne_eq] at g0
 refine wSk (Za (xM (h:=Zq (Zc8 (xs:=[]) (ys:=[_]) rfl rfl rfl rfl (Zq (Zim 0 rfl rfl rfl Zva rfl (Zaa.borrow fun hm=>ZnT _ _ us 114 _ (fun y=>decide (y.name=nm)) _ (hu.mono Zt.mono (Kn.le_add _ _)) Zu9 (fun y h1 h2=>Zir y nm _ h1 hn _ (ZhL hm))) (xE (h:=xE (h:=xS [_,_,_] 1 [_,_,_] ZdR (h:=xA (h:=tL2 (Ze ?_))))))))))))
 exact Zs4 .ret (.inl rfl) [_,_] ⟨⟨_,rfl,.inr ⟨[_,_,_],Zjx,ZbX 1 rfl rfl rfl,rfl⟩⟩,rfl,trivial⟩ ⟨by rw [Zac,if_pos g0];rfl,rfl,rfl⟩

theorem Zf8 (b o:Nat) (q1 q2 q3:Option Addr) (c1 c2 c3:Nat) (x:DHost) (nm:Str) (hn:nm.length≤2000000) (B:Kn) (hh:ZaB B b o [str x.domain,.slice q1 x.users.length c1,.slice q2 x.folders.length c2,.int .i64 x.queue.next,.slice q3 x.queue.items.length c3]) (hu:SlK B q1 c1 3 Zt x.users):Zaa (pj J) 31 [ptr ⟨b,o,none⟩,str nm] B (.bool (Zac x.users nm).2):=by
 refine cB 17 Tryz.func31 (h:=?_)
 refine Za (xA (h:=Za (xM (h:=xNc (h:=xW ZbB (h:=Zq (Zp rfl rfl ZhV rfl (hh _ 1 _ rfl) (xM (h:=xR ZvH rfl (Zgn _ _ _ nm om2 _ hu) (h:=?_))))))))))
 refine xM (h:=xE (h:=xE (h:=xAl [_,_,_] ZhB (h:=fun b2=>xS [_,_,_] 0 [_,_,_] ZdR (h:=xA (h:=tL1 (Za (xM (h:=xA (h:=Ze ?_))))))))))
 exact eR t1 ⟨rfl,rfl,rfl⟩

theorem ZiY (q1 q2 q3:Option Addr) (c1 c2 c3:Nat) (x:DHost) (ow nm:Str) (ho:ow.length≤2000000) (hn:nm.length≤2000000) (B:Kn) (hf:SlK B q2 c2 5 Zn x.folders):Zaa (pj J) 20 [.agg #[str x.domain,.slice q1 x.users.length c1,.slice q2 x.folders.length c2,.int .i64 x.queue.next,.slice q3 x.queue.items.length c3],str ow,str nm] B (.int .i64 (ZeD (inF ow nm) x.folders)):=by
 refine cB 34 Tryz.func20 (h:=?_)
 have hfn:=hf.len
 refine Za (xBx [_,_,_,_,_] (h:=fun b1=>xA (h:=tL1 (Zc (Za (xA (h:=Zh (Zx (α:=Nat) [0,1,2,3] (fun k=>[(7,.int .i64 k)]) [] (fun k=>[]) (fun k Bx=>Bx=B∧k≤x.folders.length∧∀y,y∈x.folders.take k→inF ow nm y=false) (fun k=>x.folders.length - k) 0 t1 rfl (⟨rfl,Nat.zero_le _,by simp⟩) (fun k B2 hle2 hI=>?_)))))))))
 obtain ⟨rfl,hk,ha⟩:=hI
 refine ZC [(0,_),(1,_),(2,_),(3,_),(7,_)] [_] t5 rfl (Zc (Za (xM (h:=xW Z3 (h:=x1 ZdN 0 (h:=xV Tryz.underlying31 (h:=ZF (h:=Zb rfl (fun g1=>?_) (fun g1=>?_)))))))))
 try simp only [sQ,ne_eq] at g1
 refine wSk (Zc (Zh (Za (xW Z3 (h:=x1 ZdN 0 (h:=xM (h:=?_)))))))
 obtain ⟨y,hy⟩:=ZX (xs:=x.folders) (i:=k) om
 obtain ⟨bb4,oo4,rfl⟩:=hf.base hy
 obtain ⟨_,⟨qg5,cg5,qm5,cm5,rfl,hg5,hm5,hb5,hb5b⟩,hc5⟩:=hf.elem hy
 have hg5n:=hg5.len
 have hm5n:=hm5.len
 have hm5s:=Zau hm5
 refine xIx Tryz.underlying31 ZaW (h:=xW Zcg (h:=y1 lk9 hc5 0 (h:=xM (h:=ZdS (h:=xM (h:=Zv (d:=23) rfl (fun g2=>?_) (fun g2=>?_)))))))
 try simp only [sQ,ne_eq] at g2
 refine xW Z3 (h:=x1 ZdN 0 (h:=xM (h:=xIx Tryz.underlying31 ZaW (h:=xW Zdh (h:=y1 lk9 hc5 1 (h:=xM (h:=ZdS (h:=xT (h:=Zb rfl (fun g3=>?_) (fun g3=>?_))))))))))
 try simp only [sQ,ne_eq] at g3
 refine Za (xM (h:=xA (h:=Ze (Zy (Zk (ZN (Zy (Zk ?_))))))))
 exact eR t1 ⟨ZJ (Zga hy (by simp [inF,g2,g3]) ha).symm,rfl,rfl⟩
 try simp only [sQ,ne_eq] at g3
 refine ZY (ZS (Zo (Zj (xM (h:=xD (h:=xA (h:=?_)))))))
 exact ZE (k+1) [0] so2 ⟨rfl,oz,ZaM hy ha (by simp [inF,g2,g3])⟩ t5 rfl
 try simp only [sQ,ne_eq] at g2
 refine xP (h:=xP (h:=xP (h:=xP (h:=xP (h:=xP (h:=xP (h:=xP (h:=xF (h:=Zb (t:=false) rfl (fun h=>Bool.noConfusion h) (fun _=>ZY (ZS (Zo (Zj (xM (h:=xD (h:=xA (h:=?_)))))))))))))))))
 exact ZE (k+1) [0] so2 ⟨rfl,oz,ZaM hy ha (by simp [inF,g2])⟩ t5 rfl
 try simp only [sQ,ne_eq] at g1
 refine ZD (ZW (ZG (Zs (Zo (Za (xA (h:=Ze ?_)))))))
 exact eR t1 ⟨ZJ (Zd6 (Zbc oz ha)).symm,rfl,rfl⟩

theorem ZrB (f:DFolder) (qa qb:Option Addr) (ca cb:Nat) (ow nm:Str) (b b':Nat) (h1:f.owner.length≤2000000) (h2:f.name.length≤2000000) (h3:ow.length≤2000000) (h4:nm.length≤2000000) (B:Kn) (hb:ZaB B b 0 [str ow]) (hb2:ZaB B b' 0 [str nm]):Zaa (pj J) 87 [.agg #[str f.owner,str f.name,.slice qa f.grants.length ca,.int .i64 f.next,.slice qb f.mail.length cb],ptr ⟨b,0,none⟩,ptr ⟨b',0,none⟩] B (.bool (inF ow nm f)):=by
 refine cB 15 Tryz.func87 (h:=?_)
 refine Za (xBx [_,_,_,_,_] (h:=fun b1=>xA (h:=tL1 (Za (xW Zcg (h:=x1 lk9 0 (h:=Zq (Zp rfl rfl lk9 rfl (hb _ 0 _ rfl) (ZdS (h:=xM (h:=Zv (d:=9) rfl (fun g1=>?_) (fun g1=>?_))))))))))))
 refine xW Zdh (h:=x1 lk9 0 (h:=Zq (Zp rfl rfl lk9 rfl (hb2 _ 0 _ rfl) (ZdS (h:=xT (h:=xA (h:=Ze ?_)))))))
 exact eR t1 ⟨Zd (by rw [Bool.eq_iff_iff];simp [inF,g1]),rfl,rfl⟩
 refine xP (h:=xP (h:=xP (h:=xP (h:=xF (h:=xA (h:=Ze ?_))))))
 exact eR t1 ⟨Zd (by rw [Bool.eq_iff_iff];simp [inF,g1]),rfl,rfl⟩

theorem Zpi (q:Option Addr) (cp:Nat) (fs:List DFolder) (F:FuncId) (cap:Array Value) (t:DFolder→Bool) (B:Kn) (hf:SlK B q cp 5 Zn fs) (he:enters (pj J) F=true) (hF :∀(f:DFolder) (qa qb:Option Addr) (ca cb:Nat),f.owner.length≤2000000→f.name.length≤2000000→Zaa (pj J) F ([.agg #[str f.owner,str f.name,.slice qa f.grants.length ca,.int .i64 f.next,.slice qb f.mail.length cb]] ++ cap.toList) B (.bool (t f))):Zaa (pj J) 86 [.slice q fs.length cp,.func (.func F) #[] cap] B (.int .i64 (ZeD t fs)):=by
 refine cB 19 Tryz.func86 (h:=?_)
 have hfn:=hf.len
 refine Za (xA (h:=Zc (Za (xM (h:=xV Tryz.underlying31 (h:=xM (h:=Zh (Zx (α:=Nat) [0,1,7] (fun k=>[(8,.int .i64 k)]) [] (fun k=>[]) (fun k Bx=>Bx=B∧k≤fs.length∧∀y,y∈fs.take k→t y=false) (fun k=>fs.length - k) 0 t1 rfl (⟨rfl,Nat.zero_le _,by simp⟩) (fun k B1 hle1 hI=>?_)))))))))
 obtain ⟨rfl,hk,ha⟩:=hI
 refine ZC [(0,_),(1,_),(7,_),(8,_)] [] t4 rfl (Za (ZF (h:=Zc (Zb rfl (fun g1=>?_) (fun g1=>?_)))))
 try simp only [sQ,ne_eq] at g1
 refine wSk (Zc (Zh (Za (xM (h:=xA (h:=Za (xM (h:=xM (h:=xM (h:=?_))))))))))
 obtain ⟨y,hy⟩:=ZX (xs:=fs) (i:=k) om
 obtain ⟨bb3,oo3,rfl⟩:=hf.base hy
 obtain ⟨_,⟨qg4,cg4,qm4,cm4,rfl,hg4,hm4,hb4,hb4b⟩,hc4⟩:=hf.elem hy
 have hg4n:=hg4.len
 have hm4n:=hm4.len
 have hm4s:=Zau hm4
 refine xIx Tryz.underlying31 ZaW (h:=yL [_,_,_,_,_] ZfZ hc4 0 (h:=Zq (ZpZ rfl rfl he rfl rfl (hF y _ _ _ _ om2 om2) ?_)))
 refine Zb rfl (fun g2=>?_) (fun g2=>?_)
 try simp only [sQ,ne_eq] at g2
 refine Za (xM (h:=xA (h:=Ze (Zy (Zk (ZN (Zy (Zk ?_))))))))
 exact eR t1 ⟨ZJ (Zga hy g2 ha).symm,rfl,rfl⟩
 try simp only [sQ,ne_eq] at g2
 refine ZY (ZS (Zo (Zj (xD (h:=xM (h:=?_))))))
 exact ZE (k+1) [] so2 ⟨rfl,oz,ZaM hy ha g2⟩ t4 rfl
 try simp only [sQ,ne_eq] at g1
 refine ZD (ZW (ZG (Zs (Zo (Za (xA (h:=Ze ?_)))))))
 exact eR t1 ⟨ZJ (Zd6 (Zbc oz ha)).symm,rfl,rfl⟩

theorem Zqv (b o:Nat) (q1 q2 q3:Option Addr) (c1 c2 c3:Nat) (x:DHost) (ow nm:Str) (ho:ow.length≤2000000) (hn:nm.length≤2000000) (B:Kn) (hh:ZaB B b o [str x.domain,.slice q1 x.users.length c1,.slice q2 x.folders.length c2,.int .i64 x.queue.next,.slice q3 x.queue.items.length c3]) (hf:SlK B q2 c2 5 Zn x.folders):Zaa (pj J) 46 [ptr ⟨b,o,none⟩,str ow,str nm] B (.int .i64 (ZeD (inF ow nm) x.folders)):=by
 refine cB 13 Tryz.func46 (h:=?_)
 refine Za (xBx [_] (h:=fun b1=>xBx [_] (h:=fun b2=>xA (h:=tL2 (Za (xM (h:=xNc (h:=xW Z3 (h:=Zq (Zp rfl rfl ZdN rfl (hh _ 2 _ rfl) (Zq (Zc8 (xs:=[]) (ys:=[_,_]) rfl rfl rfl rfl (Zq (Zr3 0 1 rfl rfl rfl rfl rfl Zwd rfl (Zaa.borrow2 fun hm1 hm2=>Zpi _ _ x.folders 87 _ (inF ow nm) _ ((hf.mono Zn.mono (Kn.le_add _ _)).mono Zn.mono (Kn.le_add _ _)) Zwc (fun f qa qb ca cb h1 h2=>ZrB f qa qb ca cb ow nm _ _ h1 h2 ho hn _ (ZhL hm1) (ZhL hm2))) (xA (h:=Ze ?_))))))))))))))))
 exact eR t1 ⟨rfl,rfl,rfl⟩

theorem ZjV (b o:Nat) (q1 q2 q3:Option Addr) (c1 c2 c3:Nat) (x:DHost) (B:Kn) (hh:ZaB B b o [str x.domain,.slice q1 x.users.length c1,.slice q2 x.folders.length c2,.int .i64 x.queue.next,.slice q3 x.queue.items.length c3]) (hu:SlK B q1 c1 3 Zt x.users) (hi:SlK B q3 c3 4 ZI x.queue.items):Zaa (pj J) 108 [ptr ⟨b,o,none⟩] B (.bool (x.queue.items.all (Zcv x.users))):=by
 refine cB 35 Tryz.func108 (h:=?_)
 have hin:=hi.len
 refine Za (xA (h:=Zc (Za (xM (h:=xNc (h:=xW ZdL (h:=xW Zbp (h:=Zq (Zp rfl rfl Zhm rfl (hh _ 4 _ rfl) (xV Tryz.underlying32 (h:=xM (h:=Zh (Zx (α:=Nat) [0,11,12] (fun k=>[(13,.int .i64 k)]) [] (fun k=>[]) (fun k Bx=>Bx=B∧k≤x.queue.items.length∧∀y,y∈x.queue.items.take k→Zcv x.users y=true) (fun k=>x.queue.items.length - k) 0 t1 rfl (⟨rfl,Nat.zero_le _,by simp⟩) (fun k B1 hle1 hI=>?_))))))))))))))
 obtain ⟨rfl,hk,ha⟩:=hI
 refine ZC [(0,_),(11,_),(12,_),(13,_)] [] t4 rfl (Za (ZF (h:=Zc (Zb rfl (fun g1=>?_) (fun g1=>?_)))))
 try simp only [sQ,ne_eq] at g1
 refine wSk (Zc (Zh (Za ?_)))
 obtain ⟨y,hy⟩:=ZX (xs:=x.queue.items) (i:=k) om
 obtain ⟨bb3,oo3,rfl⟩:=hi.base hy
 obtain ⟨_,⟨qi4,ci4,rfl,hi4,hb4,hb4b⟩,hc4⟩:=hi.elem hy
 have hi4n:=hi4.len
 refine xIx Tryz.underlying32 Zbd (h:=yL [_,_,_,_] Zd2 hc4 0 (h:=xAl [_,_,_,_] Zeu (h:=fun b5=>xS [_,_,_,_] 0 [_,_,_,_] Zbd (h:=tL1 (Zc (Za (xM (h:=xW ZdF (h:=x1 lk9 0 (h:=xR Zts rfl (Zf8 _ _ _ _ _ _ _ _ x y.fr om2 _ hh hu) (h:=?_)))))))))))
 refine xN (h:=Zb rfl (fun g2=>?_) (fun g2=>?_))
 try simp only [sQ,ne_eq] at g2
 refine Za (xA (h:=Ze (Zk (Zy (Zk (ZN (Zy (Zk ?_))))))))
 exact eR t1 ⟨Zd (Zc3 hy (by simp [Zcv,g2])).symm,rfl,rfl⟩
 try simp only [sQ,ne_eq] at g2
 refine wSk (Za (xW Zb5 (h:=x1 Zj6 0 (h:=xV Tryz.underlying99 (h:=xM (h:=Zh (Zx (α:=Nat) [0,4,11,12,13,14,21,23,24] (fun j=>[(25,.int .i64 j)]) [] (fun j=>[]) (fun j Bx=>Bx=B1∧j≤y.left.length∧∀z,z∈y.left.take j→(Zac x.users z).2=true) (fun j=>y.left.length - j) 0 t1 rfl (⟨rfl,Nat.zero_le _,by simp⟩) (fun j B7 hle7 hI=>?_))))))))
 obtain ⟨rfl,hj,hb⟩:=hI
 refine ZC [(0,_),(4,_),(11,_),(12,_),(13,_),(14,_),(21,_),(23,_),(24,_),(25,_)] [_] t10 rfl (Za (ZF (h:=Zc (Zb rfl (fun g3=>?_) (fun g3=>?_)))))
 try simp only [sQ,ne_eq] at g3
 refine wSk (Zc (Zh (Za ?_)))
 obtain ⟨z,hz⟩:=ZX (xs:=y.left) (i:=j) om
 obtain ⟨bb9,oo9,rfl⟩:=hi4.base hz
 obtain ⟨_,⟨rfl,hb10⟩,hc10⟩:=hi4.elem hz
 refine xIx Tryz.underlying99 sz9 (h:=y1 lk9 hc10 0 (h:=xA (h:=Za (xM (h:=xM (h:=xR Zts rfl (Zf8 _ _ _ _ _ _ _ _ x z om2 _ hh hu) (h:=?_)))))))
 refine xN (h:=Zb rfl (fun g4=>?_) (fun g4=>?_))
 try simp only [sQ,ne_eq] at g4
 refine Za (xA (h:=Ze (Zy (Zk (ZN (Zy (Zy (Zk (ZN (Zy (Zk ?_)))))))))))
 exact eR t1 ⟨Zd (Zc3 hy (by rw [Zcv,Zc3 hz g4,Bool.and_false])).symm,rfl,rfl⟩
 try simp only [sQ,ne_eq] at g4
 refine ZY (ZS (Zo (Zj (xD (h:=xM (h:=?_))))))
 exact ZE (j+1) [0] so2 ⟨rfl,oz,ZaM hz hb g4⟩ t10 rfl
 try simp only [sQ,ne_eq] at g3
 refine ZD (ZW (ZG (Zs (ZS (Zo (Zj (xD (h:=xM (h:=?_)))))))))
 exact ZE (k+1) [] so2 ⟨rfl,oz,ZaM hy ha (by rw [Zcv,g2,Zet (Zbc oz hb)];rfl)⟩ t4 rfl
 try simp only [sQ,ne_eq] at g1
 refine ZD (ZW (ZG (Zs (Zo (Za (xA (h:=Ze ?_)))))))
 exact eR t1 ⟨Zd (Zet (Zbc oz ha)).symm,rfl,rfl⟩

theorem ZiW (f g:DFolder) (qa qb qc qd:Option Addr) (ca cb cc cd:Nat) (B:Kn):Zaa (pj J) 43 [.agg #[str f.owner,str f.name,.slice qa f.grants.length ca,.int .i64 f.next,.slice qb f.mail.length cb],.agg #[str g.owner,str g.name,.slice qc g.grants.length cc,.int .i64 g.next,.slice qd g.mail.length cd]] B (.bool (ZbK f g)):=by
 refine cB 24 Tryz.func43 (h:=?_)
 refine Za (xBx [_,_,_,_,_] (h:=fun b1=>xBx [_,_,_,_,_] (h:=fun b2=>xA (h:=tL2 (Za (xW Zcg (h:=x1 lk9 0 (h:=xW Zcg (h:=x1 lk9 1 (h:=ZpY (h:=xM (h:=Zv (d:=10) rfl (fun g1=>?_) (fun g1=>?_)))))))))))))
 refine xP (h:=xP (h:=xP (h:=xP (h:=xP (h:=xP (h:=xP (h:=xP (h:=xP (h:=xP (h:=xP (h:=xP (h:=xT (h:=xA (h:=Ze ?_))))))))))))))
 exact eR t1 ⟨Zd (by rw [Bool.eq_iff_iff];simp [ZbK,Zc2,g1]),rfl,rfl⟩
 refine xW Zcg (h:=x1 lk9 0 (h:=xW Zcg (h:=x1 lk9 1 (h:=ZdS (h:=xM (h:=Zv (d:=16) rfl (fun g2=>?_) (fun g2=>?_)))))))
 refine xW Zdh (h:=x1 lk9 0 (h:=xW Zdh (h:=x1 lk9 1 (h:=ZpY (h:=xT (h:=xF (h:=xA (h:=Ze ?_))))))))
 exact eR t1 ⟨Zd (by rw [Bool.eq_iff_iff];simp [ZbK,Zc2,g1,g2]),rfl,rfl⟩
 refine xP (h:=xP (h:=xP (h:=xP (h:=xP (h:=xF (h:=xF (h:=xA (h:=Ze ?_))))))))
 exact eR t1 ⟨Zd (by rw [Bool.eq_iff_iff];simp [ZbK,Zc2,g1,g2]),rfl,rfl⟩

theorem ZjO (q:Option Addr) (cp:Nat) (us:List DUser) (B:Kn) (hu:SlK B q cp 3 Zt us):Zaa (pj J) 54 [.slice q us.length cp] B (.bool (Zaw us)):=by
 refine cB 54 Tryz.func54 (h:=?_)
 have hun:=hu.len
 refine Za (xA (h:=Zc (Za (xA (h:=Zh (Zx (α:=Nat × Str) [0] (fun g=>[(3,.int .i64 g.1)]) [] (fun g=>[]) (fun g Bx=>Bx=B∧g.1≤us.length∧Zds (us.take g.1)=(true,g.2)∧Prev (fun y=>y.name) ([]:Str) us g.1 g.2) (fun g=>us.length - g.1) (0,[]) t1 rfl (⟨rfl,Nat.zero_le _,ZeQ,.zero⟩) (fun g B1 hle1 hI=>?_)))))))
 obtain ⟨rfl,hk,hs,hp⟩:=hI
 refine ZC [(0,_),(3,_)] [] t2 rfl (Zc (Za (xM (h:=xM (h:=xV Tryz.underlying30 (h:=ZF (h:=Zb rfl (fun g1=>?_) (fun g1=>?_))))))))
 try simp only [sQ,ne_eq] at g1
 refine wSk (Zc (Zh (Za (xM (h:=xM (h:=?_))))))
 obtain ⟨m,hm⟩:=ZX (xs:=us) (i:=g.1) om
 obtain ⟨bb3,oo3,rfl⟩:=hu.base hm
 obtain ⟨_,⟨rfl,hb4,hb4b⟩,hc4⟩:=hu.elem hm
 refine xIx Tryz.underlying30 ZdR (h:=yL [_,_,_] Zjx hc4 0 (h:=xAl [_,_,_] ZhB (h:=fun b5=>xS [_,_,_] 0 [_,_,_] ZdR (h:=tL1 (Zc (Z2 (same _ _) mo kr ⟨rfl,rfl⟩ (fun _ _=>?_)))))))
 refine aW 0 rfl ZbP (h:=aT 1 rfl (Zal fun D=>Zp rfl rfl lk9 rfl (atL 0 rfl rfl rfl) r4) (h:=aT 2 rfl (Zal fun D=>Zae rfl rfl Zqw rfl (Zbx _ om2 _) r4) (h:=?_)))
 refine aN 3 rfl (h:=aM 4 rfl (h:=Zay (d:=19) rfl (fun g2=>?_) (fun g2=>?_)))
 try simp only [sQ,ne_eq] at g2
 refine aZ 5 rfl (h:=aZ 6 rfl (h:=aZ 7 rfl (h:=aPT 8 rfl (h:=aM 9 rfl (h:=aZ 10 rfl (h:=aZ 11 rfl (h:=aZ 12 rfl (h:=aZ 13 rfl (h:=aPT 14 rfl (h:=aM 15 rfl (h:=aZ 16 rfl (h:=aZ 17 rfl (h:=aZ 18 rfl (h:=aZ 19 rfl (h:=aPT 20 rfl (h:=aM 21 rfl (h:=aZ 22 rfl (h:=aZ 23 rfl (h:=aZ 24 rfl (h:=aZ 25 rfl (h:=aZ 26 rfl (h:=aZ 27 rfl (h:=aZ 28 rfl (h:=aZ 29 rfl (h:=aZ 30 rfl (h:=aZ 31 rfl (h:=aZ 32 rfl (h:=aZ 33 rfl (h:=aZ 34 rfl (h:=aPT 35 rfl (h:=ZB kr kr ?_)))))))))))))))))))))))))))))))
 refine Zo (Zb (t:=true) rfl (fun _=>Za (xA (h:=Ze (Zy (Zk (ZN (Zy (Zk ?_)))))))) (fun h=>Bool.noConfusion h))
 exact eR t1 ⟨Zd (ZcC hm hs (by simp [Zev,ZcX,anyone,g1,g2])).symm,rfl,rfl⟩
 try simp only [sQ,ne_eq] at g2
 refine aW 5 rfl ZbP (h:=aT 6 rfl (Zal fun D=>Zp rfl rfl lk9 rfl (atL 0 rfl rfl rfl) r4) (h:=Ztk 7 rfl (h:=aPF 8 rfl (h:=aM 9 rfl (h:=Zay (d:=24) rfl (fun g3=>?_) (fun g3=>?_))))))
 try simp only [sQ,ne_eq] at g3
 refine aZ 10 rfl (h:=aZ 11 rfl (h:=aZ 12 rfl (h:=aZ 13 rfl (h:=aPT 14 rfl (h:=aM 15 rfl (h:=aZ 16 rfl (h:=aZ 17 rfl (h:=aZ 18 rfl (h:=aZ 19 rfl (h:=aPT 20 rfl (h:=aM 21 rfl (h:=aZ 22 rfl (h:=aZ 23 rfl (h:=aZ 24 rfl (h:=aZ 25 rfl (h:=aZ 26 rfl (h:=aZ 27 rfl (h:=aZ 28 rfl (h:=aZ 29 rfl (h:=aZ 30 rfl (h:=aZ 31 rfl (h:=aZ 32 rfl (h:=aZ 33 rfl (h:=aZ 34 rfl (h:=aPT 35 rfl (h:=ZB kr kr ?_))))))))))))))))))))))))))
 refine Zo (Zb (t:=true) rfl (fun _=>Za (xA (h:=Ze (Zy (Zk (ZN (Zy (Zk ?_)))))))) (fun h=>Bool.noConfusion h))
 exact eR t1 ⟨Zd (ZcC hm hs (by simp [Zev,ZcX,anyone,g1,g2,g3])).symm,rfl,rfl⟩
 try simp only [sQ,ne_eq] at g3
 refine aW 10 rfl ZgJ (h:=aT 11 rfl (Zal fun D=>Zp rfl rfl lk9 rfl (atL 0 rfl rfl rfl) r4) (h:=aT 12 rfl (Zal fun D=>Zae rfl rfl Zqw rfl (Zbx _ om2 _) r4) (h:=?_)))
 refine aN 13 rfl (h:=aPF 14 rfl (h:=aM 15 rfl (h:=Zay (d:=30) rfl (fun g4=>?_) (fun g4=>?_))))
 try simp only [sQ,ne_eq] at g4
 refine aZ 16 rfl (h:=aZ 17 rfl (h:=aZ 18 rfl (h:=aZ 19 rfl (h:=aPT 20 rfl (h:=aM 21 rfl (h:=aZ 22 rfl (h:=aZ 23 rfl (h:=aZ 24 rfl (h:=aZ 25 rfl (h:=aZ 26 rfl (h:=aZ 27 rfl (h:=aZ 28 rfl (h:=aZ 29 rfl (h:=aZ 30 rfl (h:=aZ 31 rfl (h:=aZ 32 rfl (h:=aZ 33 rfl (h:=aZ 34 rfl (h:=aPT 35 rfl (h:=ZB kr kr ?_))))))))))))))))))))
 refine Zo (Zb (t:=true) rfl (fun _=>Za (xA (h:=Ze (Zy (Zk (ZN (Zy (Zk ?_)))))))) (fun h=>Bool.noConfusion h))
 exact eR t1 ⟨Zd (ZcC hm hs (by simp [Zev,ZcX,anyone,g1,g2,g3,g4])).symm,rfl,rfl⟩
 try simp only [sQ,ne_eq] at g4
 refine aW 16 rfl ZeE (h:=aT 17 rfl (Zal fun D=>Zp rfl rfl lk3 rfl (atL 0 rfl rfl rfl) r4) (h:=aT 18 rfl (Zal fun D=>Zae rfl rfl ZpE rfl (Zfh _ _ _ _) r4) (h:=aN 19 rfl (h:=aPF 20 rfl (h:=aM 21 rfl (h:=Zay (d:=36) rfl (fun g5=>?_) (fun g5=>?_)))))))
 try simp only [sQ,ne_eq] at g5
 refine aZ 22 rfl (h:=aZ 23 rfl (h:=aZ 24 rfl (h:=aZ 25 rfl (h:=aZ 26 rfl (h:=aZ 27 rfl (h:=aZ 28 rfl (h:=aZ 29 rfl (h:=aZ 30 rfl (h:=aZ 31 rfl (h:=aZ 32 rfl (h:=aZ 33 rfl (h:=aZ 34 rfl (h:=aPT 35 rfl (h:=ZB kr kr ?_))))))))))))))
 refine Zo (Zb (t:=true) rfl (fun _=>Za (xA (h:=Ze (Zy (Zk (ZN (Zy (Zk ?_)))))))) (fun h=>Bool.noConfusion h))
 exact eR t1 ⟨Zd (ZcC hm hs (by simp [Zev,ZcX,anyone,g1,g2,g3,g4,g5])).symm,rfl,rfl⟩
 try simp only [sQ,ne_eq] at g5
 refine aM 22 rfl (h:=Zol 23 rfl (h:=aM 24 rfl (h:=Zay (d:=39) rfl (fun g6=>?_) (fun g6=>?_))))
 try simp only [sQ,ne_eq] at g6
 refine aM 25 rfl (h:=aM 26 rfl (h:=aU 27 rfl (h:=?_)))
 obtain ⟨y,hy⟩:=Ztp (xs:=us) (i:=(↑g.1 - 1)) om om
 obtain ⟨_,⟨rfl,hb10,hb10b⟩,hc10⟩:=hu.elem hy
 refine aIx 28 rfl Tryz.underlying30 ZdR (h:=?_)
 have hpe:=hp.at hy oz
 refine aW 29 rfl ZbP (h:=aT 30 rfl (Zal fun D=>Zp rfl rfl lk9 rfl (hc10 _ 0 _ rfl) r4) (h:=aW 31 rfl ZbP (h:=aT 32 rfl (Zal fun D=>Zp rfl rfl lk9 rfl (atL 0 rfl rfl rfl) r4) (h:=aT 33 rfl (Zal fun D=>Zp7 rfl rfl rfl rfl r4) (h:=aPT 34 rfl (h:=aPF 35 rfl (h:=ZB kr kr ?_)))))))
 refine Zo (Zb rfl (fun g7=>?_) (fun g7=>?_))
 try simp only [sQ,ne_eq] at g7
 refine Za (xA (h:=Ze (Zy (Zk (ZN (Zy (Zk ?_)))))))
 exact eR t1 ⟨Zd (ZcC hm hs (by simp [Zev,ZcX,anyone,g1,g2,g3,g4,g5,g6,g7,hpe])).symm,rfl,rfl⟩
 try simp only [sQ,ne_eq] at g7
 refine ZY (ZS (Zo (Zj (xM (h:=xD (h:=xA (h:=?_)))))))
 exact ZE (g.1+1,m.name) [] so2 ⟨rfl,oz,Zb9 hm hs (by rw [hpe];simp [Zev,ZcX,anyone,g2,g3,g4,g7];simp at g5;omega),.succ hm⟩ t2 rfl
 try simp only [sQ,ne_eq] at g6
 refine aZ 25 rfl (h:=aZ 26 rfl (h:=aZ 27 rfl (h:=aZ 28 rfl (h:=aZ 29 rfl (h:=aZ 30 rfl (h:=aZ 31 rfl (h:=aZ 32 rfl (h:=aZ 33 rfl (h:=aPF 34 rfl (h:=aPF 35 rfl (h:=ZB kr kr ?_)))))))))))
 refine Zo (Zb (t:=false) rfl (fun h=>Bool.noConfusion h) (fun _=>ZY (ZS (Zo (Zj (xM (h:=xD (h:=xA (h:=?_)))))))))
 exact ZE (g.1+1,m.name) [] so2 ⟨rfl,oz,Zb9 hm hs (by rw [hp.at0 oz];simp [Zev,ZcX,anyone,g2,g3,g4,Zk1 (Zhg g2)];simp at g5;omega),.succ hm⟩ t2 rfl
 try simp only [sQ,ne_eq] at g1
 refine ZD (ZW (ZG (Zs (Zo (Za (xM (h:=xV Tryz.underlying30 (h:=xR ZpE rfl (Zfh _ _ _ _) (h:=xA (h:=Ze ?_))))))))))
 exact eR t1 ⟨Zd (by rw [Zgl (ZdA hs oz),Bool.eq_iff_iff];simp;omega),rfl,rfl⟩

theorem ZmX (q:Option Addr) (cp:Nat) (gs:List DGrant) (B:Kn) (hg:SlK B q cp 2 ZZ gs):Zaa (pj J) 63 [.slice q gs.length cp] B (.bool (Zey gs)):=by
 refine cB 47 Tryz.func63 (h:=?_)
 have hgn:=hg.len
 refine Za (xA (h:=Zc (Za (xA (h:=Zh (Zx (α:=Nat × Str) [0] (fun g=>[(3,.int .i64 g.1)]) [] (fun g=>[]) (fun g Bx=>Bx=B∧g.1≤gs.length∧ZcN (gs.take g.1)=(true,g.2)∧Prev (fun y=>y.user) ([]:Str) gs g.1 g.2) (fun g=>gs.length - g.1) (0,[]) t1 rfl (⟨rfl,Nat.zero_le _,ZeQ,.zero⟩) (fun g B1 hle1 hI=>?_)))))))
 obtain ⟨rfl,hk,hs,hp⟩:=hI
 refine ZC [(0,_),(3,_)] [] t2 rfl (Zc (Za (xM (h:=xM (h:=xV Tryz.underlying54 (h:=ZF (h:=Zb rfl (fun g1=>?_) (fun g1=>?_))))))))
 try simp only [sQ,ne_eq] at g1
 refine wSk (Zc (Zh (Zc (Z2 (same _ _) mo kr ⟨rfl,rfl⟩ (fun _ _=>?_)))))
 refine aM 0 rfl (h:=aM 1 rfl (h:=?_))
 obtain ⟨m,hm⟩:=ZX (xs:=gs) (i:=g.1) om
 obtain ⟨bb3,oo3,rfl⟩:=hg.base hm
 obtain ⟨_,⟨rfl,hb4⟩,hc4⟩:=hg.elem hm
 refine aIx 2 rfl Tryz.underlying54 Zdu (h:=aW 3 rfl Zco (h:=aT 4 rfl (Zal fun D=>Zp rfl rfl lk9 rfl (hc4 _ 0 _ rfl) r4) (h:=aT 5 rfl (Zal fun D=>Zae rfl rfl Zqw rfl (Zbx _ om2 _) r4) (h:=?_))))
 refine aN 6 rfl (h:=aM 7 rfl (h:=Zay (d:=17) rfl (fun g2=>?_) (fun g2=>?_)))
 try simp only [sQ,ne_eq] at g2
 refine aZ 8 rfl (h:=aZ 9 rfl (h:=aZ 10 rfl (h:=aZ 11 rfl (h:=aZ 12 rfl (h:=aZ 13 rfl (h:=aZ 14 rfl (h:=aPT 15 rfl (h:=aM 16 rfl (h:=aZ 17 rfl (h:=aZ 18 rfl (h:=aZ 19 rfl (h:=aZ 20 rfl (h:=aZ 21 rfl (h:=aZ 22 rfl (h:=aZ 23 rfl (h:=aZ 24 rfl (h:=aZ 25 rfl (h:=aZ 26 rfl (h:=aZ 27 rfl (h:=aZ 28 rfl (h:=aZ 29 rfl (h:=aZ 30 rfl (h:=aZ 31 rfl (h:=aZ 32 rfl (h:=aPT 33 rfl (h:=ZB kr kr ?_))))))))))))))))))))))))))
 refine Zo (Zb (t:=true) rfl (fun _=>Za (xA (h:=Ze (Zy (Zk (ZN (Zy (Zk ?_)))))))) (fun h=>Bool.noConfusion h))
 exact eR t1 ⟨Zd (ZcS hm hs (by simp [Zcq,g1,g2])).symm,rfl,rfl⟩
 try simp only [sQ,ne_eq] at g2
 refine aM 8 rfl (h:=aM 9 rfl (h:=aIx 10 rfl Tryz.underlying54 Zdu (h:=aW 11 rfl ZdE (h:=aT 12 rfl (Zal fun D=>Zp rfl rfl lk3 rfl (hc4 _ 1 _ rfl) r4) (h:=aT 13 rfl (Zal fun D=>Zae rfl rfl ZpE rfl (Zfh _ _ _ _) r4) (h:=aN 14 rfl (h:=aPF 15 rfl (h:=aM 16 rfl (h:=Zay (d:=26) rfl (fun g4=>?_) (fun g4=>?_))))))))))
 try simp only [sQ,ne_eq] at g4
 refine aZ 17 rfl (h:=aZ 18 rfl (h:=aZ 19 rfl (h:=aZ 20 rfl (h:=aZ 21 rfl (h:=aZ 22 rfl (h:=aZ 23 rfl (h:=aZ 24 rfl (h:=aZ 25 rfl (h:=aZ 26 rfl (h:=aZ 27 rfl (h:=aZ 28 rfl (h:=aZ 29 rfl (h:=aZ 30 rfl (h:=aZ 31 rfl (h:=aZ 32 rfl (h:=aPT 33 rfl (h:=ZB kr kr ?_)))))))))))))))))
 refine Zo (Zb (t:=true) rfl (fun _=>Za (xA (h:=Ze (Zy (Zk (ZN (Zy (Zk ?_)))))))) (fun h=>Bool.noConfusion h))
 exact eR t1 ⟨Zd (ZcS hm hs (by simp [Zcq,g1,g2,g4])).symm,rfl,rfl⟩
 try simp only [sQ,ne_eq] at g4
 refine aM 17 rfl (h:=Zol 18 rfl (h:=aM 19 rfl (h:=Zay (d:=29) rfl (fun g6=>?_) (fun g6=>?_))))
 try simp only [sQ,ne_eq] at g6
 refine aM 20 rfl (h:=aM 21 rfl (h:=aU 22 rfl (h:=?_)))
 obtain ⟨y,hy⟩:=Ztp (xs:=gs) (i:=(↑g.1 - 1)) om om
 obtain ⟨_,⟨rfl,hb8⟩,hc8⟩:=hg.elem hy
 refine aIx 23 rfl Tryz.underlying54 Zdu (h:=?_)
 have hpe:=hp.at hy oz
 refine aW 24 rfl Zco (h:=aT 25 rfl (Zal fun D=>Zp rfl rfl lk9 rfl (hc8 _ 0 _ rfl) r4) (h:=aM 26 rfl (h:=aM 27 rfl (h:=aIx 28 rfl Tryz.underlying54 Zdu (h:=aW 29 rfl Zco (h:=aT 30 rfl (Zal fun D=>Zp rfl rfl lk9 rfl (hc4 _ 0 _ rfl) r4) (h:=aT 31 rfl (Zal fun D=>Zp7 rfl rfl rfl rfl r4) (h:=aPT 32 rfl (h:=aPF 33 rfl (h:=ZB kr kr ?_))))))))))
 refine Zo (Zb rfl (fun g7=>?_) (fun g7=>?_))
 try simp only [sQ,ne_eq] at g7
 refine Za (xA (h:=Ze (Zy (Zk (ZN (Zy (Zk ?_)))))))
 exact eR t1 ⟨Zd (ZcS hm hs (by simp [Zcq,g1,g2,g4,g6,g7,hpe])).symm,rfl,rfl⟩
 try simp only [sQ,ne_eq] at g7
 refine ZY (ZS (Zo (Zj (xM (h:=xD (h:=xA (h:=?_)))))))
 exact ZE (g.1+1,m.user) [] so2 ⟨rfl,oz,Zb9 hm hs (by rw [hpe];simp [Zcq,g2,g7];simp at g4;omega),.succ hm⟩ t2 rfl
 try simp only [sQ,ne_eq] at g6
 refine aZ 20 rfl (h:=aZ 21 rfl (h:=aZ 22 rfl (h:=aZ 23 rfl (h:=aZ 24 rfl (h:=aZ 25 rfl (h:=aZ 26 rfl (h:=aZ 27 rfl (h:=aZ 28 rfl (h:=aZ 29 rfl (h:=aZ 30 rfl (h:=aZ 31 rfl (h:=aPF 32 rfl (h:=aPF 33 rfl (h:=ZB kr kr ?_))))))))))))))
 refine Zo (Zb (t:=false) rfl (fun h=>Bool.noConfusion h) (fun _=>ZY (ZS (Zo (Zj (xM (h:=xD (h:=xA (h:=?_)))))))))
 exact ZE (g.1+1,m.user) [] so2 ⟨rfl,oz,Zb9 hm hs (by rw [hp.at0 oz];simp [Zcq,g2,Zk1 (Zhg g2)];simp at g4;omega),.succ hm⟩ t2 rfl
 try simp only [sQ,ne_eq] at g1
 refine ZD (ZW (ZG (Zs (Zo (Za (xM (h:=xV Tryz.underlying54 (h:=ZbT (h:=xA (h:=Ze ?_))))))))))
 exact eR t1 ⟨Zd (by rw [Zjt (ZdA hs oz),Bool.eq_iff_iff];simp;try omega),rfl,rfl⟩

theorem ZlM (q1 q2 q3:Option Addr) (c1 c2 c3:Nat) (x:DHost) (q:Option Addr) (cp:Nat) (ns:List Str) (B:Kn) (hu:SlK B q1 c1 3 Zt x.users) (hn:SlK B q cp 1 ZcT ns):Zaa (pj J) 58 [.agg #[str x.domain,.slice q1 x.users.length c1,.slice q2 x.folders.length c2,.int .i64 x.queue.next,.slice q3 x.queue.items.length c3],.slice q ns.length cp] B (.bool (ZiZ x.users ns)):=by
 refine cB 20 Tryz.func58 (h:=?_)
 have hnn:=hn.len
 have hun:=hu.len
 refine Za (xBx [_,_,_,_,_] (h:=fun b1=>xA (h:=tL1 (Zc (Za (xA (h:=Zh (Zx (α:=Nat) [0,1,2] (fun k=>[(5,.int .i64 k)]) [] (fun k=>[]) (fun k Bx=>Bx=B∧k≤ns.length∧∀z,z∈ns.take k→decide (0≤Zho x.users z)=true) (fun k=>ns.length - k) 0 t1 rfl (⟨rfl,Nat.zero_le _,by simp⟩) (fun k B2 hle2 hI=>?_)))))))))
 obtain ⟨rfl,hk,ha⟩:=hI
 refine ZC [(0,_),(1,_),(2,_),(5,_)] [_] t4 rfl (Zc (Za (xM (h:=xM (h:=xV Tryz.underlying99 (h:=ZF (h:=Zb rfl (fun g1=>?_) (fun g1=>?_))))))))
 try simp only [sQ,ne_eq] at g1
 refine wSk (Zc (Zh (Zc (Z2 (same _ _) mo kr ⟨rfl,rfl⟩ (fun _ _=>?_)))))
 refine aW 0 rfl ZbB (h:=aT 1 rfl (Zal fun D=>Zp rfl rfl ZhV rfl (atL 0 rfl rfl rfl) r4) (h:=aM 2 rfl (h:=aM 3 rfl (h:=?_))))
 obtain ⟨z,hz⟩:=ZX (xs:=ns) (i:=k) om
 obtain ⟨bb4,oo4,rfl⟩:=hn.base hz
 obtain ⟨_,⟨rfl,hb5⟩,hc5⟩:=hn.elem hz
 refine aIx 4 rfl Tryz.underlying99 sz9 (h:=aT 5 rfl (Zal fun D=>Zp rfl rfl lk9 rfl (hc5 _ 0 _ rfl) r4) (h:=aT 6 rfl (Zal fun D=>Zae rfl rfl Ztt rfl (Zfi _ _ _ _ _ hu) r4) (h:=ZkF 7 rfl (h:=ZB kr kr ?_))))
 refine Zo (Zb rfl (fun g2=>?_) (fun g2=>?_))
 try simp only [sQ,ne_eq] at g2
 refine Za (xA (h:=Ze (Zy (Zk (ZN (Zy (Zk ?_)))))))
 exact eR t1 ⟨Zd (Zc3 hz (by simp;omega)).symm,rfl,rfl⟩
 try simp only [sQ,ne_eq] at g2
 refine ZY (ZS (Zo (Zj (xM (h:=xD (h:=xA (h:=?_)))))))
 exact ZE (k+1) [0] so2 ⟨rfl,oz,ZaM hz ha (by simp;omega)⟩ t4 rfl
 try simp only [sQ,ne_eq] at g1
 refine ZD (ZW (ZG (Zs (Zo (Za (xA (h:=Ze ?_)))))))
 exact eR t1 ⟨Zd (Zet (Zbc oz ha)).symm,rfl,rfl⟩

theorem Znr (q1 q2 q3:Option Addr) (c1 c2 c3:Nat) (x:DHost) (u:Str) (B:Kn) (hf:SlK B q2 c2 5 Zn x.folders):Zaa (pj J) 57 [.agg #[str x.domain,.slice q1 x.users.length c1,.slice q2 x.folders.length c2,.int .i64 x.queue.next,.slice q3 x.queue.items.length c3],str u] B (.int .i64 (ZbR x.folders u)):=by
 refine cB 32 Tryz.func57 (h:=?_)
 have hfn:=hf.len
 refine Za (xBx [_,_,_,_,_] (h:=fun b1=>xA (h:=tL1 (Za (xA (h:=Zc (Za (xA (h:=Zh (Zx (α:=Nat × Nat) [0,1,2,4] (fun g=>[(5,.int .i64 g.2),(6,.int .i64 g.1)]) [] (fun g=>[]) (fun g Bx=>Bx=B∧g.1≤x.folders.length∧g.2=ZbR (x.folders.take g.1) u∧g.2≤g.1*4000000000000) (fun g=>x.folders.length - g.1) (0,0) t2 rfl (⟨rfl,Nat.zero_le _,by simp [ZbR],oz⟩) (fun g B2 hle2 hI=>?_)))))))))))
 obtain ⟨rfl,hk,hs,hl⟩:=hI
 refine ZC [(0,_),(1,_),(2,_),(4,_),(5,_),(6,_)] [_] t6 rfl (Zc (Za (xM (h:=xW Z3 (h:=x1 ZdN 0 (h:=xV Tryz.underlying31 (h:=ZF (h:=Zb rfl (fun g1=>?_) (fun g1=>?_)))))))))
 try simp only [sQ,ne_eq] at g1
 refine wSk (Zc (Zh (Za (xW Z3 (h:=x1 ZdN 0 (h:=xM (h:=?_)))))))
 obtain ⟨m,hm⟩:=ZX (xs:=x.folders) (i:=g.1) om
 obtain ⟨bb4,oo4,rfl⟩:=hf.base hm
 obtain ⟨_,⟨qg5,cg5,qm5,cm5,rfl,hg5,hm5,hb5,hb5b⟩,hc5⟩:=hf.elem hm
 have hg5n:=hg5.len
 have hm5n:=hm5.len
 have hm5s:=Zau hm5
 refine xIx Tryz.underlying31 ZaW (h:=xW Zcg (h:=y1 lk9 hc5 0 (h:=xM (h:=ZdS (h:=Zb rfl (fun g2=>?_) (fun g2=>?_))))))
 try simp only [sQ,ne_eq] at g2
 refine Zj (xM (h:=xW Z3 (h:=x1 ZdN 0 (h:=xM (h:=xIx Tryz.underlying31 ZaW (h:=xW ZcO (h:=yL [_,_] Zk5 hc5 3 (h:=xR Zv5 rfl (Znt _ _ (⟨m.next,m.mail⟩:DBox) _ hm5) (h:=xD (h:=xA (h:=ZS (Zo (Zj (xM (h:=xD (h:=xA (h:=?_)))))))))))))))))
 exact ZE (g.1+1,g.2+Za8 m.mail) [0] so2 ⟨rfl,so,by rw [Zhb hm,← hs,if_pos g2],so⟩ t6 rfl
 try simp only [sQ,ne_eq] at g2
 refine ZY (ZS (Zo (Zj (xM (h:=xD (h:=xA (h:=?_)))))))
 exact ZE (g.1+1,g.2) [0] so2 ⟨rfl,so,by rw [Zhb hm,← hs,if_neg g2];simp only [Nat.add_zero],Nat.le_trans hl (Nat.mul_le_mul_right _ (Nat.le_succ _))⟩ t6 rfl
 try simp only [sQ,ne_eq] at g1
 refine ZD (ZW (ZG (Zs (Zo (Za (xM (h:=xA (h:=Ze ?_))))))))
 exact eR t1 ⟨ZJ (by rw [← ZmE hs oz]),rfl,rfl⟩

end Go.Proofs.YtgbaglnnkikkgaaGreatDoor
