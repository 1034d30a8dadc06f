/-
  WHAT THE FUNCTIONS THAT THE LAWS REACH COMPUTE: each function's contract, proved off its printed body (the text is written by program). No condition beyond those that each theorem states.
-/
import Derived.Test.YtkiiodddgcdekaaGreatRows
import Derived.Test.YtkiiodddgcdekaaGreatL0
import Derived.KernelRfl
namespace Go.Proofs.YtkiiodddgcdekaaGreat
open Go Go.BL
set_option linter.unusedVariables false
set_option linter.unusedSimpArgs false
noncomputable abbrev pj (J : JoinT) : PJ := ⟨Tryz.prog, J⟩
noncomputable abbrev wgL : Go.Conc.Lib.WgLink := { add := 76, done := 78, wait := 81, relMerge := 115, disable := 116, enable := 117, inBubble := 118, associate := 119, fatal := 120, uOr := 121, uAdd := 122, raceRead := 123, uLoad := 124, uStore := 125, disassociate := 126, semrelease := 127, acquire := 129, isAssociated := 130, uCas := 131, raceWrite := 132, semacquire := 133, orU64 := 150, addU64 := 151, loadU64 := 152, storeU64 := 153, casU64 := 155, tWg := 115, tUP := 158, tAssoc := 159, tAU := 112, tU64 := 110, tUint := 163, tU32 := 113, tNoCopy := 107, tANoCopy := 108, tAlign64 := 109, tWgP := 156, tPU32 := 164, tPAU := 188, tPU64 := 190 }
theorem Zma : Go.Conc.Lib.WgLib Tryz.prog wgL :=
  ⟨Tryz.func76, Tryz.func78, Tryz.func81, Tryz.func115, Tryz.func116, Tryz.func117, Tryz.func118, Tryz.func119, Tryz.func120, Tryz.func121, Tryz.func122, Tryz.func123, Tryz.func124, Tryz.func125, Tryz.func126, Tryz.func127, Tryz.func129, Tryz.func130, Tryz.func131, Tryz.func132, Tryz.func133, Tryz.func150, Tryz.func151, Tryz.func152, Tryz.func153, Tryz.func155, Tryz.underlying156, Tryz.runUnderlying156, Tryz.sizeOf156, Tryz.isAgg156, Tryz.zeroValue156, Tryz.underlying158, Tryz.runUnderlying158, Tryz.sizeOf158, Tryz.isAgg158, Tryz.zeroValue158, Tryz.underlying159, Tryz.runUnderlying159, Tryz.sizeOf159, Tryz.isAgg159, Tryz.zeroValue159, Tryz.underlying115, Tryz.runUnderlying115, Tryz.sizeOf115, Tryz.isAgg115, Tryz.zeroValue115, Tryz.underlying112, Tryz.runUnderlying112, Tryz.sizeOf112, Tryz.isAgg112, Tryz.zeroValue112, Tryz.underlying110, Tryz.runUnderlying110, Tryz.sizeOf110, Tryz.isAgg110, Tryz.zeroValue110, Tryz.underlying163, Tryz.runUnderlying163, Tryz.sizeOf163, Tryz.isAgg163, Tryz.zeroValue163, Tryz.underlying113, Tryz.runUnderlying113, Tryz.sizeOf113, Tryz.isAgg113, Tryz.zeroValue113, Tryz.underlying164, Tryz.runUnderlying164, Tryz.sizeOf164, Tryz.isAgg164, Tryz.zeroValue164, Tryz.underlying188, Tryz.runUnderlying188, Tryz.sizeOf188, Tryz.isAgg188, Tryz.zeroValue188, Tryz.underlying190, Tryz.runUnderlying190, Tryz.sizeOf190, Tryz.isAgg190, Tryz.zeroValue190, Tryz.underlying0, Tryz.runUnderlying0, Tryz.sizeOf0, Tryz.isAgg0, Tryz.zeroValue0, Tryz.underlying3, Tryz.runUnderlying3, Tryz.sizeOf3, Tryz.isAgg3, Tryz.zeroValue3, Tryz.underlying4, Tryz.runUnderlying4, Tryz.sizeOf4, Tryz.isAgg4, Tryz.zeroValue4, Tryz.underlying9, Tryz.runUnderlying9, Tryz.sizeOf9, Tryz.isAgg9, Tryz.zeroValue9, Tryz.underlying20, Tryz.runUnderlying20, Tryz.sizeOf20, Tryz.isAgg20, Tryz.zeroValue20, Tryz.underlying21, Tryz.runUnderlying21, Tryz.sizeOf21, Tryz.isAgg21, Tryz.zeroValue21, (by kernel_rfl), (by kernel_rfl)⟩
theorem ZjX : enters Tryz.prog 86 = true := by kernel_rfl
theorem mo : Tryz.prog.follows .mixedOrders = true := by kernel_rfl
theorem Zdz : ZV Tryz.prog 98 1 = some 1 := by kernel_rfl
theorem lk3 : lk Tryz.prog 3 = some none := by kernel_rfl
theorem ZjR : ZV Tryz.prog 98 0 = some 0 := by kernel_rfl
theorem lk9 : lk Tryz.prog 9 = some none := by kernel_rfl
theorem Zu8 : enters Tryz.prog 72 = true := by kernel_rfl
theorem sz3 : Zaj Tryz.prog 3 = some 1 := by kernel_rfl
theorem Zv8 : enters Tryz.prog 145 = true := by kernel_rfl
theorem ZtK : enters Tryz.prog 109 = true := by kernel_rfl
theorem Zwk : enters Tryz.prog 110 = true := by kernel_rfl
theorem Zwq : Zbh Tryz.prog 98 = some [(0, 1), (1, 1)] := by kernel_rfl
theorem Zu1 : ZaX Tryz.prog 98 = some (.agg #[.string ⟨#[]⟩, .int .i64 0]) := by kernel_rfl
theorem Zwp : Zaj Tryz.prog 98 = some 2 := by kernel_rfl
theorem sz5 : Zaj Tryz.prog 5 = some 1 := by kernel_rfl
theorem Zwr : Zbh Tryz.prog 87 = some [(0, 1), (1, 1)] := by kernel_rfl
theorem Zwo : ZaX Tryz.prog 87 = some (.agg #[.slice none 0 0, .int .i64 0]) := by kernel_rfl
theorem Zqi : ZV Tryz.prog 87 1 = some 1 := by kernel_rfl
theorem Zhl : ZV Tryz.prog 87 0 = some 0 := by kernel_rfl
theorem ZsE : lk Tryz.prog 22 = some none := by kernel_rfl
theorem lk5 : lk Tryz.prog 5 = some none := by kernel_rfl
theorem Za5 : enters Tryz.prog 58 = true := by kernel_rfl
theorem sz9 : Zaj Tryz.prog 9 = some 1 := by kernel_rfl
theorem zo9 : ZaX Tryz.prog 9 = some (.string ⟨#[]⟩) := by kernel_rfl
theorem Zl7 : enters Tryz.prog 61 = true := by kernel_rfl
theorem ZoW : Zc3 Tryz.prog 75 9 1 16 = true := by kernel_rfl
theorem ZoV : (match Program.underlying Tryz.prog 75 with | some (.slice _) => true | _ => false) = true := by kernel_rfl
theorem ZwW : enters Tryz.prog 84 = true := by kernel_rfl
theorem ZrW : enters Tryz.prog 85 = true := by kernel_rfl
theorem Zdi : Zaj Tryz.prog 41 = some 3 := by kernel_rfl
theorem ZcH : ZV Tryz.prog 41 0 = some 0 := by kernel_rfl
theorem ZuE : enters Tryz.prog 156 = true := by kernel_rfl
theorem ZiJ : ZV Tryz.prog 103 0 = some 0 := by kernel_rfl
theorem ZiI : ZV Tryz.prog 103 1 = some 1 := by kernel_rfl
theorem ZhE : lk Tryz.prog 75 = some none := by kernel_rfl
theorem Zwd : enters Tryz.prog 135 = true := by kernel_rfl
theorem ZmP : ZV Tryz.prog 103 2 = some 2 := by kernel_rfl
theorem ZvT : enters Tryz.prog 166 = true := by kernel_rfl
theorem ZtX : enters Tryz.prog 79 = true := by kernel_rfl
theorem Zv7 : enters Tryz.prog 146 = true := by kernel_rfl
theorem Zwj : enters Tryz.prog 111 = true := by kernel_rfl
theorem ZaM : ZV Tryz.prog 27 1 = some 1 := by kernel_rfl
theorem ZfX : lk Tryz.prog 25 = some none := by kernel_rfl
theorem ZeG : Zaj Tryz.prog 77 = some 4 := by kernel_rfl
theorem Zl5 : lk Tryz.prog 77 = some (some 4) := by kernel_rfl
theorem Zi2 : ZaX Tryz.prog 77 = some (.agg #[.int .i64 0, .string ⟨#[]⟩, .string ⟨#[]⟩, .slice none 0 0]) := by kernel_rfl
theorem Ze6 : ZV Tryz.prog 77 0 = some 0 := by kernel_rfl
theorem ZnD : ZV Tryz.prog 77 1 = some 1 := by kernel_rfl
theorem ZbM : ZV Tryz.prog 77 3 = some 3 := by kernel_rfl
theorem Zqj : ZV Tryz.prog 77 2 = some 2 := by kernel_rfl
theorem Zrk : Zbh Tryz.prog 103 = some [(0, 1), (1, 1), (2, 1)] := by kernel_rfl
theorem ZnT : ZaX Tryz.prog 103 = some (.agg #[.string ⟨#[]⟩, .slice none 0 0, .string ⟨#[]⟩]) := by kernel_rfl
theorem ZvH : enters Tryz.prog 87 = true := by kernel_rfl
theorem Ze7 : ZV Tryz.prog 27 0 = some 0 := by kernel_rfl
theorem Zwa : enters Tryz.prog 142 = true := by kernel_rfl
theorem Zi3 : ZaX Tryz.prog 27 = some (.agg #[.int .i64 0, .slice none 0 0]) := by kernel_rfl
theorem ZsA : Zbh Tryz.prog 27 = some [(0, 1), (1, 1)] := by kernel_rfl
theorem ZfL : Zaj Tryz.prog 27 = some 2 := by kernel_rfl
theorem Zud : Zaj Tryz.prog 75 = some 1 := by kernel_rfl
theorem Zuy : Zc3 Tryz.prog 25 77 4 64 = true := by kernel_rfl
theorem Zui : (match Program.underlying Tryz.prog 25 with | some (.slice _) => true | _ => false) = true := by kernel_rfl
theorem Zuf : Zaj Tryz.prog 25 = some 1 := by kernel_rfl
theorem Zer : lk Tryz.prog 27 = some (some 2) := by kernel_rfl
theorem ZvI : enters Tryz.prog 46 = true := by kernel_rfl
theorem ZmA : lk Tryz.prog 103 = some (some 3) := by kernel_rfl
theorem Zeg : enters Tryz.prog 101 = true := by kernel_rfl
theorem ZwI : Zbh Tryz.prog 77 = some [(0, 1), (1, 1), (2, 1), (3, 1)] := by kernel_rfl
theorem ZvU : enters Tryz.prog 165 = true := by kernel_rfl
theorem ZuF : enters Tryz.prog 144 = true := by kernel_rfl
theorem Zv9 : enters Tryz.prog 143 = true := by kernel_rfl
theorem Zqy : enters Tryz.prog 104 = true := by kernel_rfl
theorem ZsX : Zaj Tryz.prog 103 = some 3 := by kernel_rfl
theorem ZrX : enters Tryz.prog 60 = true := by kernel_rfl
theorem ZuK : enters Tryz.prog 107 = true := by kernel_rfl
theorem Zr0 : enters Tryz.prog 106 = true := by kernel_rfl
theorem ZuJ : enters Tryz.prog 108 = true := by kernel_rfl
theorem zo3 : ZaX Tryz.prog 3 = some (.int .i64 0) := by kernel_rfl
theorem Zfp : lk Tryz.prog 153 = some none := by kernel_rfl
theorem ZvE : Zc3 Tryz.prog 153 3 1 8 = true := by kernel_rfl
theorem Zvv : (match Program.underlying Tryz.prog 153 with | some (.slice _) => true | _ => false) = true := by kernel_rfl
theorem Zug : Zaj Tryz.prog 153 = some 1 := by kernel_rfl
theorem Zd9 : Zke Tryz.prog 152 "Less" 199 false = true := by kernel_rfl
theorem Zqv : enters Tryz.prog 199 = true := by kernel_rfl
theorem Zd8 : Zke Tryz.prog 152 "Swap" 202 false = true := by kernel_rfl
theorem Zqu : enters Tryz.prog 202 = true := by kernel_rfl
theorem Zom : Zke Tryz.prog 152 "Push" 201 true = true := by kernel_rfl
theorem ZvM : enters Tryz.prog 201 = true := by kernel_rfl
theorem Zll : Zke Tryz.prog 152 "Len" 198 false = true := by kernel_rfl
theorem ZuA : enters Tryz.prog 198 = true := by kernel_rfl
theorem Zv6 : enters Tryz.prog 147 = true := by kernel_rfl
theorem Zv5 : enters Tryz.prog 148 = true := by kernel_rfl
theorem ZpT : Zke Tryz.prog 152 "Pop" 200 true = true := by kernel_rfl
theorem ZvN : enters Tryz.prog 200 = true := by kernel_rfl
theorem Zwi : enters Tryz.prog 112 = true := by kernel_rfl
theorem Zwh : enters Tryz.prog 113 = true := by kernel_rfl
theorem Zw3 : enters Tryz.prog 73 = true := by kernel_rfl
theorem Zw2 : enters Tryz.prog 74 = true := by kernel_rfl
theorem Zhm : ZV Tryz.prog 67 0 = some 0 := by kernel_rfl
theorem ZiG : ZV Tryz.prog 67 1 = some 1 := by kernel_rfl
theorem Zqx : enters Tryz.prog 140 = true := by kernel_rfl
theorem ZlE : ZV Tryz.prog 67 2 = some 2 := by kernel_rfl
theorem Zwl : enters Tryz.prog 100 = true := by kernel_rfl
theorem ZaQ : ZV Tryz.prog 36 1 = some 1 := by kernel_rfl
theorem Zfw : lk Tryz.prog 34 = some none := by kernel_rfl
theorem ZgE : Zaj Tryz.prog 67 = some 3 := by kernel_rfl
theorem ZsD : lk Tryz.prog 67 = some (some 3) := by kernel_rfl
theorem Zwc : enters Tryz.prog 136 = true := by kernel_rfl
theorem Zcq : ZV Tryz.prog 36 0 = some 0 := by kernel_rfl
theorem ZnS : ZaX Tryz.prog 67 = some (.agg #[.int .i64 0, .int .i64 0, .string ⟨#[]⟩]) := by kernel_rfl
theorem Zxb : enters Tryz.prog 63 = true := by kernel_rfl
theorem ZbL : lk Tryz.prog 36 = some (some 2) := by kernel_rfl
theorem ZwB : enters Tryz.prog 33 = true := by kernel_rfl
theorem ZjS : ZV Tryz.prog 41 1 = some 1 := by kernel_rfl
theorem ZfA : ZV Tryz.prog 41 2 = some 2 := by kernel_rfl
theorem Zl6 : lk Tryz.prog 41 = some (some 3) := by kernel_rfl
theorem ZeJ : ZaX Tryz.prog 41 = some (.agg #[.string ⟨#[]⟩, .string ⟨#[]⟩, .int .i64 0]) := by kernel_rfl
theorem Zxa : enters Tryz.prog 64 = true := by kernel_rfl
theorem ZwA : enters Tryz.prog 34 = true := by kernel_rfl
theorem ZpI : Zbh Tryz.prog 41 = some [(0, 1), (1, 1), (2, 1)] := by kernel_rfl
theorem Zxs : enters Tryz.prog 35 = true := by kernel_rfl
theorem Zxr : enters Tryz.prog 36 = true := by kernel_rfl
theorem ZaK : ZV Tryz.prog 29 1 = some 1 := by kernel_rfl
theorem Zfj : lk Tryz.prog 23 = some none := by kernel_rfl
theorem Zvc : enters Tryz.prog 14 = true := by kernel_rfl
theorem ZT : ZV Tryz.prog 29 2 = some 2 := by kernel_rfl
theorem ZbV : lk Tryz.prog 24 = some none := by kernel_rfl
theorem ZaT : Zaj Tryz.prog 38 = some 5 := by kernel_rfl
theorem Zce : ZV Tryz.prog 38 0 = some 0 := by kernel_rfl
theorem ZdA : ZV Tryz.prog 38 1 = some 1 := by kernel_rfl
theorem ZeC : lk Tryz.prog 38 = some (some 5) := by kernel_rfl
theorem ZwV : enters Tryz.prog 91 = true := by kernel_rfl
theorem ZwU : enters Tryz.prog 92 = true := by kernel_rfl
theorem ZcD : ZV Tryz.prog 29 3 = some 3 := by kernel_rfl
theorem Zu9 : enters Tryz.prog 29 = true := by kernel_rfl
theorem ZbG : Zaj Tryz.prog 126 = some 2 := by kernel_rfl
theorem ZcP : ZV Tryz.prog 126 0 = some 0 := by kernel_rfl
theorem ZgP : ZV Tryz.prog 126 1 = some 1 := by kernel_rfl
theorem ZoX : enters Tryz.prog 31 = true := by kernel_rfl
theorem ZbY : ZV Tryz.prog 38 3 = some 3 := by kernel_rfl
theorem Zxc : enters Tryz.prog 62 = true := by kernel_rfl
theorem ZcS : ZaX Tryz.prog 38 = some (.agg #[.string ⟨#[]⟩, .string ⟨#[]⟩, .slice none 0 0, .int .i64 0, .slice none 0 0]) := by kernel_rfl
theorem ZdS : ZV Tryz.prog 38 2 = some 2 := by kernel_rfl
theorem Zru : lk Tryz.prog 33 = some none := by kernel_rfl
theorem Zu7 : enters Tryz.prog 88 = true := by kernel_rfl
theorem Zu6 : enters Tryz.prog 89 = true := by kernel_rfl
theorem Zws : enters Tryz.prog 90 = true := by kernel_rfl
theorem ZnE : ZV Tryz.prog 29 0 = some 0 := by kernel_rfl
theorem Zxk : enters Tryz.prog 44 = true := by kernel_rfl
theorem Zwy : enters Tryz.prog 45 = true := by kernel_rfl
theorem ZZ : lk Tryz.prog 29 = some (some 5) := by kernel_rfl
theorem Zxj : enters Tryz.prog 47 = true := by kernel_rfl
theorem ZrY : enters Tryz.prog 48 = true := by kernel_rfl
theorem ZvJ : enters Tryz.prog 32 = true := by kernel_rfl
theorem Zwx : enters Tryz.prog 49 = true := by kernel_rfl
theorem Zon : lk Tryz.prog 126 = some (some 2) := by kernel_rfl
theorem ZdJ : ZaX Tryz.prog 126 = some (.agg #[.string ⟨#[]⟩, .int .i64 0]) := by kernel_rfl
theorem Zv3 : enters Tryz.prog 154 = true := by kernel_rfl
theorem Zwf : enters Tryz.prog 128 = true := by kernel_rfl
theorem Zuv : Extern.findNext Tryz.f149 = none := by kernel_rfl
theorem Zuw : Extern.find Tryz.f149 = some Extern.BytealgCompare.compare := by kernel_rfl
theorem Zwg : enters Tryz.prog 114 = true := by kernel_rfl
theorem Zwt : enters Tryz.prog 75 = true := by kernel_rfl
theorem ZwG : enters Tryz.prog 13 = true := by kernel_rfl
theorem ZwC : enters Tryz.prog 30 = true := by kernel_rfl
theorem Zww : enters Tryz.prog 50 = true := by kernel_rfl
theorem ZwX : enters Tryz.prog 83 = true := by kernel_rfl
theorem sz4 : Zaj Tryz.prog 4 = some 1 := by kernel_rfl
theorem lk4 : lk Tryz.prog 4 = some none := by kernel_rfl
theorem Zwe : enters Tryz.prog 134 = true := by kernel_rfl
theorem Zw4 : enters Tryz.prog 71 = true := by kernel_rfl
theorem Zup : lk Tryz.prog 105 = some none := by kernel_rfl
theorem ZvA : lk Tryz.prog 90 = some none := by kernel_rfl
theorem Zw0 : enters Tryz.prog 80 = true := by kernel_rfl
theorem Zvf : ZaX Tryz.prog 115 = some (.agg #[.int .u64 0, .int .u32 0]) := by kernel_rfl
theorem ZvF : Zc3 Tryz.prog 105 4 1 1 = true := by kernel_rfl
theorem zo4 : ZaX Tryz.prog 4 = some (.bool false) := by kernel_rfl
theorem Zvg : ZaX Tryz.prog 105 = some (.slice none 0 0) := by kernel_rfl
theorem Zvu : Zaj Tryz.prog 105 = some 1 := by kernel_rfl
theorem Zw1 : enters Tryz.prog 76 = true := by kernel_rfl
theorem ZwZ : enters Tryz.prog 81 = true := by kernel_rfl
theorem ZwY : enters Tryz.prog 82 = true := by kernel_rfl
theorem Zxq : enters Tryz.prog 38 = true := by kernel_rfl
theorem Zxp : enters Tryz.prog 39 = true := by kernel_rfl
theorem Zxo : enters Tryz.prog 40 = true := by kernel_rfl
theorem Zxn : enters Tryz.prog 41 = true := by kernel_rfl
theorem Zxm : enters Tryz.prog 42 = true := by kernel_rfl
theorem Zxl : enters Tryz.prog 43 = true := by kernel_rfl
theorem Zl8 : enters Tryz.prog 17 = true := by kernel_rfl
theorem ZoI : enters Tryz.prog 16 = true := by kernel_rfl
theorem ZwR : enters Tryz.prog 96 = true := by kernel_rfl
theorem Zl9 : ZaX Tryz.prog 54 = some (.agg #[.string ⟨#[]⟩, .string ⟨#[]⟩, .string ⟨#[]⟩]) := by kernel_rfl
theorem Zsz : Zbh Tryz.prog 54 = some [(0, 1), (1, 1), (2, 1)] := by kernel_rfl
theorem Zpm : Zaj Tryz.prog 54 = some 3 := by kernel_rfl
theorem Zkf : lk Tryz.prog 54 = some (some 3) := by kernel_rfl
theorem Zxd : enters Tryz.prog 57 = true := by kernel_rfl
theorem ZvL : enters Tryz.prog 25 = true := by kernel_rfl
theorem Ztx : Zgw Tryz.prog 126 [(0, 9), (1, 3)] = true := by kernel_rfl
theorem Zuu : Zgw Tryz.prog 67 [(0, 3), (1, 3), (2, 9)] = true := by kernel_rfl
theorem ZwS : enters Tryz.prog 94 = true := by kernel_rfl
theorem Zxh : enters Tryz.prog 52 = true := by kernel_rfl
theorem Zxg : enters Tryz.prog 53 = true := by kernel_rfl
theorem ZmS : Zc3 Tryz.prog 23 41 3 40 = true := by kernel_rfl
theorem Zmj : (match Program.underlying Tryz.prog 23 with | some (.slice _) => true | _ => false) = true := by kernel_rfl
theorem Zfe : ZaX Tryz.prog 36 = some (.agg #[.int .i64 0, .slice none 0 0]) := by kernel_rfl
theorem Zu5 : Zc3 Tryz.prog 34 67 3 32 = true := by kernel_rfl
theorem Zu2 : (match Program.underlying Tryz.prog 34 with | some (.slice _) => true | _ => false) = true := by kernel_rfl
theorem Znn : Zbh Tryz.prog 36 = some [(0, 1), (1, 1)] := by kernel_rfl
theorem ZcJ : Zaj Tryz.prog 36 = some 2 := by kernel_rfl
theorem Zqt : Zc3 Tryz.prog 33 126 2 24 = true := by kernel_rfl
theorem Zpq : (match Program.underlying Tryz.prog 33 with | some (.slice _) => true | _ => false) = true := by kernel_rfl
theorem Zue : Zaj Tryz.prog 33 = some 1 := by kernel_rfl
theorem ZwT : enters Tryz.prog 93 = true := by kernel_rfl
theorem Zs3 : Zbh Tryz.prog 38 = some [(0, 1), (1, 1), (2, 1), (3, 2)] := by kernel_rfl
theorem Zxi : enters Tryz.prog 51 = true := by kernel_rfl
theorem ZaR : ZaX Tryz.prog 29 = some (.agg #[.string ⟨#[]⟩, .slice none 0 0, .slice none 0 0, .int .i64 0, .slice none 0 0]) := by kernel_rfl
theorem Zd5 : Zbh Tryz.prog 29 = some [(0, 1), (1, 1), (2, 1), (3, 2)] := by kernel_rfl
theorem Zav : Zaj Tryz.prog 29 = some 5 := by kernel_rfl
theorem ZiN : Zc3 Tryz.prog 24 38 5 88 = true := by kernel_rfl
theorem Zh3 : (match Program.underlying Tryz.prog 24 with | some (.slice _) => true | _ => false) = true := by kernel_rfl
theorem Zpn : Zaj Tryz.prog 24 = some 1 := by kernel_rfl
theorem ZtE : enters Tryz.prog 180 = true := by kernel_rfl
theorem ZvP : enters Tryz.prog 177 = true := by kernel_rfl
theorem ZuD : enters Tryz.prog 173 = true := by kernel_rfl
theorem Zvs : Zaj Tryz.prog 34 = some 1 := by kernel_rfl
theorem ZvG : enters Tryz.prog 95 = true := by kernel_rfl
theorem Zwv : enters Tryz.prog 55 = true := by kernel_rfl
theorem ZwJ : Zbh Tryz.prog 67 = some [(0, 1), (1, 1), (2, 1)] := by kernel_rfl
theorem ZnK : enters Tryz.prog 65 = true := by kernel_rfl
theorem ZuG : enters Tryz.prog 141 = true := by kernel_rfl
theorem Zqw : enters Tryz.prog 167 = true := by kernel_rfl
theorem ZrZ : enters Tryz.prog 168 = true := by kernel_rfl
theorem ZuH : enters Tryz.prog 139 = true := by kernel_rfl
theorem Zs4 : Zbh Tryz.prog 126 = some [(0, 1), (1, 1)] := by kernel_rfl
theorem ZtL : enters Tryz.prog 102 = true := by kernel_rfl
theorem ZtF : enters Tryz.prog 178 = true := by kernel_rfl
theorem ZvS : enters Tryz.prog 174 = true := by kernel_rfl
theorem ZvR : enters Tryz.prog 175 = true := by kernel_rfl
theorem Zuz : Zc3 Tryz.prog 137 3 1 8 = true := by kernel_rfl
theorem Zuj : (match Program.underlying Tryz.prog 137 with | some (.slice _) => true | _ => false) = true := by kernel_rfl
theorem Zpo : Zaj Tryz.prog 195 = some 2 := by kernel_rfl
theorem Zqm : ZV Tryz.prog 195 0 = some 0 := by kernel_rfl
theorem Zql : ZV Tryz.prog 195 1 = some 1 := by kernel_rfl
theorem ZtJ : enters Tryz.prog 169 = true := by kernel_rfl
theorem ZvO : enters Tryz.prog 179 = true := by kernel_rfl
theorem Zut : ZV Tryz.prog 54 1 = some 1 := by kernel_rfl
theorem Zus : ZV Tryz.prog 54 2 = some 2 := by kernel_rfl
theorem Zqk : ZV Tryz.prog 54 0 = some 0 := by kernel_rfl
theorem ZvQ : enters Tryz.prog 176 = true := by kernel_rfl
theorem ZtI : enters Tryz.prog 170 = true := by kernel_rfl
theorem ZtG : enters Tryz.prog 172 = true := by kernel_rfl
theorem ZtH : enters Tryz.prog 171 = true := by kernel_rfl
theorem ZkB : enters Tryz.prog 105 = true := by kernel_rfl
theorem Zf1 : ZV Tryz.prog 133 1 = some 1 := by kernel_rfl
theorem Zkw : ZV Tryz.prog 133 2 = some 2 := by kernel_rfl
theorem ZiH : ZV Tryz.prog 133 3 = some 3 := by kernel_rfl
theorem Zbu : ZV Tryz.prog 133 6 = some 6 := by kernel_rfl
theorem Zvw : Zbh Tryz.prog 195 = some [(0, 1), (1, 1)] := by kernel_rfl
theorem ZtZ : ZaX Tryz.prog 195 = some (.agg #[.int .i64 0, .int .i64 0]) := by kernel_rfl
theorem Zb8 : ZV Tryz.prog 133 0 = some 0 := by kernel_rfl
theorem Zv2 : enters Tryz.prog 157 = true := by kernel_rfl
theorem Zd0 : ZV Tryz.prog 133 4 = some 4 := by kernel_rfl
theorem Zv1 : enters Tryz.prog 158 = true := by kernel_rfl
theorem Zqn : ZV Tryz.prog 133 5 = some 5 := by kernel_rfl
theorem Zv0 : enters Tryz.prog 159 = true := by kernel_rfl
theorem ZvZ : enters Tryz.prog 160 = true := by kernel_rfl
theorem ZvY : enters Tryz.prog 161 = true := by kernel_rfl
theorem ZmO : ZV Tryz.prog 133 7 = some 7 := by kernel_rfl
theorem ZvX : enters Tryz.prog 162 = true := by kernel_rfl
theorem ZvW : enters Tryz.prog 163 = true := by kernel_rfl
theorem ZvV : enters Tryz.prog 164 = true := by kernel_rfl
theorem Ztg : lk Tryz.prog 133 = some (some 8) := by kernel_rfl
theorem Zwb : enters Tryz.prog 137 = true := by kernel_rfl
theorem Zva : enters Tryz.prog 28 = true := by kernel_rfl
theorem ZsQ : ZaX Tryz.prog 133 = some (.agg #[.int .i64 0, .string ⟨#[]⟩, .string ⟨#[]⟩, .string ⟨#[]⟩, .string ⟨#[]⟩, .string ⟨#[]⟩, .int .i64 0, .int .i64 0]) := by kernel_rfl
theorem Zvx : Zbh Tryz.prog 133 = some [(0, 1), (1, 1), (2, 1), (3, 1), (4, 1), (5, 1), (6, 1), (7, 1)] := by kernel_rfl
theorem Zuh : Zaj Tryz.prog 133 = some 8 := by kernel_rfl
theorem ZuI : enters Tryz.prog 138 = true := by kernel_rfl
theorem Zr1 : enters Tryz.prog 103 = true := by kernel_rfl
theorem ZwQ : enters Tryz.prog 97 = true := by kernel_rfl
theorem ZwO : enters Tryz.prog 99 = true := by kernel_rfl
theorem ZwP : enters Tryz.prog 98 = true := by kernel_rfl
theorem Zwu : enters Tryz.prog 59 = true := by kernel_rfl
theorem Zw9 : enters Tryz.prog 66 = true := by kernel_rfl
theorem Zw8 : enters Tryz.prog 67 = true := by kernel_rfl
theorem Zvt : Zaj Tryz.prog 23 = some 1 := by kernel_rfl
theorem Zw7 : enters Tryz.prog 68 = true := by kernel_rfl
theorem Zw6 : enters Tryz.prog 69 = true := by kernel_rfl
theorem Zw5 : enters Tryz.prog 70 = true := by kernel_rfl
theorem Zwz : enters Tryz.prog 37 = true := by kernel_rfl
theorem Zvb : enters Tryz.prog 26 = true := by kernel_rfl
theorem ZvK : enters Tryz.prog 27 = true := by kernel_rfl
theorem Zxf : enters Tryz.prog 54 = true := by kernel_rfl
theorem Zxe : enters Tryz.prog 56 = true := by kernel_rfl
theorem Zxw : enters Tryz.prog 10 = true := by kernel_rfl
theorem ZwH : enters Tryz.prog 11 = true := by kernel_rfl
theorem Zxv : enters Tryz.prog 12 = true := by kernel_rfl
theorem ZwF : enters Tryz.prog 22 = true := by kernel_rfl
theorem ZwE : enters Tryz.prog 23 = true := by kernel_rfl
theorem ZwD : enters Tryz.prog 24 = true := by kernel_rfl
theorem ZnF : Zgw Tryz.prog 54 [(0, 9), (1, 9), (2, 9)] = true := by kernel_rfl
theorem Zxu : enters Tryz.prog 20 = true := by kernel_rfl
theorem ZuC : enters Tryz.prog 18 = true := by kernel_rfl
theorem Zxt : enters Tryz.prog 21 = true := by kernel_rfl
theorem ZuB : enters Tryz.prog 19 = true := by kernel_rfl
theorem Zv4 : enters Tryz.prog 15 = true := by kernel_rfl
set_option maxRecDepth 4000
variable {J : JoinT}
abbrev cur (b : Nat) (l : List UInt8) (i : Nat) : Cells := Zbn b [str l, .int .i64 i] 98
set_option maxHeartbeats 400000 in
theorem Zco (n lo hi:Int) (B:Kn):Za6 (pj J) 86 [.int .i64 n,.int .i64 lo,.int .i64 hi] B (.bool (decide (lo≤n) && decide (n≤hi))):=by
 refine Zc 15 Tryz.func86 rfl rfl rfl (Nat.le_of_ble_eq_true rfl) ?_
 refine Za (xA (h:=Z4 [(0,_),(1,_),(2,_),(6,_)] t4 (Za (xM (h:=xM (h:=Zd2 (h:=xM (h:=Zq (d:=10) rfl (fun g1=>?_) (fun g1=>?_)))))))))
 try simp only [sQ,ne_eq] at g1
 refine xM (h:=xM (h:=ZcF (h:=xT (h:=xA (h:=Z4 [(0,_),(1,_),(2,_),(6,_)] t4 (Zh ?_))))))
 exact ZW .ret (.inl rfl) [_] t1 ⟨by exact Zm (by rw [Bool.eq_iff_iff];simp [];omega),rfl,rfl⟩
 try simp only [sQ,ne_eq] at g1
 refine xP (h:=xP (h:=xP (h:=xF (h:=xA (h:=Z4 [(0,_),(1,_),(2,_),(6,_)] t4 (Zh ?_))))))
 exact ZW .ret (.inl rfl) [_] t1 ⟨by exact Zm (by rw [Bool.eq_iff_iff];simp [];omega),rfl,rfl⟩

set_option maxHeartbeats 400000 in
theorem Zol (c:UInt8) (B:Kn):Za6 (pj J) 145 [.int .u8 c.toNat] B (.bool (ZbH c)):=by
 refine Zc 17 Tryz.func145 rfl rfl rfl (Nat.le_of_ble_eq_true rfl) ?_
 refine Za (xA (h:=Z4 [(0,_),(2,_)] t2 (Za (xM (h:=Zd2 (h:=xM (h:=Zq (d:=5) rfl (fun g1=>?_) (fun g1=>?_))))))))
 try simp only [sQ,ne_eq] at g1
 refine xM (h:=ZcF (h:=xT (h:=xM (h:=Zq (d:=9) rfl (fun g2=>?_) (fun g2=>?_)))))
 try simp only [sQ,ne_eq] at g2
 refine xP (h:=xP (h:=xP (h:=xP (h:=xP (h:=xP (h:=xT (h:=xA (h:=Z4 [(0,_),(2,_)] t2 (Zh ?_)))))))))
 exact ZW .ret (.inl rfl) [_] t1 ⟨by exact Zm (by rw [Bool.eq_iff_iff];simp [ZbH];omega),rfl,rfl⟩
 try simp only [sQ,ne_eq] at g2
 refine xM (h:=Zd2 (h:=xM (h:=Zq (d:=12) rfl (fun g3=>?_) (fun g3=>?_))))
 try simp only [sQ,ne_eq] at g3
 refine xM (h:=ZcF (h:=xT (h:=xF (h:=xA (h:=Z4 [(0,_),(2,_)] t2 (Zh ?_))))))
 exact ZW .ret (.inl rfl) [_] t1 ⟨by exact Zm (by rw [Bool.eq_iff_iff];simp [ZbH];omega),rfl,rfl⟩
 try simp only [sQ,ne_eq] at g3
 refine xP (h:=xP (h:=xF (h:=xF (h:=xA (h:=Z4 [(0,_),(2,_)] t2 (Zh ?_))))))
 exact ZW .ret (.inl rfl) [_] t1 ⟨by exact Zm (by rw [Bool.eq_iff_iff];simp [ZbH];omega),rfl,rfl⟩
 try simp only [sQ,ne_eq] at g1
 refine xP (h:=xP (h:=xF (h:=xM (h:=xM (h:=Zd2 (h:=xM (h:=Zq (d:=12) rfl (fun g4=>?_) (fun g4=>?_))))))))
 try simp only [sQ,ne_eq] at g4
 refine xM (h:=ZcF (h:=xT (h:=xF (h:=xA (h:=Z4 [(0,_),(2,_)] t2 (Zh ?_))))))
 exact ZW .ret (.inl rfl) [_] t1 ⟨by exact Zm (by rw [Bool.eq_iff_iff];simp [ZbH];omega),rfl,rfl⟩
 try simp only [sQ,ne_eq] at g4
 refine xP (h:=xP (h:=xF (h:=xF (h:=xA (h:=Z4 [(0,_),(2,_)] t2 (Zh ?_))))))
 exact ZW .ret (.inl rfl) [_] t1 ⟨by exact Zm (by rw [Bool.eq_iff_iff];simp [ZbH];omega),rfl,rfl⟩

set_option maxHeartbeats 400000 in
theorem Zb0 (l:List UInt8) (hl:l.length≤2000000) (B:Kn):Za6 (pj J) 85 [str l] B (.bool (Zay l)):=by
 refine Zc 37 Tryz.func85 rfl rfl rfl (Nat.le_of_ble_eq_true rfl) ?_
 refine Za (xA (h:=Z4 [(0,_),(2,_)] t2 (Zk (Za (xA (h:=Z4 [(0,_),(2,_),(3,_)] t3 (Zp (ZkP (α:=Nat) (fun k=>[(0,str l),(3,.int .i64 k)]) (fun k=>[]) (fun k Bx=>Bx=B∧k≤l.length∧(l.take k).all ZbH=true) (fun k=>l.length - k) 0 t2 rfl (⟨rfl,Nat.zero_le _,by simp⟩) (fun k B1 hle1 hI=>?_)))))))))
 obtain ⟨rfl,hk,ha⟩:=hI
 refine Zk (Za (xM (h:=xM (h:=xVs Tryz.underlying9 (h:=Zaf (h:=Z4 [(0,_),(3,_),(7,_)] t3 (Zd rfl (fun g1=>?_) (fun g1=>?_))))))))
 try simp only [sQ,ne_eq] at g1
 obtain ⟨c,hc⟩ :∃c,l[k]? = some c:=⟨_,List.getElem?_eq_getElem oz⟩
 refine Zi (Zf (Zk (Zp (Zji 33 (!(ZbH c)) [0,3,7] ?_ ?_))))
 refine xM (h:=xM (h:=Zo (Zel rfl rfl Tryz.underlying9 rfl rfl oz (by simpa using hc) ?_)))
 refine Zd2 (h:=xM (h:=Zq (d:=14) rfl (fun g1=>?_) (fun g1=>?_)))
 try simp only [sQ,ne_eq] at g1
 refine xM (h:=xM (h:=Zo (Zel rfl rfl Tryz.underlying9 rfl rfl oz (by simpa using hc) ?_)))
 refine ZcF (h:=xT (h:=xN (h:=xM (h:=Zq (d:=21) rfl (fun g2=>?_) (fun g2=>?_)))))
 try simp only [sQ,ne_eq] at g2
 refine xM (h:=xM (h:=Zo (Zel rfl rfl Tryz.underlying9 rfl rfl oz (by simpa using hc) ?_)))
 refine Zd2 (h:=xM (h:=Zq (d:=26) rfl (fun g3=>?_) (fun g3=>?_)))
 try simp only [sQ,ne_eq] at g3
 refine xM (h:=xM (h:=Zo (Zel rfl rfl Tryz.underlying9 rfl rfl oz (by simpa using hc) ?_)))
 refine ZcF (h:=xT (h:=xN (h:=xT (h:=?_))))
 exact ⟨rfl,rfl,rfl,Zdc rfl (by rw [Bool.eq_iff_iff];simp [ZbH,];omega),t3⟩
 try simp only [sQ,ne_eq] at g3
 refine xP (h:=xP (h:=xP (h:=xP (h:=xF (h:=xN (h:=xT (h:=?_)))))))
 exact ⟨rfl,rfl,rfl,Zdc rfl (by rw [Bool.eq_iff_iff];simp [ZbH,];omega),t3⟩
 try simp only [sQ,ne_eq] at g2
 refine xP (h:=xP (h:=xP (h:=xP (h:=xP (h:=xP (h:=xP (h:=xP (h:=xP (h:=xP (h:=xP (h:=xF (h:=?_))))))))))))
 exact ⟨rfl,rfl,rfl,Zdc rfl (by rw [Bool.eq_iff_iff];simp [ZbH,];omega),t3⟩
 try simp only [sQ,ne_eq] at g1
 refine xP (h:=xP (h:=xP (h:=xP (h:=xF (h:=xN (h:=xM (h:=xM (h:=xM (h:=Zo (Zel rfl rfl Tryz.underlying9 rfl rfl oz (by simpa using hc) ?_))))))))))
 refine Zd2 (h:=xM (h:=Zq (d:=26) rfl (fun g4=>?_) (fun g4=>?_)))
 try simp only [sQ,ne_eq] at g4
 refine xM (h:=xM (h:=Zo (Zel rfl rfl Tryz.underlying9 rfl rfl oz (by simpa using hc) ?_)))
 refine ZcF (h:=xT (h:=xN (h:=xT (h:=?_))))
 exact ⟨rfl,rfl,rfl,Zdc rfl (by rw [Bool.eq_iff_iff];simp [ZbH,];omega),t3⟩
 try simp only [sQ,ne_eq] at g4
 refine xP (h:=xP (h:=xP (h:=xP (h:=xF (h:=xN (h:=xT (h:=?_)))))))
 exact ⟨rfl,rfl,rfl,Zdc rfl (by rw [Bool.eq_iff_iff];simp [ZbH,];omega),t3⟩
 refine Z4 [(0,_),(3,_),(7,_),(33,_)] t4 (Zd rfl (fun g9=>?_) (fun g9=>?_))
 try simp only [sQ,ne_eq] at g9
 refine Za (xA (h:=Z4 [(0,_),(2,_),(3,_),(7,_),(33,_)] t5 (Zh (ZO (Zs (Zs0 (ZO (Zs ?_))))))))
 exact ZW .ret (.inl rfl) [_] t1 ⟨Zm (by simp [Zay,Zse hc g9]),rfl,rfl⟩
 try simp only [sQ,ne_eq] at g9
 refine Zi (ZA (Zf (Ze (xM (h:=Zo (ZeL rfl rfl rfl rfl (by first | exact ZaY oz oz | rfl) ?_))))))
 refine xA (h:=?_)
 exact Zn8 (k+1) oz ⟨rfl,oz,ZnQ hc g9 ha⟩ t2 rfl
 try simp only [sQ,ne_eq] at g1
 refine Z0 (Zal (Zn7 (ZK (Zf (Za (xM (h:=xVs Tryz.underlying9 (h:=xR ZjX rfl (Zco _ _ _ _) (h:=xA (h:=Z4 [(0,_),(2,_),(3,_),(7,_)] t4 (Zh ?_)))))))))))
 exact ZW .ret (.inl rfl) [_] t1 ⟨Zm (by (obtain rfl:k=l.length:=oz);rw [List.take_length] at ha;rw [Bool.eq_iff_iff];simp [Zay,ha];omega),rfl,rfl⟩

set_option maxHeartbeats 400000 in
theorem ZnM (b:Nat) (l:List UInt8) (i:Nat) (hi:i≤l.length) (hl:l.length≤2000000) (B:Kn):ZsO (pj J) 72 [ptr ⟨b,0,none⟩] B (cur b l i) (.bool (decide (i=l.length))) (cur b l i):=by
 refine Zc 13 Tryz.func72 rfl rfl rfl (Nat.le_of_ble_eq_true rfl) ?_
 refine Za (xA (h:=Z4 [(0,_),(2,_)] t2 (Zk (Z9 (same _ _) mo kr ⟨rfl,rfl⟩ (fun _ _=>?_)))))
 refine aM 0 rfl (h:=aNc 1 rfl (h:=aW 2 rfl Zdz (h:=aT 3 rfl (Zap fun D=>Zl rfl rfl lk3 rfl (atL 0 rfl rfl rfl) r4) (h:=aM 4 rfl (h:=aNc 5 rfl (h:=aW 6 rfl ZjR (h:=aT 7 rfl (Zap fun D=>Zl rfl rfl lk9 rfl (atL 0 rfl rfl rfl) r4) (h:=aT 8 rfl (Zap fun D=>Zpa rfl rfl Tryz.underlying9 rfl r4) (h:=ZqT 9 rfl (h:=aA 10 rfl (h:=Zz kr kr ?_)))))))))))
 refine Zf (Z4 [(0,_),(2,_)] t2 (Zh ?_))
 exact ZfB .ret (.inl rfl) [_] 0 rfl t1 ⟨Zm (by rw [Bool.eq_iff_iff];simp;omega),rfl,rfl⟩

set_option maxHeartbeats 400000 in
theorem Zuc (b:Nat) (l:List UInt8) (i:Nat) (hi:i≤l.length) (hl:l.length≤2000000) (x:UInt8) (B:Kn):ZsO (pj J) 110 [ptr ⟨b,0,none⟩,.int .u8 x.toNat] B (cur b l i) (.bool (decide (l[i]? = some x))) (cur b l (if l[i]? = some x then i+1 else i)):=by
 refine Zc 27 Tryz.func110 rfl rfl rfl (Nat.le_of_ble_eq_true rfl) ?_
 refine Za (xA (h:=Z4 [(0,_),(1,_),(4,_)] t3 (Zk (ZhU 19 (decide (l[i]?≠some x)) [0,1,4] (same _ _) mo kr ⟨rfl,rfl⟩ (fun _ _=>?_) ?_))))
 refine aM 0 rfl (h:=aT 1 rfl (Zap fun D=>ZhV 0 rfl rfl rfl Zu8 rfl (ZnM _ _ _ oz oz _) r4) (h:=?_))
 refine aM 2 rfl (h:=Zaw (d:=7) rfl (fun g1=>?_) (fun g1=>?_))
 try simp only [sQ,ne_eq] at g1
 refine aZ 3 rfl (h:=aZ 4 rfl (h:=aZ 5 rfl (h:=aZ 6 rfl (h:=aZ 7 rfl (h:=aZ 8 rfl (h:=aZ 9 rfl (h:=aZ 10 rfl (h:=aZ 11 rfl (h:=aZ 12 rfl (h:=aZ 13 rfl (h:=aPT 14 rfl (h:=Zz kr kr ?_))))))))))))
 exact ⟨rfl,rfl,rfl,Zdc rfl (by first | (simp [g1];done) | (rw [Bool.eq_iff_iff];simp [hc,← UInt8.toNat_inj];omega)),t3⟩
 try simp only [sQ,ne_eq] at g1
 obtain ⟨c,hc⟩ :∃c,l[i]? = some c:=⟨_,List.getElem?_eq_getElem oz⟩
 refine aM 3 rfl (h:=aNc 4 rfl (h:=aW 5 rfl ZjR (h:=aT 6 rfl (Zap fun D=>Zl rfl rfl lk9 rfl (atL 0 rfl rfl rfl) r4) (h:=aM 7 rfl (h:=aNc 8 rfl (h:=aW 9 rfl Zdz (h:=aT 10 rfl (Zap fun D=>Zl rfl rfl lk3 rfl (atL 0 rfl rfl rfl) r4) (h:=aT 11 rfl (Zap fun D=>Zel rfl rfl Tryz.underlying9 rfl rfl oz (by simpa using hc) r4) (h:=?_)))))))))
 refine aM 12 rfl (h:=ZuW 13 rfl (h:=aPF 14 rfl (h:=Zz kr kr ?_)))
 exact ⟨rfl,rfl,rfl,Zdc rfl (by first | (simp [g1];done) | (rw [Bool.eq_iff_iff];simp [hc,← UInt8.toNat_inj];omega)),t3⟩
 refine Z4 [(0,_),(1,_),(4,_),(19,_)] t4 (Zd rfl (fun g2=>?_) (fun g2=>?_))
 try simp only [sQ,ne_eq] at g2
 refine Za (xA (h:=Z4 [(0,_),(1,_),(4,_),(19,_)] t4 (Zh (Zs ?_))))
 exact ZfB .ret (.inl rfl) [_] 0 rfl t1 ⟨Zm (by simp [g2]),rfl,by rw [if_neg g2]⟩
 try simp only [sQ,ne_eq] at g2
 refine Zi (Zf (Za (xM (h:=xNc (h:=xW Zdz (h:=x1 lk3 0 (h:=Zo (ZeL rfl rfl rfl rfl (by first | exact ZaY oz oz | rfl) ?_))))))))
 refine xNc (h:=xW Zdz (h:=xS [_] 0 [_,_] sz3 (h:=ZR [(0,_),(1,_),(4,_),(19,_)] [_] t4 rfl (Za (xA (h:=Z4 [(0,_),(1,_),(4,_),(19,_)] t4 (Zh ?_)))))))
 exact ZfB .ret (.inl rfl) [_] 0 rfl t1 ⟨Zm (by simp [g2]),rfl,by rw [if_pos g2];rfl⟩

set_option maxHeartbeats 400000 in
theorem ZpQ (b:Nat) (l:List UInt8) (i:Nat) (hi:i≤l.length) (hl:l.length≤2000000) (B:Kn):ZsO (pj J) 109 [ptr ⟨b,0,none⟩] B (cur b l i) (.tuple #[str (word l i),.bool (ZdK (word l i))]) (cur b l (i+(word l i).length)):=by
 refine Zc 54 Tryz.func109 rfl rfl rfl (Nat.le_of_ble_eq_true rfl) ?_
 refine Za (xA (h:=xA (h:=Z4 [(0,_),(2,_),(3,_)] t3 (Za (xM (h:=xNc (h:=xW Zdz (h:=x1 lk3 0 (h:=xA (h:=Z4 [(0,_),(2,_),(3,_),(4,_)] t4 (Zk (Zp ?_))))))))))))
 refine ZkP (α:=Nat) (fun k=>[(0,ptr ⟨b,0,none⟩),(4,.int .i64 i)]) (fun k=>[cur b l (i+k)]) (fun k Bx=>Bx=B∧i+k≤l.length∧((l.drop i).take k).all ZbH=true) (fun k=>l.length - i - k) 0 t2 rfl (⟨rfl,oz,by simp⟩) (fun k B1 hle1 hI=>?_)
 obtain ⟨rfl,hk,ha⟩:=hI
 refine Zk (ZhU 24 (match l[i+k]? with | some c=>ZbH c | none=>false) [0,4] (same _ _) mo kr ⟨rfl,rfl⟩ (fun _ _=>?_) ?_)
 refine aM 0 rfl (h:=aT 1 rfl (Zap fun D=>ZhV 0 rfl rfl rfl Zu8 rfl (ZnM _ _ _ oz oz _) r4) (h:=?_))
 refine aN 2 rfl (h:=aM 3 rfl (h:=Zaw (d:=13) rfl (fun g1=>?_) (fun g1=>?_)))
 try simp only [sQ,ne_eq] at g1
 obtain ⟨c,hc⟩ :∃c,l[i+k]? = some c:=⟨_,List.getElem?_eq_getElem oz⟩
 refine aM 4 rfl (h:=aNc 5 rfl (h:=aW 6 rfl ZjR (h:=aT 7 rfl (Zap fun D=>Zl rfl rfl lk9 rfl (atL 0 rfl rfl rfl) r4) (h:=aM 8 rfl (h:=aNc 9 rfl (h:=aW 10 rfl Zdz (h:=aT 11 rfl (Zap fun D=>Zl rfl rfl lk3 rfl (atL 0 rfl rfl rfl) r4) (h:=aT 12 rfl (Zap fun D=>Zel rfl rfl Tryz.underlying9 rfl rfl oz hc r4) (h:=?_)))))))))
 refine aT 13 rfl (Zap fun D=>ZaS rfl rfl Zv8 rfl (Zol _ _) r4) (h:=aPT 14 rfl (h:=Zz kr kr ?_))
 exact ⟨rfl,rfl,rfl,Zdc rfl (by first | (rw [hc];done) | (rw [List.getElem?_eq_none oz])),t2⟩
 try simp only [sQ,ne_eq] at g1
 refine aZ 4 rfl (h:=aZ 5 rfl (h:=aZ 6 rfl (h:=aZ 7 rfl (h:=aZ 8 rfl (h:=aZ 9 rfl (h:=aZ 10 rfl (h:=aZ 11 rfl (h:=aZ 12 rfl (h:=aZ 13 rfl (h:=aPF 14 rfl (h:=Zz kr kr ?_)))))))))))
 exact ⟨rfl,rfl,rfl,Zdc rfl (by first | (rw [hc];done) | (rw [List.getElem?_eq_none oz])),t2⟩
 refine Z4 [(0,_),(4,_),(24,_)] t3 (Zd rfl (fun g2=>?_) (fun g2=>?_))
 try simp only [sQ,ne_eq] at g2
 refine Zi (Zf (Zp (Ze (xM (h:=xNc (h:=xW Zdz (h:=x1 lk3 0 (h:=Zo (ZeL rfl rfl rfl rfl (by first | exact ZaY oz oz | rfl) ?_)))))))))
 refine xNc (h:=xW Zdz (h:=xS [_] 0 [_,_] sz3 (h:=ZA ?_)))
 obtain ⟨c,hc,hn⟩:=Zpy g2
 exact Zn8 (k+1) (by have:=Zcb hc;omega) ⟨rfl,by have:=Zcb hc;omega,ZnQ (by simpa using hc) hn ha⟩ t2 rfl
 try simp only [sQ,ne_eq] at g2
 have hw:word l i=(l.drop i).take k:=Zq1 ha (fun c hc=>by rw [hc] at g2;exact g2)
 have hwl:(word l i).length=k:=by rw [hw,List.length_take,List.length_drop];omega
 refine Z0 (Zal (Zn7 (ZK (Zf (Za (xM (h:=xNc (h:=xW Zdz (h:=x1 lk3 0 (h:=xM (h:=Zo (Zi6 rfl rfl rfl rfl (by first | exact ZaY oz oz | rfl) ?_))))))))))))
 refine xA (h:=Z4 [(0,_),(4,_),(5,_),(24,_)] t4 (Zk (Z9 (same _ _) mo kr ⟨rfl,rfl⟩ (fun _ _=>?_))))
 refine aM 0 rfl (h:=aNc 1 rfl (h:=aW 2 rfl ZjR (h:=aT 3 rfl (Zap fun D=>Zl rfl rfl lk9 rfl (atL 0 rfl rfl rfl) r4) (h:=aM 4 rfl (h:=aM 5 rfl (h:=aNc 6 rfl (h:=aW 7 rfl Zdz (h:=aT 8 rfl (Zap fun D=>Zl rfl rfl lk3 rfl (atL 0 rfl rfl rfl) r4) (h:=aT 9 rfl (Zap fun D=>Zf8 rfl rfl Tryz.underlying9 rfl (a:=i) (b:=i+k) ⟨_,_,rfl,rfl⟩ ⟨_,_,rfl,oz⟩ oz oz r4) (h:=?_))))))))))
 refine aM 10 rfl (h:=ZuX 11 rfl (h:=aM 12 rfl (h:=Zaw (d:=50) rfl (fun g1=>?_) (fun g1=>?_))))
 try simp only [sQ,ne_eq] at g1
 refine aM 13 rfl (h:=ZtU 14 rfl (h:=aPT 15 rfl (h:=aA 16 rfl (h:=aA 17 rfl (h:=Zz kr kr ?_)))))
 refine Zf (Z4 [(0,_),(2,_),(3,_),(4,_),(5,_),(24,_)] t6 (Zh ?_))
 exact ZfB .ret (.inl rfl) [_,_] 0 rfl t2 ⟨Zjn (by rw [ZfD,hw]) (Zm (by rw [Bool.eq_iff_iff];simp [ZdK,hwl];omega)),rfl,by rw [hwl]⟩
 try simp only [sQ,ne_eq] at g1
 refine aZ 13 rfl (h:=aZ 14 rfl (h:=aPF 15 rfl (h:=aA 16 rfl (h:=aA 17 rfl (h:=Zz kr kr ?_)))))
 refine Zf (Z4 [(0,_),(2,_),(3,_),(4,_),(5,_),(24,_)] t6 (Zh ?_))
 exact ZfB .ret (.inl rfl) [_,_] 0 rfl t2 ⟨Zjn (by rw [ZfD,hw]) (Zm (by rw [Bool.eq_iff_iff];simp [ZdK,hwl];omega)),rfl,by rw [hwl]⟩

set_option maxHeartbeats 400000 in
theorem Zr4 (b:Nat) (l:List UInt8) (i:Nat) (hi:i≤l.length) (hl:l.length≤2000000) (B:Kn):ZsO (pj J) 71 [ptr ⟨b,0,none⟩] B (cur b l i) (.tuple #[str (ZiR l i),.bool (ZmU l i)]) (cur b l (dom l i).2):=by
 refine Zc 53 Tryz.func71 rfl rfl rfl (Nat.le_of_ble_eq_true rfl) ?_
 refine Za (xA (h:=xA (h:=Z4 [(0,_),(2,_),(3,_)] t3 (Za (xM (h:=xNc (h:=xW Zdz (h:=x1 lk3 0 (h:=xA (h:=Z4 [(0,_),(2,_),(3,_),(4,_)] t4 (Zk (Za ?_))))))))))))
 refine xM (h:=Zo (Zjh 0 rfl rfl rfl ZtK rfl (ZpQ _ _ _ oz oz _) ?_))
 refine xM (h:=xE (h:=xE (h:=xA (h:=xA (h:=ZR [(0,_),(2,_),(3,_),(4,_),(6,_)] [_] t5 rfl (Za (xM (h:=xN (h:=Z4 [(0,_),(2,_),(3,_),(4,_),(6,_),(20,_)] t6 (Zd rfl (fun g1=>?_) (fun g1=>?_)))))))))))
 try simp only [sQ,ne_eq] at g1
 refine Za (xA (h:=xA (h:=Z4 [(0,_),(2,_),(3,_),(4,_),(6,_),(20,_)] t6 (Zh (Zs ?_)))))
 exact ZfB .ret (.inl rfl) [_,_] 0 rfl t2 ⟨Zjn (by simp [ZiR,ZmT g1]) (Zm (by simp [ZmU,ZmT g1])),rfl,by rw [ZmT g1]⟩
 try simp only [sQ,ne_eq] at g1
 refine Zi (Zf (Zk (Za (xA (h:=Z4 [(0,_),(2,_),(3,_),(4,_),(6,_),(7,_),(20,_)] t7 (Zp (ZkP (α:=Nat × Nat) (fun x=>[(0,ptr ⟨b,0,none⟩),(4,.int .i64 i),(7,.int .i64 x.1)]) (fun x=>[cur b l x.2]) (fun x Bx=>Bx=B∧1≤x.1∧x.1≤3∧i≤x.2∧x.2≤l.length∧dom l i=more (3 - x.1) l x.2) (fun x=>3 - x.1) (1,i+(word l i).length) t3 rfl (⟨rfl,oz,oz,oz,ZhS hi,Zr5 g1⟩) (fun x B1 hle1 hI=>?_))))))))
 obtain ⟨rfl,hk1,hk3,hix,hxl,hd⟩:=hI
 refine Zk (Za (xM (h:=Zaf (h:=xM (h:=Zq (d:=23) rfl (fun g2=>?_) (fun g2=>?_))))))
 try simp only [sQ,ne_eq] at g2
 refine xM (h:=Zo (Zjh 0 rfl rfl rfl Zwk rfl (Zuc _ _ _ oz oz 46 _) ?_))
 refine xT (h:=ZR [(0,_),(4,_),(7,_),(26,_)] [_] t4 rfl (Zd rfl (fun g3=>?_) (fun g3=>?_)))
 try simp only [sQ,ne_eq] at g3
 rw [if_pos g3]
 have hx2:=Zcb g3
 refine Zi (Zf (Zk (Zp (Za (xM (h:=Zo (Zjh 0 rfl rfl rfl ZtK rfl (ZpQ _ _ _ oz oz _) ?_)))))))
 refine xM (h:=xE (h:=xE (h:=xA (h:=xA (h:=ZR [(0,_),(4,_),(7,_),(9,_),(26,_)] [_] t5 rfl (Za (xM (h:=xN (h:=Z4 [(0,_),(4,_),(7,_),(9,_),(26,_),(35,_)] t6 (Zd rfl (fun g4=>?_) (fun g4=>?_)))))))))))
 try simp only [sQ,ne_eq] at g4
 refine Za (xA (h:=xA (h:=Z4 [(0,_),(2,_),(3,_),(4,_),(7,_),(9,_),(26,_),(35,_)] t8 (Zh (ZO (Zs (Zs0 (ZO (Zs ?_)))))))))
 have hdd:=hd.trans (Zrs oz g3 g4)
 exact ZfB .ret (.inl rfl) [_,_] 0 rfl t2 ⟨Zjn (by simp [ZiR,hdd]) (Zm (by simp [ZmU,hdd])),rfl,by rw [hdd]⟩
 try simp only [sQ,ne_eq] at g4
 refine Zi (ZA (Zf (Ze (xM (h:=Zo (ZeL rfl rfl rfl rfl (by first | exact ZaY oz oz | rfl) ?_))))))
 refine xA (h:=?_)
 exact Zn8 (x.1+1,x.2+1+(word l (x.2+1)).length) (so) ⟨rfl,so,so,so,ZhS oz,by rw [hd,ZpV oz g3 g4];rw [show 3 - (x.1+1)=3 - x.1 - 1 from by omega]⟩ t3 rfl
 try simp only [sQ,ne_eq] at g3
 rw [if_neg g3]
 replace hd:=hd.trans (Zik g3)
 refine Z0 (Zal (Zn7 (ZK (Zf (Zk (Z9 (same _ _) mo kr ⟨rfl,rfl⟩ (fun _ _=>?_)))))))
 refine aM 0 rfl (h:=aNc 1 rfl (h:=aW 2 rfl ZjR (h:=aT 3 rfl (Zap fun D=>Zl rfl rfl lk9 rfl (atL 0 rfl rfl rfl) r4) (h:=aM 4 rfl (h:=aM 5 rfl (h:=aNc 6 rfl (h:=aW 7 rfl Zdz (h:=aT 8 rfl (Zap fun D=>Zl rfl rfl lk3 rfl (atL 0 rfl rfl rfl) r4) (h:=aT 9 rfl (Zap fun D=>Zf8 rfl rfl Tryz.underlying9 rfl (a:=i) (b:=x.2) ⟨_,_,rfl,rfl⟩ ⟨_,_,rfl,rfl⟩ oz oz r4) (h:=?_))))))))))
 refine aM 10 rfl (h:=aNc 11 rfl (h:=aW 12 rfl Zdz (h:=aT 13 rfl (Zap fun D=>Zl rfl rfl lk3 rfl (atL 0 rfl rfl rfl) r4) (h:=aM 14 rfl (h:=aT 15 rfl (Zap fun D=>Zi6 rfl rfl rfl rfl (by first | exact ZaY oz oz | rfl) r4) (h:=?_))))))
 refine ZtU 16 rfl (h:=aA 17 rfl (h:=aA 18 rfl (h:=Zz kr kr ?_)))
 refine Zf (Z4 [(0,_),(2,_),(3,_),(4,_),(7,_),(26,_)] t6 (Zh ?_))
 exact ZfB .ret (.inl rfl) [_,_] 0 rfl t2 ⟨Zjn (by simp [ZiR,hd]) (Zm (by rw [Bool.eq_iff_iff];simp [ZmU,hd];omega)),rfl,by rw [hd]⟩
 try simp only [sQ,ne_eq] at g2
 replace hd:dom l i=(true,x.2):=hd.trans (by rw [show 3 - x.1=0 from by omega];rfl)
 refine xP (h:=xP (h:=xF (h:=Z4 [(0,_),(4,_),(7,_),(26,_)] t4 (Zd (t:=false) rfl (fun h=>Bool.noConfusion h) (fun _=>Z0 (Zal (Zn7 (ZK (Zf (Zk (Z9 (same _ _) mo kr ⟨rfl,rfl⟩ (fun _ _=>?_))))))))))))
 refine aM 0 rfl (h:=aNc 1 rfl (h:=aW 2 rfl ZjR (h:=aT 3 rfl (Zap fun D=>Zl rfl rfl lk9 rfl (atL 0 rfl rfl rfl) r4) (h:=aM 4 rfl (h:=aM 5 rfl (h:=aNc 6 rfl (h:=aW 7 rfl Zdz (h:=aT 8 rfl (Zap fun D=>Zl rfl rfl lk3 rfl (atL 0 rfl rfl rfl) r4) (h:=aT 9 rfl (Zap fun D=>Zf8 rfl rfl Tryz.underlying9 rfl (a:=i) (b:=x.2) ⟨_,_,rfl,rfl⟩ ⟨_,_,rfl,rfl⟩ oz oz r4) (h:=?_))))))))))
 refine aM 10 rfl (h:=aNc 11 rfl (h:=aW 12 rfl Zdz (h:=aT 13 rfl (Zap fun D=>Zl rfl rfl lk3 rfl (atL 0 rfl rfl rfl) r4) (h:=aM 14 rfl (h:=aT 15 rfl (Zap fun D=>Zi6 rfl rfl rfl rfl (by first | exact ZaY oz oz | rfl) r4) (h:=?_))))))
 refine ZtU 16 rfl (h:=aA 17 rfl (h:=aA 18 rfl (h:=Zz kr kr ?_)))
 refine Zf (Z4 [(0,_),(2,_),(3,_),(4,_),(7,_),(26,_)] t6 (Zh ?_))
 exact ZfB .ret (.inl rfl) [_,_] 0 rfl t2 ⟨Zjn (by simp [ZiR,hd]) (Zm (by rw [Bool.eq_iff_iff];simp [ZmU,hd];omega)),rfl,by rw [hd]⟩

set_option maxHeartbeats 400000 in
theorem Zdm (l:List UInt8) (hl:l.length≤2000000) (B:Kn):Za6 (pj J) 79 [str l] B (.bool (Zay l)):=by
 refine Zc 16 Tryz.func79 rfl rfl rfl (Nat.le_of_ble_eq_true rfl) ?_
 refine Za (xA (h:=Z4 [(0,_),(2,_)] t2 (Za (xM (h:=xB [(0,_)] [_,_] [_,_] Zwq Zu1 (h:=xAl [_,_] Zu1 (h:=fun b0=>xS [_,_] 0 [_,_] Zwp (h:=ZR [(0,_),(2,_),(3,_)] [_] t3 rfl (Za (Zo (Zjh 0 rfl rfl rfl ZtK rfl (ZpQ _ _ 0 oz hl _) ?_)))))))))))
 refine xM (h:=xE (h:=xE (h:=xA (h:=xA (h:=ZR [(0,_),(2,_),(3,_),(5,_)] [_] t4 rfl (Za (xM (h:=xM (h:=Zq (d:=13) rfl (fun g1=>?_) (fun g1=>?_))))))))))
 try simp only [sQ,ne_eq] at g1
 refine Zo (ZhV 0 rfl rfl rfl Zu8 rfl (ZnM _ _ (0+(word l 0).length) (ZhS (Nat.zero_le _)) oz _) ?_)
 refine xT (h:=xA (h:=Z4 [(0,_),(2,_),(3,_),(5,_)] t4 (Zh ?_)))
 exact ZW .ret (.inl rfl) [_] t1 ⟨Zm (by rw [Zdv];simp [g1];try omega),rfl,rfl⟩
 try simp only [sQ,ne_eq] at g1
 refine xP (h:=xF (h:=xA (h:=Z4 [(0,_),(2,_),(3,_),(5,_)] t4 (Zh ?_))))
 exact ZW .ret (.inl rfl) [_] t1 ⟨Zm (by rw [Zdv];simp [g1];try omega),rfl,rfl⟩

abbrev rd (b : Nat) (q : Option Addr) (m cp p : Nat) : Cells := Zbn b [.slice q m cp, .int .i64 p] 87
set_option maxHeartbeats 400000 in
theorem ZhF (q:Option Addr) (m cp:Nat) (hmc:m≤cp) (B:Kn) (hb:Zac B q m):Zwn (pj J) 26 [.slice q m cp] B (fun v s=>∃b q m cp,v=ptr ⟨b,0,none⟩∧s=rd b q m cp 0∧m≤2000∧Zac B q m):=by
 refine Zc 11 Tryz.func26 rfl rfl rfl (Nat.le_of_ble_eq_true rfl) ?_
 refine Za (xA (h:=Z4 [(0,_),(2,_)] t2 (Zk (Za (xM (h:=xV Tryz.underlying22 (h:=Zbf (h:=Z4 [(0,_),(2,_),(5,_)] t3 (Zd rfl (fun g1=>?_) (fun g1=>?_))))))))))
 try simp only [sQ,ne_eq] at g1
 refine Ze (xM (h:=Zo (Zff rfl rfl Tryz.underlying22 sz5 rfl (a:=0) (b:=2000) rfl ⟨_,_,rfl,rfl⟩ oz oz ?_)))
 refine xA (h:=Zf (Za (xM (h:=xB [(0,_)] [_,_] [_,_] Zwr Zwo (h:=xBx [_,_] (h:=fun b0=>xA (h:=ZR [(0,_),(2,_),(5,_)] [_] t3 rfl (Zh ?_))))))))
 exact ZfB .ret (.inl rfl) [_] 0 rfl t1 ⟨rfl,_,rfl,_,_,_,_,rfl,rfl,oz,hb.take oz⟩
 try simp only [sQ,ne_eq] at g1
 refine Zi (Zf (Za (xM (h:=xB [(0,_)] [_,_] [_,_] Zwr Zwo (h:=xBx [_,_] (h:=fun b0=>xA (h:=ZR [(0,_),(2,_),(5,_)] [_] t3 rfl (Zh ?_))))))))
 exact ZfB .ret (.inl rfl) [_] 0 rfl t1 ⟨rfl,_,rfl,_,_,_,_,rfl,rfl,oz,hb⟩

set_option maxHeartbeats 400000 in
theorem ZM (b:Nat) (q:Option Addr) (m cp p:Nat) (n:Int) (hp:p≤1000000000000) (hn:1≤n) (hn2:n≤1000000000000) (hm:m≤2000) (B:Kn) (hb:Zac B q m):Ex1 (pj J) 58 [ptr ⟨b,0,none⟩,.int .i64 n] B (rd b q m cp p) (fun v s=>∃r:Int,v = .int .i64 r∧0≤r∧r<n∧s=rd b q m cp (p+1)):=by
 refine Zc 99 Tryz.func58 rfl rfl rfl (Nat.le_of_ble_eq_true rfl) ?_
 refine Za ?_
 refine xA (h:=?_)
 refine Z4 [(0,_),(1,_),(4,_)] t3 ?_
 refine Za ?_
 refine xM (h:=?_)
 refine xM (h:=?_)
 refine xNc (h:=?_)
 refine xW Zqi (h:=?_)
 refine x1 lk3 0 (h:=?_)
 refine Zo (ZeL rfl rfl rfl rfl (by first | exact ZaY oz oz | rfl) ?_)
 refine xNc (h:=?_)
 refine xW Zqi (h:=?_)
 refine xS [_] 0 [_,_] sz3 (h:=?_)
 refine ZR [(0,_),(1,_),(4,_)] [_] t3 rfl ?_
 refine Zk ?_
 refine Za ?_
 refine xM (h:=?_)
 refine Zaf (h:=?_)
 refine xM (h:=?_)
 refine Zq (d:=17) rfl (fun g1=>by have:=of_decide_eq_true g1;omega) (fun g1=>?_)
 try simp only [sQ,ne_eq] at g1
 refine xM (h:=?_)
 refine xNc (h:=?_)
 refine xW Zhl (h:=?_)
 refine x1 ZsE 0 (h:=?_)
 refine xV Tryz.underlying22 (h:=?_)
 refine ZI (h:=?_)
 refine xF (h:=?_)
 refine Z4 [(0,_),(1,_),(4,_),(24,_)] t4 ?_
 refine Zd rfl (fun g2=>?_) (fun g2=>?_)
 try simp only [sQ,ne_eq] at g2
 refine Za ?_
 refine xA (h:=?_)
 refine Z4 [(0,_),(1,_),(4,_),(24,_)] t4 ?_
 refine Zh (Zs ?_)
 exact ZfB .ret (.inl rfl) [_] 0 rfl t1 ⟨rfl,_,rfl,0,rfl,oz,oz,rfl⟩
 try simp only [sQ,ne_eq] at g2
 have hm0:0<m:=by omega
 obtain ⟨a,rfl,hc⟩:=hb.at hm0
 refine Zi ?_
 refine Zf ?_
 refine Za ?_
 refine xM (h:=?_)
 refine xNc (h:=?_)
 refine xW Zqi (h:=?_)
 refine x1 lk3 0 (h:=?_)
 refine Zo (Zi6 rfl rfl rfl rfl (by first | exact ZaY oz oz | rfl) ?_)
 refine xA (h:=?_)
 refine Z4 [(0,_),(1,_),(4,_),(5,_),(24,_)] t5 ?_
 refine Zk ?_
 refine Za ?_
 refine xM (h:=?_)
 refine xM (h:=?_)
 refine xNc (h:=?_)
 refine xW Zhl (h:=?_)
 refine x1 ZsE 0 (h:=?_)
 refine xV Tryz.underlying22 (h:=?_)
 refine Zaf (h:=?_)
 refine Z4 [(0,_),(1,_),(4,_),(5,_),(24,_),(36,_)] t6 ?_
 refine Zd rfl (fun g3=>?_) (fun g3=>?_)
 try simp only [sQ,ne_eq] at g3
 obtain ⟨z,hz,h1⟩:=hc (↑p+1 - 1) oz oz
 refine Za ?_
 refine xM (h:=?_)
 refine xNc (h:=?_)
 refine xW Zhl (h:=?_)
 refine x1 ZsE 0 (h:=?_)
 refine xM (h:=?_)
 refine Zo (Za7 rfl rfl Tryz.underlying22 sz5 rfl rfl oz oz ?_)
 refine Zo (Zl rfl rfl lk5 rfl (h1 _) ?_)
 refine Zo (Zmd rfl rfl Tryz.underlying5 Tryz.underlying3 rfl (by first | exact ZaY oz oz | rfl) ?_)
 refine xM (h:=?_)
 refine Zo (Zf9 rfl rfl rfl rfl oz (by first | exact ZaY oz oz | rfl) ?_)
 refine xA (h:=?_)
 refine Z4 [(0,_),(1,_),(4,_),(5,_),(24,_),(36,_)] t6 ?_
 refine Zh (Zs ?_)
 exact ZfB .ret (.inl rfl) [_] 0 rfl t1 ⟨rfl,_,rfl,_,rfl,Int.tmod_nonneg _ oz,Int.tmod_lt_of_pos _ oz,rfl⟩
 try simp only [sQ,ne_eq] at g3
 obtain ⟨z,hz,h1⟩:=hc (Int.tmod (↑p+1 - 1) ↑m) (Int.tmod_nonneg _ oz) (Int.tmod_lt_of_pos _ oz)
 obtain ⟨z2,hz2,h2⟩:=hc (Int.tmod ((↑p+1 - 1)*7+3) ↑m) (Int.tmod_nonneg _ oz) (Int.tmod_lt_of_pos _ oz)
 have ht0:0≤Int.tdiv (↑p+1 - 1) ↑m:=Int.tdiv_nonneg oz oz
 have ht1:Int.tdiv (↑p+1 - 1) ↑m≤↑p+1 - 1:=Int.tdiv_le_self _ oz
 refine Zi ?_
 refine Zf ?_
 refine Zk ?_
 refine Z9 (same _ _) mo kr ⟨rfl,rfl⟩ (fun _ _=>?_)
 refine aM 0 rfl (h:=?_)
 refine aNc 1 rfl (h:=?_)
 refine aW 2 rfl Zhl (h:=?_)
 refine aT 3 rfl (Zap fun D=>Zl rfl rfl ZsE rfl (atL 0 rfl rfl rfl) r4) (h:=?_)
 refine aM 4 rfl (h:=?_)
 refine aM 5 rfl (h:=?_)
 refine aNc 6 rfl (h:=?_)
 refine aW 7 rfl Zhl (h:=?_)
 refine aT 8 rfl (Zap fun D=>Zl rfl rfl ZsE rfl (atL 0 rfl rfl rfl) r4) (h:=?_)
 refine aV 9 rfl Tryz.underlying22 (h:=?_)
 refine aT 10 rfl (Zap fun D=>Zf9 rfl rfl rfl rfl oz (by first | exact ZaY oz oz | rfl) r4) (h:=?_)
 refine aT 11 rfl (Zap fun D=>Za7 rfl rfl Tryz.underlying22 sz5 rfl rfl (Int.tmod_nonneg _ oz) (Int.tmod_lt_of_pos _ oz) r4) (h:=?_)
 refine aT 12 rfl (Zap fun D=>Zl rfl rfl lk5 rfl (h1 _) r4) (h:=?_)
 refine aT 13 rfl (Zap fun D=>Zmd rfl rfl Tryz.underlying5 Tryz.underlying3 rfl (by first | exact ZaY oz oz | rfl) r4) (h:=?_)
 refine aT 14 rfl (Zap fun D=>ZkN rfl rfl rfl rfl (by first | exact ZaY oz oz | rfl) r4) (h:=?_)
 refine aM 15 rfl (h:=?_)
 refine aNc 16 rfl (h:=?_)
 refine aW 17 rfl Zhl (h:=?_)
 refine aT 18 rfl (Zap fun D=>Zl rfl rfl ZsE rfl (atL 0 rfl rfl rfl) r4) (h:=?_)
 refine aM 19 rfl (h:=?_)
 refine aT 20 rfl (Zap fun D=>ZkN rfl rfl rfl rfl (by first | exact ZaY oz oz | rfl) r4) (h:=?_)
 refine aT 21 rfl (Zap fun D=>ZeL rfl rfl rfl rfl (by first | exact ZaY oz oz | rfl) r4) (h:=?_)
 refine aM 22 rfl (h:=?_)
 refine aNc 23 rfl (h:=?_)
 refine aW 24 rfl Zhl (h:=?_)
 refine aT 25 rfl (Zap fun D=>Zl rfl rfl ZsE rfl (atL 0 rfl rfl rfl) r4) (h:=?_)
 refine aV 26 rfl Tryz.underlying22 (h:=?_)
 refine aT 27 rfl (Zap fun D=>Zf9 rfl rfl rfl rfl oz (by first | exact ZaY oz oz | rfl) r4) (h:=?_)
 refine aT 28 rfl (Zap fun D=>Za7 rfl rfl Tryz.underlying22 sz5 rfl rfl (Int.tmod_nonneg _ oz) (Int.tmod_lt_of_pos _ oz) r4) (h:=?_)
 refine aT 29 rfl (Zap fun D=>Zl rfl rfl lk5 rfl (h2 _) r4) (h:=?_)
 refine aT 30 rfl (Zap fun D=>Zmd rfl rfl Tryz.underlying5 Tryz.underlying3 rfl (by first | exact ZaY oz oz | rfl) r4) (h:=?_)
 refine aT 31 rfl (Zap fun D=>ZkN rfl rfl rfl rfl (by first | exact ZaY oz oz | rfl) r4) (h:=?_)
 refine aT 32 rfl (Zap fun D=>ZeL rfl rfl rfl rfl (by first | exact ZaY oz oz | rfl) r4) (h:=?_)
 refine aM 33 rfl (h:=?_)
 refine aT 34 rfl (Zap fun D=>ZkN rfl rfl rfl rfl (by first | exact ZaY oz oz | rfl) r4) (h:=?_)
 refine aT 35 rfl (Zap fun D=>ZeL rfl rfl rfl rfl (by first | exact ZaY oz oz | rfl) r4) (h:=?_)
 refine aM 36 rfl (h:=?_)
 refine aM 37 rfl (h:=?_)
 refine aNc 38 rfl (h:=?_)
 refine aW 39 rfl Zhl (h:=?_)
 refine aT 40 rfl (Zap fun D=>Zl rfl rfl ZsE rfl (atL 0 rfl rfl rfl) r4) (h:=?_)
 refine aV 41 rfl Tryz.underlying22 (h:=?_)
 refine aT 42 rfl (Zap fun D=>ZhW rfl rfl rfl rfl oz (by first | exact ZaY oz oz | rfl) r4) (h:=?_)
 refine aT 43 rfl (Zap fun D=>ZkN rfl rfl rfl rfl (by first | exact ZaY oz oz | rfl) r4) (h:=?_)
 refine aT 44 rfl (Zap fun D=>ZeL rfl rfl rfl rfl (by first | exact ZaY oz oz | rfl) r4) (h:=?_)
 refine aA 45 rfl (h:=?_)
 refine Zz kr kr ?_
 refine Zf ?_
 refine Z4 [(0,_),(1,_),(4,_),(5,_),(6,_),(24,_),(36,_)] t7 ?_
 generalize hx:(↑z*131+↑z2*1117+(↑p+1 - 1)*29+(↑p+1 - 1:Int).tdiv ↑m*53:Int)=x
 have hx0:0≤x:=by omega
 have hx1:x<1000000000000000:=by omega
 have hy0:0≤Int.tdiv x 64:=Int.tdiv_nonneg oz oz
 have hy1:Int.tdiv x 64≤x:=Int.tdiv_le_self _ oz
 refine Za ?_
 refine xM (h:=?_)
 refine xM (h:=?_)
 refine Zo (ZhW rfl rfl rfl rfl oz (by first | exact ZaY oz oz | rfl) ?_)
 refine Zo (Zvk rfl rfl rfl rfl oz oz oz oz (fun y hy2 hy3=>?_))
 refine xA (h:=?_)
 refine Z4 [(0,_),(1,_),(4,_),(5,_),(6,_),(24,_),(36,_)] t7 ?_
 refine Za ?_
 refine xM (h:=?_)
 refine xM (h:=?_)
 refine Zo (Zf9 rfl rfl rfl rfl oz (by first | exact ZaY oz oz | rfl) ?_)
 refine xA (h:=?_)
 refine Z4 [(0,_),(1,_),(4,_),(5,_),(6,_),(24,_),(36,_)] t7 ?_
 refine Zh ?_
 exact ZfB .ret (.inl rfl) [_] 0 rfl t1 ⟨rfl,_,rfl,_,rfl,Int.tmod_nonneg _ oz,Int.tmod_lt_of_pos _ oz,rfl⟩

set_option maxHeartbeats 400000 in
theorem Zog (b:Nat) (q:Option Addr) (m cp p:Nat) (b1:Nat) (ls:List (List UInt8)) (hp:p≤1000000000000) (hn:1≤ls.length) (hn2:ls.length≤1000000000000) (hm:m≤2000) (B:Kn) (hbm:Zac B q m):ZL (pj J) 61 [ptr ⟨b,0,none⟩,.slice (some ⟨b1,0,none⟩) ls.length ls.length] B [rd b q m cp p,Zbn b1 (ls.map str) 9] (fun v B' Ls=>B'=B∧∃x,x∈ls∧v=str x∧Ls=[rd b q m cp (p+1)]):=by
 refine Zc 12 Tryz.func61 rfl rfl rfl (Nat.le_of_ble_eq_true rfl) ?_
 skip
 refine Za (xA (h:=Z4 [(0,_),(1,_),(4,_)] t3 (Za (xM (h:=xM (h:=xM (h:=xV Tryz.underlying75 (h:=xX 0 rfl Za5 rfl (ZM _ _ _ _ _ _ oz oz oz hm _ hbm) (h:=?_)))))))))
 rintro _ _ ⟨r1,rfl,r1a,r1b,rfl⟩
 refine Zo (Za7 rfl rfl Tryz.underlying75 sz9 rfl rfl oz oz ?_)
 obtain ⟨x,hx⟩ :∃x,ls[r1.toNat]? = some x:=⟨_,List.getElem?_eq_getElem oz⟩
 refine Zo (Zl rfl rfl lk9 rfl (ZqL 1 rfl (v:=str x) (by rw [Nat.mul_one,List.getElem?_map,hx];rfl)) ?_)
 refine xA (h:=ZR [(0,_),(1,_),(4,_)] [_,_] t3 rfl (Zh ?_))
 exact Zah .ret (.inl rfl) [_] [0] rfl t1 ⟨rfl,x,List.mem_of_getElem? hx,rfl,rfl⟩

set_option maxHeartbeats 400000 in
theorem Zcw (b:Nat) (q:Option Addr) (m cp p:Nat) (hp:p≤900000000000) (hm:m≤2000) (B:Kn) (hbm:Zac B q m):Ex1 (pj J) 60 [ptr ⟨b,0,none⟩] B (rd b q m cp p) (fun v s=>∃x:List UInt8,v=str x∧x.length≤9∧s=rd b q m cp (p+2)):=by
 refine Zc 12 Tryz.func60 rfl rfl rfl (Nat.le_of_ble_eq_true rfl) ?_
 refine Za (xA (h:=Z4 [(0,_),(2,_)] t2 (Zk (Za (xM (h:=xX 0 rfl Za5 rfl (ZM _ _ _ _ _ _ oz oz oz hm _ hbm) (h:=?_)))))))
 rintro _ _ ⟨r1,rfl,r1a,r1b,rfl⟩
 refine ZI (h:=ZR [(0,_),(2,_),(5,_)] [_] t3 rfl (Zd rfl (fun g1=>?_) (fun g1=>?_)))
 try simp only [sQ,ne_eq] at g1
 refine Za (xM (h:=xBs [(0,_),(1,_),(2,_),(3,_),(4,_),(5,_),(6,_)] [_,_,_,_,_,_,_] Tryz.underlying75 sz9 zo9 (h:=fun b1=>Zo (Z7 [0,1] rfl rfl rfl rfl Zl7 rfl (Zog _ _ _ _ _ _ [[],[65],[116,111,111,108,111,110,103,49,50],[97,45,98],[101,105,103,104,116,56,56,56],[48],[97,110,121,111,110,101]] oz (by decide) (by decide) hm _ hbm) ?_))))
 rintro _ _ _ hle2 ⟨rfl,x2,hx2,rfl,rfl⟩
 refine xA (h:=ZR [(0,_),(2,_),(5,_)] [_,_] t3 rfl (Zh (Zs ?_)))
 exact ZfB .ret (.inl rfl) [_] 0 rfl t1 ⟨rfl,_,rfl,x2,rfl,(show∀x∈_,x.length≤9 from by decide) _ hx2,rfl⟩
 try simp only [sQ,ne_eq] at g1
 refine Zi (Zf (Za (xM (h:=xBs [(0,_),(1,_),(2,_),(3,_),(4,_),(5,_)] [_,_,_,_,_,_] Tryz.underlying75 sz9 zo9 (h:=fun b1=>Zo (Z7 [0,1] rfl rfl rfl rfl Zl7 rfl (Zog _ _ _ _ _ _ [[97,109,121],[98,111,98],[99,121,100],[100,97,110],[98,111,120,49],[120]] oz (by decide) (by decide) hm _ hbm) ?_))))))
 rintro _ _ _ hle3 ⟨rfl,x3,hx3,rfl,rfl⟩
 refine xA (h:=ZR [(0,_),(2,_),(5,_)] [_,_] t3 rfl (Zh ?_))
 exact ZfB .ret (.inl rfl) [_] 0 rfl t1 ⟨rfl,_,rfl,x3,rfl,(show∀x∈_,x.length≤9 from by decide) _ hx3,rfl⟩

abbrev Zvd (s : Cells) (q : Option Addr) (m cp : Nat) (ls : List (List UInt8)) : Prop := Zi4 s q m cp 9 1 (ls.map str)
theorem ZkS {s:Cells} {q:Option Addr} {m cp:Nat} {ls:List (List UInt8)} {a:List UInt8} (h:Zi4 s q m cp 9 1 (ls.map str ++ [str a])):Zvd s q m cp (ls ++ [a]):=by
 unfold Zvd
 rw [List.map_append]
 exact h
set_option maxHeartbeats 400000 in
theorem Ztj (l:List UInt8) (hl:l.length≤2000000) (x0:UInt8) (B:Kn):Zwn (pj J) 84 [str l,.int .u8 x0.toNat] B (fun v s=>∃q cp,v = .slice q (cut x0 l).length cp∧Zvd s q (cut x0 l).length cp (cut x0 l)):=by
 refine Zc 35 Tryz.func84 rfl rfl rfl (Nat.le_of_ble_eq_true rfl) ?_
 refine Za (xA (h:=Z4 [(0,_),(1,_),(4,_)] t3 (Za (xBs [] [] Tryz.underlying75 sz9 zo9 (h:=fun b0=>xA (h:=ZR [(0,_),(1,_),(4,_),(5,_)] [_] t4 rfl (Za (xA (h:=Z4 [(0,_),(1,_),(4,_),(5,_),(6,_)] t5 (Zk (Za (xA (h:=?_)))))))))))))
 refine Z4 [(0,_),(1,_),(4,_),(5,_),(6,_),(7,_)] t6 (Zp (ZkP (α:=CutSt) (fun x=>[(0,str l),(1,.int .u8 x0.toNat),(5,.slice x.q x.m x.cp),(6,.int .i64 x.f),(7,.int .i64 x.i)]) (fun x=>[x.s]) (fun x Bx=>Bx=B∧x.f≤x.i∧x.i≤l.length∧x.m≤x.i∧x.m=x.ps.length∧Zvd x.s x.q x.m x.cp x.ps∧cut x0 l=x.ps ++ glue ((l.take x.i).drop x.f) (cut x0 (l.drop x.i))) (fun x=>l.length - x.i) ⟨0,0,0,[],some ⟨b0,0,none⟩,0,Zbn b0 [] 9⟩ t5 rfl (⟨rfl,Nat.le_refl _,Nat.zero_le _,Nat.le_refl _,rfl,Zi4.lit rfl,by simp [ZnB (ZnO x0 l)]⟩) (fun x B1 hle1 hI=>?_)))
 obtain ⟨rfl,hf,hi,hn,hm,hv,hc⟩:=hI
 refine Zk (Za (xM (h:=xM (h:=xVs Tryz.underlying9 (h:=Zaf (h:=Z4 [(0,_),(1,_),(5,_),(6,_),(7,_),(12,_)] t6 (Zd rfl (fun g1=>?_) (fun g1=>?_))))))))
 try simp only [sQ,ne_eq] at g1
 obtain ⟨c,hx⟩ :∃c,l[x.i]? = some c:=⟨_,List.getElem?_eq_getElem oz⟩
 refine Zi (Zf (Zk (Zp (Za (xM (h:=xM (h:=Zo (Zel rfl rfl Tryz.underlying9 rfl rfl oz hx ?_))))))))
 refine xM (h:=ZI (h:=Z4 [(0,_),(1,_),(5,_),(6,_),(7,_),(12,_),(19,_)] t7 (Zd rfl (fun g2=>?_) (fun g2=>?_))))
 try simp only [sQ,ne_eq] at g2
 refine Za (xM (h:=xM (h:=xM (h:=xM (h:=Zo (Zf8 rfl rfl Tryz.underlying9 rfl (a:=x.f) (b:=x.i) ⟨_,_,rfl,rfl⟩ ⟨_,_,rfl,rfl⟩ oz oz ?_))))))
 refine xBs [(0,_)] [_] Tryz.underlying75 sz9 zo9 (h:=fun b1=>Zo (Zgb 0 rfl (hv) rfl rfl ZoW ZoV rfl rfl (ZaZ.box 1 rfl) rfl rfl oz (fun l1 p1 c1 hv1=>?_)))
 refine xA (h:=ZR [(0,_),(1,_),(5,_),(6,_),(7,_),(12,_),(19,_)] [_,_] t7 rfl (ZsS [0] rfl (Ze (xM (h:=Zo (ZeL rfl rfl rfl rfl (by first | exact ZaY oz oz | rfl) ?_))))))
 refine xA (h:=ZA (Zf (Ze (xM (h:=Zo (ZeL rfl rfl rfl rfl (by first | exact ZaY oz oz | rfl) ?_))))))
 refine xA (h:=?_)
 exact Zn8 ⟨x.i+1,x.i+1,x.m+1,x.ps ++ [(l.take x.i).drop x.f],p1,c1,l1⟩ (so) ⟨rfl,Nat.le_refl _,so,so,by simp [hm],ZkS hv1,by rw [hc,ZtO hx (Zvp g2),List.append_assoc];simp [ZrS,ZnB (ZnO x0 _)]⟩ t5 rfl
 try simp only [sQ,ne_eq] at g2
 refine Zi (ZA (Zf (Ze (xM (h:=Zo (ZeL rfl rfl rfl rfl (by first | exact ZaY oz oz | rfl) ?_))))))
 refine xA (h:=?_)
 exact Zn8 ⟨x.i+1,x.f,x.m,x.ps,x.q,x.cp,x.s⟩ (so) ⟨rfl,so,so,so,hm,hv,by rw [hc,Zr7 hx (Zvo g2),Zqg,Zpl hx hf]⟩ t5 rfl
 try simp only [sQ,ne_eq] at g1
 obtain hie:x.i=l.length:=by omega
 rw [hie,List.take_length,List.drop_length] at hc
 refine Z0 (Zal (Zn7 (ZK (Zf (Za (xM (h:=xM (h:=xM (h:=Zo (Zf8 rfl rfl Tryz.underlying9 rfl (a:=x.f) (b:=l.length) ⟨_,_,rfl,rfl⟩ rfl oz oz ?_))))))))))
 refine xBs [(0,_)] [_] Tryz.underlying75 sz9 zo9 (h:=fun b1=>Zo (Zgb 0 rfl (hv) rfl rfl ZoW ZoV rfl rfl (ZaZ.box 1 rfl) rfl rfl oz (fun l2 p2 c2 hv2=>?_)))
 refine xA (h:=ZR [(0,_),(1,_),(4,_),(5,_),(6,_),(7,_),(12,_)] [_,_] t7 rfl (Zh ?_))
 have he:cut x0 l=x.ps ++ [l.drop x.f]:=by rw [hc];simp [cut,glue]
 have hlen:(cut x0 l).length=x.m+1:=by rw [he];simp [hm]
 exact Zah .ret (.inl rfl) [_] [0] rfl t1 ⟨rfl,_,rfl,p2,c2,by rw [hlen];rfl,by rw [hlen,he];rw [List.take_length] at hv2;exact ZkS hv2⟩

set_option maxHeartbeats 400000 in
theorem Zk8 (l:List UInt8) (hl:l.length≤2000000) (B:Kn):Za6 (pj J) 44 [str l] B (.bool (Zcj l)):=by
 refine Zc 27 Tryz.func44 rfl rfl rfl (Nat.le_of_ble_eq_true rfl) ?_
 refine Za (xA (h:=Z4 [(0,_),(2,_)] t2 (Za (xM (h:=Zo (ZkM rfl rfl ZwW rfl (Ztj _ hl 46 _) ?_))))))
 rintro _ s ⟨q,cp,rfl,hv⟩
 refine xA (h:=ZR [(0,_),(2,_),(3,_)] [_] t3 rfl (Zk (Za (xA (h:=Z4 [(0,_),(2,_),(3,_),(4,_)] t4 (Zp (ZkP (α:=Nat) (fun k=>[(0,str l),(3,.slice q (cut 46 l).length cp),(4,.int .i64 k)]) (fun k=>[s]) (fun k Bx=>Bx=B∧k≤(cut 46 l).length∧((cut 46 l).take k).all Zay=true) (fun k=>(cut 46 l).length - k) 0 t3 rfl (⟨rfl,Nat.zero_le _,by simp⟩) (fun k B1 hle1 hI=>?_))))))))
 obtain ⟨rfl,hk,ha⟩:=hI
 have hcc:=ZlN 46 l
 refine Zk (Za (xM (h:=xM (h:=xV Tryz.underlying75 (h:=Zaf (h:=Z4 [(0,_),(3,_),(4,_),(10,_)] t4 (Zd rfl (fun g1=>?_) (fun g1=>?_))))))))
 try simp only [sQ,ne_eq] at g1
 obtain ⟨y,hy⟩ :∃y,(cut 46 l)[k]? = some y:=⟨_,List.getElem?_eq_getElem oz⟩
 have hyl:=ZmV 46 l y (List.mem_of_getElem? hy)
 obtain ⟨a,rfl,hsp,hat⟩:=hv.at (B:=B1) (L:=[s]) (i:=k) (v:=str y) 0 rfl (by rw [List.getElem?_map,hy];rfl)
 refine Zi (Zf (Zk (Zp (Za (xM (h:=xM (h:=Zo (Za7 rfl rfl Tryz.underlying75 sz9 rfl rfl oz oz ?_))))))))
 refine Zo (Zl rfl rfl lk9 rfl (ZuQ hat) (xR ZrW rfl (Zb0 _ oz _) (h:=?_)))
 refine xN (h:=Z4 [(0,_),(3,_),(4,_),(10,_),(18,_)] t5 (Zd rfl (fun g2=>?_) (fun g2=>?_)))
 try simp only [sQ,ne_eq] at g2
 refine Za (xA (h:=Z4 [(0,_),(2,_),(3,_),(4,_),(10,_),(18,_)] t6 (Zh (ZO (Zs (Zs0 (ZO (Zs ?_))))))))
 exact ZW .ret (.inl rfl) [_] t1 ⟨Zm (by simp [Zcj,ZlX hy g2]),rfl,rfl⟩
 try simp only [sQ,ne_eq] at g2
 refine Zi (ZA (Zf (Ze (xM (h:=Zo (ZeL rfl rfl rfl rfl (by first | exact ZaY oz oz | rfl) ?_))))))
 refine xA (h:=?_)
 exact Zn8 (k+1) oz ⟨rfl,oz,Zi0 hy g2 ha⟩ t3 rfl
 try simp only [sQ,ne_eq] at g1
 obtain hke:k=(cut 46 l).length:=by omega
 rw [hke,List.take_length] at ha
 refine Z0 (Zal (Zn7 (ZK (Zf (Za (xM (h:=xV Tryz.underlying75 (h:=ZcF (h:=xM (h:=Zq (d:=22) rfl (fun g3=>?_) (fun g3=>?_)))))))))))
 try simp only [sQ,ne_eq] at g3
 refine xM (h:=xVs Tryz.underlying9 (h:=ZcF (h:=xT (h:=xA (h:=Z4 [(0,_),(2,_),(3,_),(4,_),(10,_)] t5 (Zh ?_))))))
 exact ZW .ret (.inl rfl) [_] t1 ⟨Zm (by rw [Bool.eq_iff_iff];simp [Zcj,ha];omega),rfl,rfl⟩
 try simp only [sQ,ne_eq] at g3
 refine xP (h:=xP (h:=xP (h:=xF (h:=xA (h:=Z4 [(0,_),(2,_),(3,_),(4,_),(10,_)] t5 (Zh ?_))))))
 exact ZW .ret (.inl rfl) [_] t1 ⟨Zm (by rw [Bool.eq_iff_iff];simp [Zcj,ha];omega),rfl,rfl⟩

set_option maxHeartbeats 400000 in
theorem ZbC (q:Option Addr) (cp:Nat) (us:List DUser) (u:Str) (B:Kn) (hu:SlK B q cp 3 Zg us):Za6 (pj J) 31 [.slice q us.length cp,str u] B (.int .i64 (Zde us u)):=by
 refine Zc 20 Tryz.func31 rfl rfl rfl (Nat.le_of_ble_eq_true rfl) ?_
 have hun:=hu.len
 refine Za (xA (h:=Zk (Za (xA (h:=Zp (ZS (α:=Nat) [0,1] (fun k=>[(5,.int .i64 k)]) [] (fun k=>[]) (fun k Bx=>Bx=B∧k≤us.length∧∀x,x∈us.take k→x.name≠u) (fun k=>us.length - k) 0 t1 rfl (⟨rfl,Nat.zero_le _,by simp⟩) (fun k B1 hle1 hI=>?_)))))))
 obtain ⟨rfl,hk,ha⟩:=hI
 refine ZR [(0,_),(1,_),(5,_)] [] t3 rfl (Zk (Za (xM (h:=xM (h:=xV Tryz.underlying23 (h:=Zaf (h:=Zd rfl (fun g1=>?_) (fun g1=>?_))))))))
 try simp only [sQ,ne_eq] at g1
 refine Zi (Zf (Zk (Zp (Za (xM (h:=xM (h:=?_)))))))
 obtain ⟨x,hx⟩:=Zar (xs:=us) (i:=k) om
 obtain ⟨bb3,oo3,rfl⟩:=hu.base hx
 obtain ⟨_,⟨rfl,hb4,hb4b⟩,hc4⟩:=hu.elem hx
 refine xIx Tryz.underlying23 Zdi (h:=xW ZcH (h:=y1 lk9 hc4 0 (h:=xM (h:=Zcs (h:=Zd rfl (fun g2=>?_) (fun g2=>?_))))))
 try simp only [sQ,ne_eq] at g2
 refine Za (xM (h:=xA (h:=Zh (ZO (Zs (Zad (ZO (Zs ?_))))))))
 exact ZW .ret (.inl rfl) [_] t1 ⟨Za4 (ZrG hx g2 ha).symm,rfl,rfl⟩
 try simp only [sQ,ne_eq] at g2
 refine Zi (ZA (Zf (Ze (xM (h:=xD (h:=xA (h:=?_)))))))
 exact ZC (k+1) [] so2 ⟨rfl,oz,Zbp hx ha g2⟩ t3 rfl
 try simp only [sQ,ne_eq] at g1
 refine Z0 (Zal (Z6 (ZK (Zf (Za (xA (h:=Zh ?_)))))))
 exact ZW .ret (.inl rfl) [_] t1 ⟨Za4 (Zp5 (ZbJ oz ha)).symm,rfl,rfl⟩

set_option maxHeartbeats 400000 in
theorem Zny (q:Option Addr) (cp:Nat) (xs:List Str) (u:Str) (B:Kn) (ha:SlK B q cp 1 Zbd xs):Za6 (pj J) 156 [.slice q xs.length cp,str u] B (.bool (decide (u∈xs))):=by
 refine Zc 18 Tryz.func156 rfl rfl rfl (Nat.le_of_ble_eq_true rfl) ?_
 have han:=ha.len
 refine Za (xA (h:=Zk (Za (xA (h:=Zp (ZS (α:=Nat) [0,1] (fun k=>[(5,.int .i64 k)]) [] (fun k=>[]) (fun k Bx=>Bx=B∧k≤xs.length∧∀x,x∈xs.take k→x≠u) (fun k=>xs.length - k) 0 t1 rfl (⟨rfl,Nat.zero_le _,by simp⟩) (fun k B1 hle1 hI=>?_)))))))
 obtain ⟨rfl,hk,hn⟩:=hI
 refine ZR [(0,_),(1,_),(5,_)] [] t3 rfl (Zk (Za (xM (h:=xM (h:=xV Tryz.underlying75 (h:=Zaf (h:=Zd rfl (fun g1=>?_) (fun g1=>?_))))))))
 try simp only [sQ,ne_eq] at g1
 refine Zi (Zf (Zk (Zp (Za (xM (h:=xM (h:=?_)))))))
 obtain ⟨x,hx⟩:=Zar (xs:=xs) (i:=k) om
 obtain ⟨bb3,oo3,rfl⟩:=ha.base hx
 obtain ⟨_,⟨rfl,hb4⟩,hc4⟩:=ha.elem hx
 refine xIx Tryz.underlying75 sz9 (h:=y1 lk9 hc4 0 (h:=xM (h:=Zcs (h:=Zd rfl (fun g2=>?_) (fun g2=>?_)))))
 try simp only [sQ,ne_eq] at g2
 refine Za (xA (h:=Zh (ZO (Zs (Zad (ZO (Zs ?_)))))))
 exact ZW .ret (.inl rfl) [_] t1 ⟨Zm (ZwL hx g2),rfl,rfl⟩
 try simp only [sQ,ne_eq] at g2
 refine Zi (ZA (Zf (Ze (xM (h:=xD (h:=xA (h:=?_)))))))
 exact ZC (k+1) [] so2 ⟨rfl,oz,Zbp hx hn g2⟩ t3 rfl
 try simp only [sQ,ne_eq] at g1
 refine Z0 (Zal (Z6 (ZK (Zf (Za (xA (h:=Zh ?_)))))))
 exact ZW .ret (.inl rfl) [_] t1 ⟨Zm (ZwM (ZbJ oz hn)),rfl,rfl⟩

set_option maxHeartbeats 400000 in
theorem Zot (q:Option Addr) (cp:Nat) (xs:List Str) (B:Kn) (ha:SlK B q cp 1 Zbd xs):Za6 (pj J) 135 [.slice q xs.length cp] B (.bool (ZcL xs)):=by
 refine Zc 29 Tryz.func135 rfl rfl rfl (Nat.le_of_ble_eq_true rfl) ?_
 have han:=ha.len
 refine Za (xA (h:=Zk (Za (xA (h:=Zp (ZS (α:=Nat) [0] (fun k=>[(3,.int .i64 k)]) [] (fun k=>[]) (fun k Bx=>Bx=B∧k≤xs.length∧(xs.take k).all Zay=true∧(xs.take k).Nodup) (fun k=>xs.length - k) 0 t1 rfl (⟨rfl,Nat.zero_le _,by simp,by simp⟩) (fun k B1 hle1 hI=>?_)))))))
 obtain ⟨rfl,hk,hv,hn⟩:=hI
 refine ZR [(0,_),(3,_)] [] t2 rfl (Zk (Za (xM (h:=xM (h:=xV Tryz.underlying75 (h:=Zaf (h:=Zd rfl (fun g1=>?_) (fun g1=>?_))))))))
 try simp only [sQ,ne_eq] at g1
 refine Zi (Zf (Zk (Zp (Zk (Z9 (same _ _) mo kr ⟨rfl,rfl⟩ (fun _ _=>?_))))))
 refine aM 0 rfl (h:=aM 1 rfl (h:=?_))
 obtain ⟨x,hx⟩:=Zar (xs:=xs) (i:=k) om
 obtain ⟨bb3,oo3,rfl⟩:=ha.base hx
 obtain ⟨_,⟨rfl,hb4⟩,hc4⟩:=ha.elem hx
 refine aIx 2 rfl Tryz.underlying75 sz9 (h:=aT 3 rfl (Zap fun D=>Zl rfl rfl lk9 rfl (hc4 _ 0 _ rfl) r4) (h:=aT 4 rfl (Zap fun D=>ZaS rfl rfl ZrW rfl (Zb0 _ om2 _) r4) (h:=?_)))
 refine aN 5 rfl (h:=aM 6 rfl (h:=Zaw (d:=16) rfl (fun g2=>?_) (fun g2=>?_)))
 try simp only [sQ,ne_eq] at g2
 refine aZ 7 rfl (h:=aZ 8 rfl (h:=aZ 9 rfl (h:=aZ 10 rfl (h:=aZ 11 rfl (h:=aZ 12 rfl (h:=aZ 13 rfl (h:=aZ 14 rfl (h:=aPT 15 rfl (h:=Zz kr kr ?_)))))))))
 refine Zf (Zd (t:=true) rfl (fun _=>Za (xA (h:=Zh (ZO (Zs (Zad (ZO (Zs ?_)))))))) (fun h=>Bool.noConfusion h))
 exact ZW .ret (.inl rfl) [_] t1 ⟨Zm (Zhd hx g2),rfl,rfl⟩
 try simp only [sQ,ne_eq] at g2
 refine aM 7 rfl (h:=aM 8 rfl (h:=?_))
 obtain ⟨hq6,q6,cp6,hv6,hr6⟩:=ha.cutE 0 k om om
 have hr6n:=hr6.len
 refine aT 9 rfl (Zap fun D=>Zft (a:=0) (b:=k) hv6 om hq6 rfl rfl Tryz.underlying75 sz9 rfl rfl ⟨_,_,rfl,by first | omega | (simp;done) | (simp;omega)⟩ r4) (h:=?_)
 refine aM 10 rfl (h:=aM 11 rfl (h:=aIx 12 rfl Tryz.underlying75 sz9 (h:=aT 13 rfl (Zap fun D=>Zl rfl rfl lk9 rfl (hc4 _ 0 _ rfl) r4) (h:=aT 14 rfl (Zap fun D=>ZaS rfl rfl ZuE rfl (Zny _ _ _ _ _ hr6) r4) (h:=aPF 15 rfl (h:=Zz kr kr ?_))))))
 refine Zf (Zd rfl (fun g3=>?_) (fun g3=>?_))
 try simp only [sQ,ne_eq] at g3
 refine Za (xA (h:=Zh (ZO (Zs (Zad (ZO (Zs ?_)))))))
 exact ZW .ret (.inl rfl) [_] t1 ⟨Zm (Zhc hx (by simpa using g3)),rfl,rfl⟩
 try simp only [sQ,ne_eq] at g3
 refine Zi (ZA (Zf (Ze (xM (h:=xD (h:=xA (h:=?_)))))))
 exact ZC (k+1) [] so2 ⟨rfl,oz,Zi0 hx g2 hv,ZpO hx hn (by simpa using g3)⟩ t2 rfl
 try simp only [sQ,ne_eq] at g1
 refine Z0 (Zal (Z6 (ZK (Zf (Za (xM (h:=xV Tryz.underlying75 (h:=ZcF (h:=xA (h:=Zh ?_))))))))))
 exact ZW .ret (.inl rfl) [_] t1 ⟨Zm (Zij oz hv hn),rfl,rfl⟩

set_option maxHeartbeats 400000 in
theorem ZeN (q:Option Addr) (cp:Nat) (x:DLetter) (B:Kn) (ha:SlK B q cp 1 Zbd x.to_) (h1:x.fr.length≤2000000) (h2:x.text.length≤2000000):Za6 (pj J) 87 [.agg #[str x.fr,.slice q x.to_.length cp,str x.text]] B (.bool (ZaO x)):=by
 refine Zc 23 Tryz.func87 rfl rfl rfl (Nat.le_of_ble_eq_true rfl) ?_
 refine Za (xBx [_,_,_] (h:=fun b1=>xA (h:=Zu [_] rfl (Za (xW ZiJ (h:=x1 lk9 0 (h:=xR ZrW rfl (Zb0 _ om2 _) (h:=?_))))))))
 refine xM (h:=Zq (d:=6) rfl (fun g1=>?_) (fun g1=>?_))
 try simp only [sQ,ne_eq] at g1
 refine xW ZiI (h:=x1 ZhE 0 (h:=xR Zwd rfl (Zot _ _ _ _ ha) (h:=xT (h:=xM (h:=Zq (d:=11) rfl (fun g2=>?_) (fun g2=>?_))))))
 try simp only [sQ,ne_eq] at g2
 refine xW ZiI (h:=x1 ZhE 0 (h:=xV Tryz.underlying75 (h:=Zbf (h:=xT (h:=xM (h:=Zq (d:=17) rfl (fun g3=>?_) (fun g3=>?_)))))))
 try simp only [sQ,ne_eq] at g3
 refine xW ZmP (h:=x1 lk9 0 (h:=xVs Tryz.underlying9 (h:=ZcF (h:=xT (h:=xA (h:=Zh ?_))))))
 exact ZW .ret (.inl rfl) [_] t1 ⟨Zm (by rw [Bool.eq_iff_iff];simp [ZaO,g1,g2,g3];try omega),rfl,rfl⟩
 try simp only [sQ,ne_eq] at g3
 refine xP (h:=xP (h:=xP (h:=xP (h:=xF (h:=xA (h:=Zh ?_))))))
 exact ZW .ret (.inl rfl) [_] t1 ⟨Zm (by rw [Bool.eq_iff_iff];simp [ZaO,g1,g2,g3];try omega),rfl,rfl⟩
 try simp only [sQ,ne_eq] at g2
 refine xP (h:=xP (h:=xP (h:=xP (h:=xF (h:=xM (h:=xP (h:=xP (h:=xP (h:=xP (h:=xF (h:=xA (h:=Zh ?_))))))))))))
 exact ZW .ret (.inl rfl) [_] t1 ⟨Zm (by rw [Bool.eq_iff_iff];simp [ZaO,g1,g2];try omega),rfl,rfl⟩
 try simp only [sQ,ne_eq] at g1
 refine xP (h:=xP (h:=xP (h:=xF (h:=xM (h:=xP (h:=xP (h:=xP (h:=xP (h:=xF (h:=xM (h:=xP (h:=xP (h:=?_)))))))))))))
 refine xP (h:=xP (h:=xF (h:=xA (h:=Zh ?_))))
 exact ZW .ret (.inl rfl) [_] t1 ⟨Zm (by rw [Bool.eq_iff_iff];simp [ZaO,g1];try omega),rfl,rfl⟩

set_option maxHeartbeats 400000 in
theorem Ztp (q:Option Addr) (cp:Nat) (xs:List Str) (v:Str) (B:Kn) (ha:SlK B q cp 1 Zbd xs):Za6 (pj J) 166 [.slice q xs.length cp,str v] B (.int .i64 (ZvC xs v)):=by
 refine Zc 19 Tryz.func166 rfl rfl rfl (Nat.le_of_ble_eq_true rfl) ?_
 have han:=ha.len
 refine Za (xA (h:=Zk (Za (xM (h:=xV Tryz.underlying75 (h:=xM (h:=Zp (ZS (α:=Nat) [0,1,7] (fun k=>[(8,.int .i64 k)]) [] (fun k=>[]) (fun k Bx=>Bx=B∧k≤xs.length∧∀x,x∈xs.take k→decide (x=v)=false) (fun k=>xs.length - k) 0 t1 rfl (⟨rfl,Nat.zero_le _,by simp⟩) (fun k B1 hle1 hI=>?_)))))))))
 obtain ⟨rfl,hk,hn⟩:=hI
 refine ZR [(0,_),(1,_),(7,_),(8,_)] [] t4 rfl (Za (Zaf (h:=Zk (Zd rfl (fun g1=>?_) (fun g1=>?_)))))
 try simp only [sQ,ne_eq] at g1
 refine Zi (Zf (Zk (Zp (Za (xM (h:=xA (h:=Za (xM (h:=xM (h:=xM (h:=?_)))))))))))
 obtain ⟨x,hx⟩:=Zar (xs:=xs) (i:=k) om
 obtain ⟨bb3,oo3,rfl⟩:=ha.base hx
 obtain ⟨_,⟨rfl,hb4⟩,hc4⟩:=ha.elem hx
 refine xIx Tryz.underlying75 sz9 (h:=y1 lk9 hc4 0 (h:=Zcs (h:=Zd rfl (fun g2=>?_) (fun g2=>?_))))
 try simp only [sQ,ne_eq] at g2
 refine Za (xM (h:=xA (h:=Zh (ZO (Zs (Zad (ZO (Zs ?_))))))))
 exact ZW .ret (.inl rfl) [_] t1 ⟨Za4 (ZhI hx (by simp [g2]) hn).symm,rfl,rfl⟩
 try simp only [sQ,ne_eq] at g2
 refine Zi (ZA (Zf (Ze (xD (h:=xM (h:=?_))))))
 exact ZC (k+1) [] so2 ⟨rfl,oz,Zbp hx hn (by simp [Ne.symm g2])⟩ t4 rfl
 try simp only [sQ,ne_eq] at g1
 refine Z0 (Zal (Z6 (ZK (Zf (Za (xA (h:=Zh ?_)))))))
 exact ZW .ret (.inl rfl) [_] t1 ⟨Za4 (ZeZ (ZbJ oz hn)).symm,rfl,rfl⟩

set_option maxHeartbeats 400000 in
theorem ZoL (q:Option Addr) (cp:Nat) (xs:List Str) (v:Str) (B:Kn) (ha:SlK B q cp 1 Zbd xs):Za6 (pj J) 146 [.slice q xs.length cp,str v] B (.bool (decide (v∈xs))):=by
 refine Zc 9 Tryz.func146 rfl rfl rfl (Nat.le_of_ble_eq_true rfl) ?_
 refine Za (xA (h:=Za (xM (h:=xM (h:=xR ZvT rfl (Ztp _ _ _ _ _ ha) (h:=Zd2 (h:=xA (h:=Zh ?_))))))))
 exact ZW .ret (.inl rfl) [_] t1 ⟨Zm (by rw [Bool.eq_iff_iff];simp [ZrH]),rfl,rfl⟩

set_option maxHeartbeats 400000 in
theorem Zms (q:Option Addr) (cp:Nat) (xs:List Str) (B:Kn) (ha:SlK B q cp 1 Zbd xs):Za6 (pj J) 111 [.slice q xs.length cp] B (.bool (decide (1≤xs.length) && ZcL xs)):=by
 refine Zc 31 Tryz.func111 rfl rfl rfl (Nat.le_of_ble_eq_true rfl) ?_
 have han:=ha.len
 refine Za (xA (h:=Zk (Za (xM (h:=xV Tryz.underlying75 (h:=Zaf (h:=xM (h:=Zq (d:=8) rfl (fun g1=>?_) (fun g1=>?_)))))))))
 try simp only [sQ,ne_eq] at g1
 refine xP (h:=xP (h:=xP (h:=xT (h:=Zd (t:=true) rfl (fun _=>Za (xA (h:=Zh (Zs ?_)))) (fun h=>Bool.noConfusion h)))))
 exact ZW .ret (.inl rfl) [_] t1 ⟨Zm (by simp;omega),rfl,rfl⟩
 try simp only [sQ,ne_eq] at g1
 refine xM (h:=xV Tryz.underlying75 (h:=Zbf (h:=xF (h:=Zd rfl (fun g2=>?_) (fun g2=>?_)))))
 try simp only [sQ,ne_eq] at g2
 refine Za (xA (h:=Zh (Zs ?_)))
 exact ZW .ret (.inl rfl) [_] t1 ⟨Zm (by simp [ZcL];omega),rfl,rfl⟩
 try simp only [sQ,ne_eq] at g2
 refine Zi (Zf (Zk (Za (xM (h:=xV Tryz.underlying75 (h:=xM (h:=Zp (ZS (α:=Nat) [0,12,13,14] (fun k=>[(15,.int .i64 k)]) [] (fun k=>[]) (fun k Bx=>Bx=B∧k≤xs.length∧(xs.take k).all Zay=true∧(xs.take k).Nodup) (fun k=>xs.length - k) 0 t1 rfl (⟨rfl,Nat.zero_le _,by simp,by simp⟩) (fun k B1 hle1 hI=>?_)))))))))
 obtain ⟨rfl,hk,hv,hn⟩:=hI
 refine ZR [(0,_),(12,_),(13,_),(14,_),(15,_)] [] t5 rfl (Za (Zaf (h:=Zk (Zd rfl (fun g3=>?_) (fun g3=>?_)))))
 try simp only [sQ,ne_eq] at g3
 refine Zi (Zf (Zk (Zp (Za (xM (h:=?_))))))
 obtain ⟨x,hx⟩:=Zar (xs:=xs) (i:=k) om
 obtain ⟨bb3,oo3,rfl⟩:=ha.base hx
 obtain ⟨_,⟨rfl,hb4⟩,hc4⟩:=ha.elem hx
 refine xIx Tryz.underlying75 sz9 (h:=y1 lk9 hc4 0 (h:=xA (h:=xA (h:=Za (xM (h:=xR ZtX rfl (Zdm _ om2 _) (h:=?_)))))))
 refine xN (h:=xM (h:=Zq (d:=23) rfl (fun g4=>?_) (fun g4=>?_)))
 try simp only [sQ,ne_eq] at g4
 refine xP (h:=xP (h:=xP (h:=xP (h:=xP (h:=xT (h:=Zd (t:=true) rfl (fun _=>Za (xA (h:=Zh (ZO (Zs (Zad (ZO (Zs ?_)))))))) (fun h=>Bool.noConfusion h)))))))
 exact ZW .ret (.inl rfl) [_] t1 ⟨Zm (by rw [← Zhd hx g4,Bool.and_false]),rfl,rfl⟩
 try simp only [sQ,ne_eq] at g4
 refine xM (h:=xM (h:=?_))
 obtain ⟨hq6,q6,cp6,hv6,hr6⟩:=ha.cutE 0 k om om
 have hr6n:=hr6.len
 refine Zo (Zft (a:=0) (b:=k) hv6 om hq6 rfl rfl Tryz.underlying75 sz9 rfl rfl ⟨_,_,rfl,by first | omega | (simp;done) | (simp;omega)⟩ ?_)
 refine xM (h:=xR Zv7 rfl (ZoL _ _ _ _ _ hr6) (h:=xF (h:=Zd rfl (fun g5=>?_) (fun g5=>?_))))
 try simp only [sQ,ne_eq] at g5
 refine Za (xA (h:=Zh (ZO (Zs (Zad (ZO (Zs ?_)))))))
 exact ZW .ret (.inl rfl) [_] t1 ⟨Zm (by rw [← Zhc hx (by simpa using g5),Bool.and_false]),rfl,rfl⟩
 try simp only [sQ,ne_eq] at g5
 refine Zi (ZA (Zf (Ze (xD (h:=xM (h:=?_))))))
 exact ZC (k+1) [] so2 ⟨rfl,oz,Zi0 hx g4 hv,ZpO hx hn (by simpa using g5)⟩ t5 rfl
 try simp only [sQ,ne_eq] at g3
 refine Z0 (Zal (Z6 (ZK (Zf (Za (xA (h:=Zh ?_)))))))
 exact ZW .ret (.inl rfl) [_] t1 ⟨Zm (by rw [← Zij oz hv hn];simp;omega),rfl,rfl⟩

set_option maxHeartbeats 400000 in
theorem Zlw (q:Option Addr) (cp:Nat) (x:DLetter) (B:Kn) (ha:SlK B q cp 1 Zbd x.to_) (h1:x.fr.length≤2000000) (h2:x.text.length≤2000000):Za6 (pj J) 73 [.agg #[str x.fr,.slice q x.to_.length cp,str x.text]] B (.bool (ZaO x)):=by
 refine Zc 17 Tryz.func73 rfl rfl rfl (Nat.le_of_ble_eq_true rfl) ?_
 refine Za (xBx [_,_,_] (h:=fun b1=>xA (h:=Zu [_] rfl (Za (xW ZiJ (h:=x1 lk9 0 (h:=xR ZtX rfl (Zdm _ om2 _) (h:=?_))))))))
 refine xM (h:=Zq (d:=6) rfl (fun g1=>?_) (fun g1=>?_))
 try simp only [sQ,ne_eq] at g1
 refine xW ZiI (h:=x1 ZhE 0 (h:=xR Zwj rfl (Zms _ _ _ _ ha) (h:=xT (h:=xM (h:=Zq (d:=11) rfl (fun g2=>?_) (fun g2=>?_))))))
 try simp only [sQ,ne_eq] at g2
 refine xW ZmP (h:=x1 lk9 0 (h:=xVs Tryz.underlying9 (h:=ZcF (h:=xT (h:=xA (h:=Zh ?_))))))
 exact ZW .ret (.inl rfl) [_] t1 ⟨Zm (by rw [ZeW];simp [g1,g2]),rfl,rfl⟩
 try simp only [sQ,ne_eq] at g2
 refine xP (h:=xP (h:=xP (h:=xP (h:=xF (h:=xA (h:=Zh ?_))))))
 exact ZW .ret (.inl rfl) [_] t1 ⟨Zm (by rw [ZeW];simp [g1,g2]),rfl,rfl⟩
 try simp only [sQ,ne_eq] at g1
 refine xP (h:=xP (h:=xP (h:=xF (h:=xM (h:=xP (h:=xP (h:=xP (h:=xP (h:=xF (h:=xA (h:=Zh ?_)))))))))))
 exact ZW .ret (.inl rfl) [_] t1 ⟨Zm (by rw [ZeW];simp [g1]),rfl,rfl⟩

set_option maxHeartbeats 400000 in
theorem ZmC (b:Nat) (q:Option Addr) (m cp p:Nat) (hp:p≤900000000000) (hm:m≤2000) (B:Kn) (hbm:Zac B q m):Ex1 (pj J) 66 [ptr ⟨b,0,none⟩] B (rd b q m cp p) (fun v s=>∃x:Str,v=str x∧x.length≤40∧s=rd b q m cp (p+2)):=by
 refine Zc 12 Tryz.func66 rfl rfl rfl (Nat.le_of_ble_eq_true rfl) ?_
 refine Za (xA (h:=Zk (Za (xM (h:=xX 0 rfl Za5 rfl (ZM _ _ _ _ _ _ oz oz oz hm _ hbm) (h:=?_))))))
 rintro _ _ ⟨r1,rfl,r1a,r1b,rfl⟩
 refine ZI (h:=Zu [_] rfl (Zd rfl (fun g1=>?_) (fun g1=>?_)))
 try simp only [sQ,ne_eq] at g1
 refine Za (xM (h:=xBs [(0,_),(1,_),(2,_),(3,_),(4,_),(5,_),(6,_),(7,_),(8,_)] [_,_,_,_,_,_,_,_,_] Tryz.underlying75 sz9 zo9 (h:=fun b2=>Zo (Z7 [0,1] rfl rfl rfl rfl Zl7 rfl (Zog _ _ _ _ _ _ ([[],[46],[97,46,46,98],[97,46,98,46,99,46,100],[97,46,98,46,99],[97,98,99,100,101,102,103,104,46,97,98,99,100,101,102,103,104,46,97,98,99],[97,98,99,100,101,102,103,104,46,97,98,99,100,101,102,103,104,46,97,98],[104,111,115,116,46],[72,111,115,116,46,111,114,103]]:List Str) oz (by decide) (by decide) hm _ hbm) ?_))))
 rintro _ _ _ hle3 ⟨rfl,x3,hx3,rfl,rfl⟩
 replace hx3:=(show∀y∈( ([[],[46],[97,46,46,98],[97,46,98,46,99,46,100],[97,46,98,46,99],[97,98,99,100,101,102,103,104,46,97,98,99,100,101,102,103,104,46,97,98,99],[97,98,99,100,101,102,103,104,46,97,98,99,100,101,102,103,104,46,97,98],[104,111,115,116,46],[72,111,115,116,46,111,114,103]]:List Str):List Str),y.length≤40 from by decide) _ hx3
 refine xA (h:=Zu [_,_] rfl (Zh (Zs ?_)))
 exact ZfB .ret (.inl rfl) [_] 0 rfl t1 ⟨rfl,_,rfl,_,rfl,hx3,rfl⟩
 try simp only [sQ,ne_eq] at g1
 refine Zi (Zf (Za (xM (h:=xBs [(0,_),(1,_),(2,_),(3,_)] [_,_,_,_] Tryz.underlying75 sz9 zo9 (h:=fun b4=>Zo (Z7 [0,1] rfl rfl rfl rfl Zl7 rfl (Zog _ _ _ _ _ _ ([[104,111,115,116,46,111,114,103],[104,111,115,116],[97,46,98,46,99],[111,116,104,101,114,46,110,101,116]]:List Str) oz (by decide) (by decide) hm _ hbm) ?_))))))
 rintro _ _ _ hle5 ⟨rfl,x5,hx5,rfl,rfl⟩
 replace hx5:=(show∀y∈( ([[104,111,115,116,46,111,114,103],[104,111,115,116],[97,46,98,46,99],[111,116,104,101,114,46,110,101,116]]:List Str):List Str),y.length≤40 from by decide) _ hx5
 refine xA (h:=Zu [_,_] rfl (Zh ?_))
 exact ZfB .ret (.inl rfl) [_] 0 rfl t1 ⟨rfl,_,rfl,_,rfl,hx5,rfl⟩

set_option maxHeartbeats 400000 in
theorem ZfN (aq:Option Addr) (cq:Nat) (q:DQueue) (B:Kn) (hq:SlK B aq cq 4 Zj q.items):Za6 (pj J) 46 [.agg #[.int .i64 q.next,.slice aq q.items.length cq]] B (.bool (Zag q)):=by
 refine Zc 48 Tryz.func46 rfl rfl rfl (Nat.le_of_ble_eq_true rfl) ?_
 have hqn:=hq.len
 refine Za (xBx [_,_] (h:=fun b1=>xA (h:=Zu [_] rfl (Za (xA (h:=Zk (Za (xA (h:=Zp (ZS (α:=Nat × Int) [0,1] (fun p=>[(3,.int .i64 p.2),(4,.int .i64 p.1)]) [] (fun p=>[]) (fun p Bx=>Bx=B∧p.1≤q.items.length∧ZcX 0 q.items=ZcX p.2 (q.items.drop p.1)∧0≤p.2∧p.2≤99) (fun p=>q.items.length - p.1) (0,0) t2 rfl (⟨rfl,Nat.zero_le _,rfl,by decide,by decide⟩) (fun p B2 hle2 hI=>?_)))))))))))
 obtain ⟨rfl,hk,hs,hl0,hl1⟩:=hI
 refine ZR [(0,_),(1,_),(3,_),(4,_)] [_] t4 rfl (Zk (Za (xM (h:=xW ZaM (h:=x1 ZfX 0 (h:=xV Tryz.underlying25 (h:=Zaf (h:=Zd rfl (fun g1=>?_) (fun g1=>?_)))))))))
 try simp only [sQ,ne_eq] at g1
 refine Zi (Zf (Zk (Zp (Za (xW ZaM (h:=x1 ZfX 0 (h:=xM (h:=?_))))))))
 obtain ⟨x,hx⟩:=Zar (xs:=q.items) (i:=p.1) om
 obtain ⟨bb4,oo4,rfl⟩:=hq.base hx
 obtain ⟨_,⟨qi5,ci5,rfl,hi5,hb5,hb5b⟩,hc5⟩:=hq.elem hx
 have hi5n:=hi5.len
 refine xIx Tryz.underlying25 ZeG (h:=?_)
 replace hs:=ZpA hs hx
 refine yL [_,_,_,_] Zl5 hc5 0 (h:=xAl [_,_,_,_] Zi2 (h:=fun b6=>xS [_,_,_,_] 1 [_,_,_,_] ZeG (h:=Zu [_,_] rfl (Zk (Za (xW Ze6 (h:=x1 lk3 1 (h:=xM (h:=xD (h:=xR ZjX rfl (Zco _ _ _ _) (h:=xN (h:=xM (h:=?_)))))))))))))
 refine Zq (d:=24) rfl (fun g2=>?_) (fun g2=>?_)
 try simp only [sQ,ne_eq] at g2
 refine xP (h:=xP (h:=xP (h:=xP (h:=xP (h:=xP (h:=xP (h:=xP (h:=xP (h:=xT (h:=Zd (t:=true) rfl (fun _=>Za (xA (h:=?_))) (fun h=>Bool.noConfusion h)))))))))))
 refine Zh (Zs (ZO (Zs (Zad (ZO (Zs ?_))))))
 exact ZW .ret (.inl rfl) [_] t1 ⟨Zm (Znm (by rw [hs,if_neg];intro h;simp [h.1] at g2)),rfl,rfl⟩
 try simp only [sQ,ne_eq] at g2
 simp only [Bool.and_eq_true,decide_eq_true_eq] at g2
 refine xW ZnD (h:=x1 lk9 1 (h:=xW ZbM (h:=x1 ZhE 1 (h:=xW Zqj (h:=x1 lk9 1 (h:=xB [(0,_),(1,_),(2,_)] [_,_,_] [_,_,_] Zrk ZnT (h:=xR ZvH rfl (ZeN _ _ ⟨x.fr,x.left,x.text⟩ _ hi5 oa oa) (h:=?_))))))))
 refine xN (h:=xF (h:=Zd rfl (fun g3=>?_) (fun g3=>?_)))
 try simp only [sQ,ne_eq] at g3
 refine Za (xA (h:=Zh (Zs (ZO (Zs (Zad (ZO (Zs ?_))))))))
 exact ZW .ret (.inl rfl) [_] t1 ⟨Zm (Znm (by rw [hs,if_neg];intro h;rw [Zcz,g3] at h;cases h.2)),rfl,rfl⟩
 try simp only [sQ,ne_eq] at g3
 refine Zi (Zf (Ze (xW Ze6 (h:=x1 lk3 1 (h:=xA (h:=ZA (Zf (Ze (xM (h:=xD (h:=xA (h:=?_))))))))))))
 exact ZC (p.1+1,x.id) [0] so2 ⟨rfl,so,by rw [hs,if_pos ⟨g2,g3⟩],so,so⟩ t4 rfl
 try simp only [sQ,ne_eq] at g1
 rw [ZqA oz,ZcX] at hs
 refine Z0 (Zal (Z6 (ZK (Zf (Za (xW Ze7 (h:=x1 lk3 0 (h:=xM (h:=xD (h:=xR ZjX rfl (Zco _ _ _ _) (h:=xM (h:=Zq (d:=42) rfl (fun g1=>?_) (fun g1=>?_)))))))))))))
 try simp only [sQ,ne_eq] at g1
 refine xW ZaM (h:=x1 ZfX 0 (h:=xV Tryz.underlying25 (h:=ZcF (h:=xT (h:=xA (h:=Zh ?_))))))
 exact ZW .ret (.inl rfl) [_] t1 ⟨Zm (by rw [← Znl hs,Bool.eq_iff_iff];simp [g1,g1];try omega),rfl,rfl⟩
 try simp only [sQ,ne_eq] at g1
 refine xP (h:=xP (h:=xP (h:=xP (h:=xF (h:=xA (h:=Zh ?_))))))
 exact ZW .ret (.inl rfl) [_] t1 ⟨Zm (by rw [← Znl hs,Bool.eq_iff_iff];simp [g1,g1];try omega),rfl,rfl⟩

set_option maxHeartbeats 400000 in
theorem Zrz (l:Str) (n:Nat) (hl:l.length*n≤100000) (hn:n≤100000) (hl2:l.length≤100000) (B:Kn):Za6 (pj J) 142 [str l,.int .i64 n] B (str (rep l n)):=by
 refine Zc 20 Tryz.func142 rfl rfl rfl (Nat.le_of_ble_eq_true rfl) ?_
 refine Za (xA (h:=Za (xA (h:=Zk (Zp (ZS (α:=Str × Str × Nat) [4] (fun p=>[(0,str p.1),(1,.int .i64 p.2.2),(5,str p.2.1)]) [] (fun p=>[]) (fun p Bx=>Bx=B∧rep l n=p.2.1 ++ rep p.1 p.2.2∧p.2.2≤n∧p.1.length≤200000∧p.2.1.length≤100000∧(0<p.2.2→p.1.length≤100000)) (fun p=>p.2.2) (l,[],n) t3 rfl (⟨rfl,rfl,Nat.le_refl _,so,by simp,fun _=>hl2⟩) (fun p B1 hle1 hI=>?_)))))))
 obtain ⟨rfl,hr,h1,h2,h3,h4⟩:=hI
 have hrl:=congrArg List.length hr
 rw [List.length_append,Zka,Zka,Nat.mul_comm] at hrl
 refine ZR [(0,_),(1,_),(4,_),(5,_)] [] t4 rfl (Zk (Za (xM (h:=Zbf (h:=Zd rfl (fun g1=>?_) (fun g1=>?_))))))
 try simp only [sQ,ne_eq] at g1
 have hp0:0<p.2.2:=by omega
 replace h4:=h4 hp0
 have hm1:=Nat.le_mul_of_pos_left p.1.length hp0
 have e1:Int.tdiv (p.2.2:Int) 2=((p.2.2 / 2:Nat):Int):=by rw [Int.tdiv_eq_ediv_of_nonneg oz];omega
 have e2:Int.tmod (p.2.2:Int) 2=((p.2.2 % 2:Nat):Int):=by rw [Int.tmod_eq_emod_of_nonneg oz];omega
 refine Zi (Zf (Zp (Zk (Za (xM (h:=Zo (Zf9 rfl rfl rfl rfl oz rfl ?_)))))))
 refine ZI (h:=Zd rfl (fun g2=>?_) (fun g2=>?_))
 try simp only [sQ,ne_eq] at g2
 rw [e2] at g2
 have hro:=Zs1 p.1 p.2.2 oz
 have hol:=Zka (p.1 ++ p.1) (p.2.2 / 2)
 refine Ze (xM (h:=xM (h:=Zo (ZsT rfl rfl rfl rfl (by first | omega | (simp;omega)) ?_))))
 refine xA (h:=Zf (Za (xM (h:=xM (h:=Zo (ZsT rfl rfl rfl rfl (by first | omega | (simp;omega)) ?_))))))
 refine xA (h:=Ze (xM (h:=Zo (ZhW rfl rfl rfl rfl oz (by first | exact ZaY om om | rfl) ?_))))
 refine xA (h:=ZA ?_)
 exact ZC (p.1 ++ p.1,p.2.1 ++ p.1,p.2.2 / 2) [] so2 ⟨rfl,by rw [hr,hro,List.append_assoc],so,by simp only [List.length_append];omega,by simp only [List.length_append];omega,fun h=>by simp only [List.length_append] at h ⊢;have:=Nat.mul_le_mul_right p.1.length (show 2≤p.2.2 by omega);omega⟩ t4 rfl
 try simp only [sQ,ne_eq] at g2
 rw [e2] at g2
 have hro:=Zrd p.1 p.2.2 oz
 refine Zi (Zf (Za (xM (h:=xM (h:=Zo (ZsT rfl rfl rfl rfl (by first | omega | (simp;omega)) ?_))))))
 refine xA (h:=Ze (xM (h:=Zo (ZhW rfl rfl rfl rfl oz (by first | exact ZaY om om | rfl) ?_))))
 refine xA (h:=ZA ?_)
 exact ZC (p.1 ++ p.1,p.2.1,p.2.2 / 2) [] so2 ⟨rfl,by rw [hr,hro],so,by simp only [List.length_append];omega,h3,fun h=>by simp only [List.length_append] at h ⊢;have:=Nat.mul_le_mul_right p.1.length (show 2≤p.2.2 by omega);omega⟩ t4 rfl
 try simp only [sQ,ne_eq] at g1
 refine Z0 (Zal (Z6 (ZK (Zf (Za (xM (h:=xA (h:=Zh ?_))))))))
 exact ZW .ret (.inl rfl) [_] t1 ⟨Zuk (by rw [hr,show p.2.2=0 from by omega];simp [rep]),rfl,rfl⟩

set_option maxHeartbeats 400000 in
theorem ZeX (b:Nat) (q:Option Addr) (m cp p:Nat) (hp:p≤900000000000) (hm:m≤2000) (B:Kn) (hbm:Zac B q m):Ex1 (pj J) 104 [ptr ⟨b,0,none⟩] B (rd b q m cp p) (fun v s=>∃x:Str,v=str x∧x.length≤40∧s=rd b q m cp (p+2)):=by
 refine Zc 13 Tryz.func104 rfl rfl rfl (Nat.le_of_ble_eq_true rfl) ?_
 refine Za (xA (h:=Zk (Za (xM (h:=xX 0 rfl Za5 rfl (ZM _ _ _ _ _ _ oz oz oz hm _ hbm) (h:=?_))))))
 rintro _ _ ⟨r1,rfl,r1a,r1b,rfl⟩
 refine ZI (h:=Zu [_] rfl (Zd rfl (fun g1=>?_) (fun g1=>?_)))
 try simp only [sQ,ne_eq] at g1
 refine Za (xM (h:=xX 0 rfl Za5 rfl (ZM _ _ _ _ _ _ oz oz oz hm _ hbm) (h:=?_)))
 rintro _ _ ⟨ra,rfl,raa,rab,rfl⟩
 refine xD (h:=?_)
 obtain ⟨n3,hn3⟩:=Int.eq_ofNat_of_zero_le (show 0≤19+ra by omega)
 rw [hn3]
 refine xR Zwa rfl (Zrz [120] n3 (by simp;omega) oz (by decide) _) (h:=?_)
 refine xA (h:=Zu [_] rfl (Zh (Zs ?_)))
 exact ZfB .ret (.inl rfl) [_] 0 rfl t1 ⟨rfl,_,rfl,_,rfl,by rw [Zka];simp;omega,rfl⟩
 try simp only [sQ,ne_eq] at g1
 refine Zi (Zf (Za (xM (h:=xBs [(0,_),(1,_),(2,_),(3,_),(4,_),(5,_)] [_,_,_,_,_,_] Tryz.underlying75 sz9 zo9 (h:=fun b4=>Zo (Z7 [0,1] rfl rfl rfl rfl Zl7 rfl (Zog _ _ _ _ _ _ ([[],[104,101,108,108,111],[97,109,121,32,97,110,100,32,98,111,98],[120],[98,111,120,49,32,111,114,32,120],[116,111,32,98,111,98]]:List Str) oz (by decide) (by decide) hm _ hbm) ?_))))))
 rintro _ _ _ hle5 ⟨rfl,x5,hx5,rfl,rfl⟩
 replace hx5:=(show∀y∈( ([[],[104,101,108,108,111],[97,109,121,32,97,110,100,32,98,111,98],[120],[98,111,120,49,32,111,114,32,120],[116,111,32,98,111,98]]:List Str):List Str),y.length≤40 from by decide) _ hx5
 refine xA (h:=Zu [_,_] rfl (Zh ?_))
 exact ZfB .ret (.inl rfl) [_] 0 rfl t1 ⟨rfl,_,rfl,_,rfl,hx5,rfl⟩

set_option maxHeartbeats 400000 in
theorem Zth (b:Nat) (q:Option Addr) (m cp p:Nat) (hp:p≤900000000000) (hm:m≤2000) (B:Kn) (hbm:Zac B q m):ZL (pj J) 143 [ptr ⟨b,0,none⟩] B [rd b q m cp p] (fun v B' Ls=>∃q' cp' xs p',v = .slice q' xs.length cp'∧SlK B' q' cp' 1 Zbd xs∧xs.length≤6∧p'≤p+6∧Ls=[rd b q m cp p']):=by
 refine Zc 53 Tryz.func143 rfl rfl rfl (Nat.le_of_ble_eq_true rfl) ?_
 refine Za (xA (h:=Za (xBs [] [] Tryz.underlying75 sz9 zo9 (h:=fun b1=>xA (h:=Zu [_,_] rfl (Za (xBs [(0,_),(1,_),(2,_),(3,_)] [_,_,_,_] Tryz.underlying75 sz9 zo9 (h:=fun b2=>xA (h:=Zu [_,_,_] rfl (ZdL 2 rfl (Zaa.strs (ls:=([[97,109,121],[98,111,98],[99,121,100],[100,97,110]]:List Str)) (by first | decide | (simp;done) | (simp;omega))) Zbd.mono om3 (fun B3 hle3 hr3=>?_)))))))))))
 replace hbm:=hbm.mono hle3
 have hr3n:=hr3.len
 refine Zk (Za (xA (h:=Zu [_,_,_] rfl (Zp (ZS (α:=Gh Str) [0,2,4] (fun x=>[(3,.slice x.a x.xs.length x.c),(5,.int .i64 x.k)]) [0,1] (fun x=>[rd b q m cp x.p,x.l]) (fun x Bx=>Bx=B3∧x.k≤3∧x.xs.length≤x.k∧x.p≤p+x.k∧Zaa Bx x.l x.a x.c 9 1 Zbd x.xs) (fun x=>3 - x.k) ⟨0,p,_,_,_,[]⟩ t2 rfl (⟨rfl,Nat.zero_le _,Nat.le_refl _,Nat.le_refl _,.lit0⟩) (fun x B4 hle4 hI=>?_))))))
 obtain ⟨rfl,hk,hxk,hxp,hv⟩:=hI
 refine ZR [(0,_),(2,_),(3,_),(4,_),(5,_)] [_,_,_] t5 rfl (Zk (Za (xM (h:=Zaf (h:=Zd rfl (fun g1=>?_) (fun g1=>?_))))))
 try simp only [sQ,ne_eq] at g1
 refine Zi (Zf (Zk (Zp (Za (xM (h:=xX 0 rfl Za5 rfl (ZM _ _ _ _ _ _ oz oz oz hm _ hbm) (h:=?_)))))))
 rintro _ _ ⟨r5,rfl,r5a,r5b,rfl⟩
 refine ZI (h:=Zu [_,_,_] rfl (Zd rfl (fun g2=>?_) (fun g2=>?_)))
 try simp only [sQ,ne_eq] at g2
 refine Ze (xM (h:=xM (h:=xM (h:=?_))))
 obtain ⟨y,hy⟩:=Zar (xs:=([[97,109,121],[98,111,98],[99,121,100],[100,97,110]]:List Str)) (i:=x.k) om
 obtain ⟨_,⟨rfl,hb7⟩,hc7⟩:=hr3.elem hy
 refine xIx Tryz.underlying75 sz9 (h:=y1 lk9 hc7 0 (h:=xBs [(0,_)] [_] Tryz.underlying75 sz9 zo9 (h:=fun b8=>Zo (Zbe (z:=y) (R:=Zbd) 1 rfl hv rfl rfl rfl ZoW ZoV rfl rfl (ZaZ.box 3 rfl) rfl rfl (⟨rfl,by first | assumption | omega | (simp;done) | (simp;omega)⟩) om (fun l9 p9 c9 hv9=>?_)))))
 refine xA (h:=ZA (Zf (Ze (xM (h:=xD (h:=xA (h:=?_)))))))
 exact ZC ⟨x.k+1,(x.p+1),l9,p9,c9,(x.xs ++ [y])⟩ [0,1,2] so2 ⟨rfl,so,by simp;omega,so,hv9⟩ t5 rfl
 try simp only [sQ,ne_eq] at g2
 refine Zi (ZA (Zf (Ze (xM (h:=xD (h:=xA (h:=?_)))))))
 exact ZC ⟨x.k+1,(x.p+1),x.l,x.a,x.c,x.xs⟩ [0,1,2] so2 ⟨rfl,so,so,so,hv⟩ t5 rfl
 try simp only [sQ,ne_eq] at g1
 refine Z0 (Zal (Z6 (ZK (Zf (Zk (Za (xM (h:=xV Tryz.underlying75 (h:=ZI (h:=Zd rfl (fun g3=>?_) (fun g3=>?_)))))))))))
 try simp only [sQ,ne_eq] at g3
 refine Ze (xM (h:=xM (h:=xM (h:=xX 0 rfl Za5 rfl (ZM _ _ _ _ _ _ oz oz oz hm _ hbm) (h:=?_)))))
 rintro _ _ ⟨r10,rfl,r10a,r10b,rfl⟩
 obtain ⟨z,hz⟩:=Zec (xs:=([[97,109,121],[98,111,98],[99,121,100],[100,97,110]]:List Str)) (i:=r10) om om
 obtain ⟨_,⟨rfl,hb12⟩,hc12⟩:=hr3.elem hz
 refine xIx Tryz.underlying75 sz9 (h:=y1 lk9 hc12 0 (h:=xBs [(0,_)] [_] Tryz.underlying75 sz9 zo9 (h:=fun b13=>Zo (Zbe (z:=z) (R:=Zbd) 1 rfl hv rfl rfl rfl ZoW ZoV rfl rfl (ZaZ.box 3 rfl) rfl rfl (⟨rfl,by first | assumption | omega | (simp;done) | (simp;omega)⟩) om (fun l14 p14 c14 hv14=>?_)))))
 refine xA (h:=Zf (Zk (Za (xM (h:=xX 0 rfl Za5 rfl (ZM _ _ _ _ _ _ oz oz oz hm _ hbm) (h:=?_))))))
 rintro _ _ ⟨r15,rfl,r15a,r15b,rfl⟩
 refine Zu [_,_,_,_] rfl (Zp (Za (ZI (h:=xA (h:=Zd rfl (fun g4=>?_) (fun g4=>?_))))))
 try simp only [sQ,ne_eq] at g4
 refine Ze (xM (h:=xM (h:=?_)))
 obtain ⟨w,hw⟩:=Zar (xs:=(x.xs ++ [z])) (i:=0) om
 obtain ⟨bb17,_,hp17,⟨rfl,hb17⟩,hw17,hc17⟩:=hv14.row hw
 refine xIp hp17 Tryz.underlying75 sz9 (h:=Zo (Zl rfl rfl lk9 rfl (hc17 _ 1 rfl 0 _ rfl) (xBs [(0,_)] [_] Tryz.underlying75 sz9 zo9 (h:=fun b18=>Zo (Zbe (z:=w) (R:=Zbd) 1 rfl hv14 rfl rfl rfl ZoW ZoV rfl rfl (ZaZ.box 4 rfl) rfl rfl (⟨rfl,by first | assumption | omega | (simp;done) | (simp;omega)⟩) om (fun l19 p19 c19 hv19=>?_))))))
 refine xA (h:=ZA (Zf (ZdL 1 rfl hv19 Zbd.mono om3 (fun B20 hle20 hr20=>?_))))
 replace hr3:=hr3.mono Zbd.mono hle20
 replace hbm:=hbm.mono hle20
 have hr20n:=hr20.len
 refine Za (xM (h:=xA (h:=Zu [_,_,_,_,_] rfl (Zh ?_))))
 exact Zah .ret (.inl rfl) [_] [0] rfl t1 ⟨_,_,_,_,rfl,hr20,by first | omega | (simp;done) | (simp;omega),oz,rfl⟩
 try simp only [sQ,ne_eq] at g4
 refine Za (ZI (h:=xA (h:=Zd rfl (fun g5=>?_) (fun g5=>?_))))
 try simp only [sQ,ne_eq] at g5
 refine Ze (xM (h:=Zo (Zff rfl rfl Tryz.underlying75 sz9 rfl (a:=0) (b:=0) rfl ⟨_,_,rfl,rfl⟩ oz oz ?_)))
 refine xA (h:=ZA (Zf (Za (xM (h:=xA (h:=Zh ?_))))))
 exact Zah .ret (.inl rfl) [_] [0] rfl t1 ⟨_,_,[],_,rfl,SlK.nil,Nat.zero_le _,oz,rfl⟩
 try simp only [sQ,ne_eq] at g5
 refine Za (ZI (h:=xA (h:=Zd rfl (fun g6=>?_) (fun g6=>?_))))
 try simp only [sQ,ne_eq] at g6
 refine Ze (xM (h:=xBs [(0,_),(1,_)] [_,_] Tryz.underlying75 sz9 zo9 (h:=fun b21=>Zo (Znb (rows:=(([[100,97,110],[101,118,101]]:List Str)).map fun x=>[str x]) (ys:=([[100,97,110],[101,118,101]]:List Str)) (R:=Zbd) 1 rfl hv14 rfl rfl rfl ZoW ZoV rfl rfl rfl (ZaZ.box 4 rfl) rfl Zt2 (ZtQ (by decide)) om (fun l22 p22 c22 hv22=>?_)))))
 refine xA (h:=ZA (Zf (ZdL 1 rfl hv22 Zbd.mono om3 (fun B23 hle23 hr23=>?_))))
 replace hr3:=hr3.mono Zbd.mono hle23
 replace hbm:=hbm.mono hle23
 have hr23n:=hr23.len
 refine Za (xM (h:=xA (h:=Zu [_,_,_,_,_] rfl (Zh ?_))))
 exact Zah .ret (.inl rfl) [_] [0] rfl t1 ⟨_,_,_,_,rfl,hr23,by first | omega | (simp;done) | (simp;omega),oz,rfl⟩
 try simp only [sQ,ne_eq] at g6
 refine Zi (ZA (Zf (ZdL 1 rfl hv14 Zbd.mono om3 (fun B24 hle24 hr24=>?_))))
 replace hr3:=hr3.mono Zbd.mono hle24
 replace hbm:=hbm.mono hle24
 have hr24n:=hr24.len
 refine Za (xM (h:=xA (h:=Zu [_,_,_,_] rfl (Zh ?_))))
 exact Zah .ret (.inl rfl) [_] [0] rfl t1 ⟨_,_,_,_,rfl,hr24,by first | omega | (simp;done) | (simp;omega),oz,rfl⟩
 try simp only [sQ,ne_eq] at g3
 refine Zi (Zf (Zk (Za (xM (h:=xX 0 rfl Za5 rfl (ZM _ _ _ _ _ _ oz oz oz hm _ hbm) (h:=?_))))))
 rintro _ _ ⟨r25,rfl,r25a,r25b,rfl⟩
 refine Zu [_,_,_] rfl (Zp (Za (ZI (h:=xA (h:=Zd rfl (fun g4=>?_) (fun g4=>?_))))))
 try simp only [sQ,ne_eq] at g4
 refine Ze (xM (h:=xM (h:=?_)))
 obtain ⟨w,hw⟩:=Zar (xs:=x.xs) (i:=0) om
 obtain ⟨bb27,_,hp27,⟨rfl,hb27⟩,hw27,hc27⟩:=hv.row hw
 refine xIp hp27 Tryz.underlying75 sz9 (h:=Zo (Zl rfl rfl lk9 rfl (hc27 _ 1 rfl 0 _ rfl) (xBs [(0,_)] [_] Tryz.underlying75 sz9 zo9 (h:=fun b28=>Zo (Zbe (z:=w) (R:=Zbd) 1 rfl hv rfl rfl rfl ZoW ZoV rfl rfl (ZaZ.box 3 rfl) rfl rfl (⟨rfl,by first | assumption | omega | (simp;done) | (simp;omega)⟩) om (fun l29 p29 c29 hv29=>?_))))))
 refine xA (h:=ZA (Zf (ZdL 1 rfl hv29 Zbd.mono om3 (fun B30 hle30 hr30=>?_))))
 replace hr3:=hr3.mono Zbd.mono hle30
 replace hbm:=hbm.mono hle30
 have hr30n:=hr30.len
 refine Za (xM (h:=xA (h:=Zu [_,_,_,_] rfl (Zh ?_))))
 exact Zah .ret (.inl rfl) [_] [0] rfl t1 ⟨_,_,_,_,rfl,hr30,by first | omega | (simp;done) | (simp;omega),oz,rfl⟩
 try simp only [sQ,ne_eq] at g4
 refine Za (ZI (h:=xA (h:=Zd rfl (fun g5=>?_) (fun g5=>?_))))
 try simp only [sQ,ne_eq] at g5
 refine Ze (xM (h:=Zo (Zff rfl rfl Tryz.underlying75 sz9 rfl (a:=0) (b:=0) rfl ⟨_,_,rfl,rfl⟩ oz oz ?_)))
 refine xA (h:=ZA (Zf (Za (xM (h:=xA (h:=Zh ?_))))))
 exact Zah .ret (.inl rfl) [_] [0] rfl t1 ⟨_,_,[],_,rfl,SlK.nil,Nat.zero_le _,oz,rfl⟩
 try simp only [sQ,ne_eq] at g5
 refine Za (ZI (h:=xA (h:=Zd rfl (fun g6=>?_) (fun g6=>?_))))
 try simp only [sQ,ne_eq] at g6
 refine Ze (xM (h:=xBs [(0,_),(1,_)] [_,_] Tryz.underlying75 sz9 zo9 (h:=fun b31=>Zo (Znb (rows:=(([[100,97,110],[101,118,101]]:List Str)).map fun x=>[str x]) (ys:=([[100,97,110],[101,118,101]]:List Str)) (R:=Zbd) 1 rfl hv rfl rfl rfl ZoW ZoV rfl rfl rfl (ZaZ.box 3 rfl) rfl Zt2 (ZtQ (by decide)) om (fun l32 p32 c32 hv32=>?_)))))
 refine xA (h:=ZA (Zf (ZdL 1 rfl hv32 Zbd.mono om3 (fun B33 hle33 hr33=>?_))))
 replace hr3:=hr3.mono Zbd.mono hle33
 replace hbm:=hbm.mono hle33
 have hr33n:=hr33.len
 refine Za (xM (h:=xA (h:=Zu [_,_,_,_] rfl (Zh ?_))))
 exact Zah .ret (.inl rfl) [_] [0] rfl t1 ⟨_,_,_,_,rfl,hr33,by first | omega | (simp;done) | (simp;omega),oz,rfl⟩
 try simp only [sQ,ne_eq] at g6
 refine Zi (ZA (Zf (ZdL 1 rfl hv Zbd.mono om3 (fun B34 hle34 hr34=>?_))))
 replace hr3:=hr3.mono Zbd.mono hle34
 replace hbm:=hbm.mono hle34
 have hr34n:=hr34.len
 refine Za (xM (h:=xA (h:=Zu [_,_,_] rfl (Zh ?_))))
 exact Zah .ret (.inl rfl) [_] [0] rfl t1 ⟨_,_,_,_,rfl,hr34,by first | omega | (simp;done) | (simp;omega),oz,rfl⟩

set_option maxHeartbeats 400000 in
theorem ZaA (aq:Option Addr) (cq:Nat) (q:DQueue) (B:Kn) (hq:SlK B aq cq 4 Zj q.items):ZL (pj J) 101 [.agg #[.int .i64 q.next,.slice aq q.items.length cq]] B [] (fun v B' Ls=>∃l a cp,Ls=[l]∧v = .agg #[.int .i64 q.next,.slice a q.items.length cp]∧Zaa (B'.less B) l a cp 77 4 Zj q.items):=by
 refine Zc 34 Tryz.func101 rfl rfl rfl (Nat.le_of_ble_eq_true rfl) ?_
 have hqn:=hq.len
 refine Za (xBx [_,_] (h:=fun b1=>xAl [_,_] Zi3 (h:=fun b2=>Zu [_,_] rfl (Za (xW Ze7 (h:=x1 lk3 0 (h:=xBs [] [] Tryz.underlying25 ZeG Zi2 (h:=fun b3=>xB [(0,_),(1,_)] [_,_] [_,_] ZsA Zi3 (h:=xAl [_,_] Zi3 (h:=fun b4=>xS [_,_] 3 [_,_] ZfL (h:=Zu [_,_,_,_] rfl (Zk ?_))))))))))))
 refine Za (xA (h:=Zp (ZS (α:=Gh DItem) [0,1,2,3] (fun g=>[(4,.int .i64 g.k)]) [2,3] (fun g=>[g.l,Zbn b4 [.int .i64 q.next,.slice g.a g.xs.length g.c] 27]) (fun g Bx=>g.k≤q.items.length∧g.xs=q.items.take g.k∧Zaa (Bx.less B) g.l g.a g.c 77 4 Zj g.xs) (fun g=>q.items.length - g.k) ⟨0,0,_,_,_,[]⟩ t1 rfl (⟨Nat.zero_le _,rfl,.lit0⟩) (fun g B5 hle5 hI=>?_))))
 obtain ⟨hk,hxs,hv⟩:=hI
 have hxn:=congrArg List.length hxs
 rw [List.length_take] at hxn
 replace hq:=hq.mono Zj.mono hle5
 refine ZR [(0,_),(1,_),(2,_),(3,_),(4,_)] [_,_,_,_] t5 rfl (Zk (Za (xM (h:=xW ZaM (h:=x1 ZfX 0 (h:=xV Tryz.underlying25 (h:=Zaf (h:=Zd rfl (fun g1=>?_) (fun g1=>?_)))))))))
 try simp only [sQ,ne_eq] at g1
 refine Zi (Zf (Zk (Zp (Za (xW ZaM (h:=x1 ZfX 0 (h:=xM (h:=?_))))))))
 obtain ⟨x,hx⟩:=Zar (xs:=q.items) (i:=g.k) om
 obtain ⟨bb7,oo7,rfl⟩:=hq.base hx
 obtain ⟨_,⟨qi8,ci8,rfl,hi8,hb8,hb8b⟩,hc8⟩:=hq.elem hx
 have hi8n:=hi8.len
 refine xIx Tryz.underlying25 ZeG (h:=yL [_,_,_,_] Zl5 hc8 0 (h:=xAl [_,_,_,_] Zi2 (h:=fun b9=>xS [_,_,_,_] 4 [_,_,_,_] ZeG (h:=Zu [_,_,_,_,_] rfl (Za (xBs [] [] Tryz.underlying75 sz9 zo9 (h:=fun b10=>xW ZbM (h:=x1 ZhE 4 (h:=Zo (ZaJ (R:=Zbd) 5 rfl (Zaa.lit0 (R:=Zbd)) rfl rfl rfl ZoW ZoV rfl rfl rfl hi8.rows Zbd.one rfl om (fun l11 p11 c11 hv11=>?_)))))))))))
 refine xW ZbM (h:=xS [_] 4 [_,_,_,_] Zud (h:=Zu [_,_,_,_,_,_] rfl (Zo4 5 rfl hv11 Zbd.any om3 hle5 (fun B12 hle12 hr12f=>?_))))
 have hr12:=hr12f.mono Zbd.mono Kn.less_le
 replace hq:=hq.mono Zj.mono hle12
 replace hv:=hv.mono Zj.mono (Kn.less_mono hle12)
 have hr12n:=hr12.len
 refine Ze (xW ZaM (h:=x1 ZfX 3 (h:=xL [_,_,_,_] Zl5 4 (h:=xBs [(0,_)] [_,_,_,_] Tryz.underlying25 ZeG Zi2 (h:=fun b13=>Zo (Zbe (z:=⟨x.id,x.fr,x.text,x.left⟩) (R:=Zj) 2 rfl hv rfl rfl rfl Zuy Zui rfl rfl (ZaZ.box 6 rfl) rfl rfl (⟨_,_,rfl,hr12f,by first | assumption | omega | (simp;done) | (simp;omega),by first | assumption | omega | (simp;done) | (simp;omega)⟩) om (fun l14 p14 c14 hv14=>?_)))))))
 refine xW ZaM (h:=xS [_] 3 [_,_] Zuf (h:=ZA (Zf (Ze (xM (h:=xD (h:=xA (h:=?_))))))))
 exact ZC ⟨g.k+1,0,l14,p14,c14,(g.xs ++ [⟨x.id,x.fr,x.text,x.left⟩])⟩ [0,1,2,3] so2 ⟨so,by simp only [];rw [ZaD hx,hxs],hv14⟩ t5 rfl
 try simp only [sQ,ne_eq] at g1
 have hxe:g.xs=q.items:=by rw [hxs];exact List.take_of_length_le oz
 refine Z0 (Zal (Z6 (ZK (Zf (Za (xL [_,_] Zer 3 (h:=xS [_,_] 1 [_,_] ZfL (h:=Zu [_,_,_,_] rfl (Zh ?_)))))))))
 exact Zah .ret (.inl rfl) [_] [2] rfl ⟨⟨_,rfl,.inr ⟨[_,_],Zer,Zae 1 rfl rfl rfl,rfl⟩⟩,trivial⟩ ⟨_,_,_,rfl,by rw [← hxe];rfl,hxe ▸ hv⟩

set_option maxHeartbeats 400000 in
theorem Zgj (aq:Option Addr) (cq:Nat) (q:DQueue) (qx:Option Addr) (cx:Nat) (x:DLetter) (B:Kn) (hq:SlK B aq cq 4 Zj q.items) (hx:SlK B qx cx 1 Zbd x.to_) (h1:x.fr.length≤2000000) (h2:x.text.length≤2000000):ZL (pj J) 106 [.agg #[.int .i64 q.next,.slice aq q.items.length cq],.agg #[str x.fr,.slice qx x.to_.length cx,str x.text]] B [] (fun v B' Ls=>(∃l a cp,Ls=[l]∧v = .tuple #[.agg #[.int .i64 (ZhQ q x).1.next,.slice a (ZhQ q x).1.items.length cp],.bool (ZhQ q x).2]∧Zaa (B'.less B) l a cp 77 4 Zj (ZhQ q x).1.items)):=by
 refine Zc 49 Tryz.func106 rfl rfl rfl (Nat.le_of_ble_eq_true rfl) ?_
 have hqn:=hq.len
 have hxn:=hx.len
 refine Za (xBx [_,_] (h:=fun b1=>xBx [_,_,_] (h:=fun b2=>xAl [_,_] Zi3 (h:=fun b3=>xA (h:=Zu [_,_,_] rfl (Zk (Za (xL [_,_] Zer 0 (h:=xR ZvI rfl (ZfN _ _ q _ hq) (h:=xN (h:=xM (h:=Zq (d:=10) rfl (fun g1=>?_) (fun g1=>?_)))))))))))))
 try simp only [sQ,ne_eq] at g1
 refine xP (h:=xP (h:=xP (h:=xT (h:=Zd (t:=true) rfl (fun _=>Za (xB [] [_,_] [_,_] ZsA Zi3 (h:=xS [_,_] 2 [_,_] ZfL (h:=xA (h:=Zu [_,_,_] rfl (Zh (Zs ?_))))))) (fun h=>Bool.noConfusion h)))))
 have he:=ZqP (x:=x) g1
 exact ZtD .ret (.inl rfl) [_,_] ⟨⟨_,rfl,.inr ⟨[_,_],Zer,Zae 2 rfl rfl rfl,rfl⟩⟩,rfl,trivial⟩ ⟨_,none,0,rfl,by rw [he];rfl,by rw [he];exact Zaa.nil⟩
 try simp only [sQ,ne_eq] at g1
 refine xL [_,_,_] ZmA 1 (h:=xR ZvH rfl (ZeN _ _ x _ hx oa oa) (h:=?_))
 refine xN (h:=xF (h:=Zd rfl (fun g2=>?_) (fun g2=>?_)))
 try simp only [sQ,ne_eq] at g2
 refine Za (xB [] [_,_] [_,_] ZsA Zi3 (h:=xS [_,_] 2 [_,_] ZfL (h:=xA (h:=Zu [_,_,_] rfl (Zh (Zs ?_))))))
 have he:=ZqO (q:=q) g2
 exact ZtD .ret (.inl rfl) [_,_] ⟨⟨_,rfl,.inr ⟨[_,_],Zer,Zae 2 rfl rfl rfl,rfl⟩⟩,rfl,trivial⟩ ⟨_,none,0,rfl,by rw [he];rfl,by rw [he];exact Zaa.nil⟩
 try simp only [sQ,ne_eq] at g2
 have hqb:=ZeQ g1
 refine Zi (Zf (Za (xL [_,_] Zer 0 (h:=Zo (Zai rfl rfl Zeg rfl (ZaA _ _ q _ hq) ?_)))))
 rintro _ Bk _ hlek ⟨lk,ak,ck,rfl,rfl,hvk⟩
 replace hq:=hq.mono Zj.mono hlek
 replace hx:=hx.mono Zbd.mono hlek
 replace hvk:=hvk.mono Zj.mono (Kn.less_up (Kn.le.refl _) (Kn.le.refl _))
 refine xAl [_,_] Zi3 (h:=fun b7=>xS [_,_] 4 [_,_] ZfL (h:=Zu [_,_,_,_,_] rfl (Zk (Za (xW ZaM (h:=x1 ZfX 0 (h:=xV Tryz.underlying25 (h:=Zd2 (h:=xM (h:=Zq (d:=22) rfl (fun g3=>?_) (fun g3=>?_)))))))))))
 try simp only [sQ,ne_eq] at g3
 refine xP (h:=xP (h:=xP (h:=xT (h:=Zd (t:=true) rfl (fun _=>Za (xL [_,_] Zer 4 (h:=xS [_,_] 2 [_,_] ZfL (h:=xA (h:=Zu [_,_,_,_,_] rfl (Zh (Zs ?_))))))) (fun h=>Bool.noConfusion h)))))
 have he:=ZlZ g1 g2 (.inl oz)
 exact Zah .ret (.inl rfl) [_,_] [3] rfl ⟨⟨_,rfl,.inr ⟨[_,_],Zer,Zae 2 rfl rfl rfl,rfl⟩⟩,rfl,trivial⟩ ⟨_,_,_,rfl,by rw [he];rfl,by rw [he];exact hvk⟩
 try simp only [sQ,ne_eq] at g3
 refine xW Ze7 (h:=x1 lk3 0 (h:=Zbf (h:=xF (h:=Zd rfl (fun g4=>?_) (fun g4=>?_)))))
 try simp only [sQ,ne_eq] at g4
 refine Za (xL [_,_] Zer 4 (h:=xS [_,_] 2 [_,_] ZfL (h:=xA (h:=Zu [_,_,_,_,_] rfl (Zh (Zs ?_))))))
 have he:=ZlZ g1 g2 (.inr oz)
 exact Zah .ret (.inl rfl) [_,_] [3] rfl ⟨⟨_,rfl,.inr ⟨[_,_],Zer,Zae 2 rfl rfl rfl,rfl⟩⟩,rfl,trivial⟩ ⟨_,_,_,rfl,by rw [he];rfl,by rw [he];exact hvk⟩
 try simp only [sQ,ne_eq] at g4
 refine Zi (Zf (Zk (Z9 (keeps _ [0,1,4] _) mo kr ⟨Kn.le.refl _,Zaq.refl _ _⟩ (fun _ _=>?_))))
 refine aW 0 rfl ZaM (h:=aT 1 rfl (ZD fun D B L hI=>Zl rfl rfl ZfX rfl (atL 4 (hI.2.2.2.1.trans rfl) rfl rfl) r4) (h:=aW 2 rfl Ze7 (h:=aT 3 rfl (ZD fun D B L hI=>Zl rfl rfl lk3 rfl (atL 0 (hI.2.1.trans rfl) rfl rfl) r4) (h:=aW 4 rfl ZiJ (h:=aT 5 rfl (ZD fun D B L hI=>Zl rfl rfl lk9 rfl (atL 1 (hI.2.2.1.trans rfl) rfl rfl) r4) (h:=aW 6 rfl ZmP (h:=aT 7 rfl (ZD fun D B L hI=>Zl rfl rfl lk9 rfl (atL 1 (hI.2.2.1.trans rfl) rfl rfl) r4) (h:=aW 9 rfl ZiI (h:=aT 10 rfl (ZD fun D B L hI=>Zl rfl rfl ZhE rfl (atL 1 (hI.2.2.1.trans rfl) rfl rfl) r4) (h:=Zt 8 kr rfl kr (Zw (parts:=[]) [] rfl rfl Tryz.underlying75 sz9 zo9 rfl rfl rfl rfl rfl (fun b8=>?_))))))))))))
 refine ⟨⟨Kn.le.refl _,t3⟩,(Zt 11 kr rfl kr (ZaJ (R:=Zbd) 5 rfl (Zaa.lit0 (R:=Zbd)) rfl rfl rfl ZoW ZoV rfl rfl rfl hx.rows Zbd.one rfl om (fun l9 p9 c9 hv9=>?_)))⟩
 refine ⟨⟨Kn.le.refl _,t3⟩,(ZuV 5 rfl hv9 Zbd.any om3 hlek (fun B' hle'=>⟨hle',t3⟩) (fun B10 hle10 hr10f=>?_))⟩
 have hr10:=hr10f.mono Zbd.mono Kn.less_le
 replace hq:=hq.mono Zj.mono hle10
 replace hx:=hx.mono Zbd.mono hle10
 replace hvk:=hvk.mono Zj.mono (Kn.less_mono hle10)
 have hr10n:=hr10.len
 refine aT 12 rfl (ZD fun D B L hI=>ZaL (parts:=[(0,_),(1,_),(2,_),(3,_)]) [_,_,_,_] [_,_,_,_] rfl rfl ZwI Zi2 rfl rfl rfl r4) (h:=Zt 13 kr rfl kr (Zw (parts:=[(0,_)]) [_,_,_,_] rfl rfl Tryz.underlying25 ZeG Zi2 rfl rfl rfl rfl rfl (fun b11=>?_)))
 refine ⟨⟨hle10,t3⟩,(Zt 14 kr rfl kr (Zbe (z:=⟨q.next,x.fr,x.text,x.to_⟩) (R:=Zj) 3 rfl hvk rfl rfl rfl Zuy Zui rfl rfl (ZaZ.box 6 rfl) rfl rfl (⟨_,_,rfl,hr10f,by first | assumption | omega | (simp;done) | (simp;omega),by first | assumption | omega | (simp;done) | (simp;omega)⟩) om (fun l12 p12 c12 hv12=>?_)))⟩
 refine ⟨⟨hle10,t3⟩,(aW 15 rfl ZaM (h:=ZY 16 kr rfl kr kr kr (ZN [_] 4 [_,_] rfl rfl Zuf rfl rfl rfl rfl rfl rfl rfl rfl ?_)))⟩
 refine Zf (Zu [_,_,_,_,_,_,_] rfl (Za (xW Ze7 (h:=x1 lk3 0 (h:=xD (h:=xW Ze7 (h:=xS [_] 4 [_,_] sz3 (h:=Zu [_,_,_,_,_,_,_] rfl (Za (xL [_,_] Zer 4 (h:=xS [_,_] 2 [_,_] ZfL (h:=xA (h:=?_)))))))))))))
 refine Zu [_,_,_,_,_,_,_] rfl (Zh ?_)
 have he:=ZtR g1 g2 oz oz
 exact Zah .ret (.inl rfl) [_,_] [3] rfl ⟨⟨_,rfl,.inr ⟨[_,_],Zer,Zae 2 rfl rfl rfl,rfl⟩⟩,rfl,trivial⟩ ⟨_,_,_,rfl,by rw [he];rfl,by rw [he];exact hv12⟩

set_option maxHeartbeats 400000 in
theorem Zlt (q:Option Addr) (cp:Nat) (xs:List Str) (u:Str) (B:Kn) (ha:SlK B q cp 1 Zbd xs):ZL (pj J) 165 [.slice q xs.length cp,str u] B [] (fun v B' Ls=>Ls=[]∧∃a cp,v = .slice a (without xs u).length cp∧SlK (B'.less B) a cp 1 Zbd (without xs u)):=by
 refine Zc 28 Tryz.func165 rfl rfl rfl (Nat.le_of_ble_eq_true rfl) ?_
 have han:=ha.len
 refine Za (xA (h:=Za (xBs [] [] Tryz.underlying75 sz9 zo9 (h:=fun b1=>xA (h:=Zu [_] rfl (Zk (Za (xA (h:=Zp (ZS (α:=Gh Str) [0,1,4] (fun g=>[(5,.slice g.a g.xs.length g.c),(6,.int .i64 g.k)]) [0] (fun g=>[g.l]) (fun g Bx=>Bx=B∧g.k≤xs.length∧g.xs=without (xs.take g.k) u∧g.xs.length≤g.k∧Zaa Bx g.l g.a g.c 9 1 Zbd g.xs) (fun g=>xs.length - g.k) ⟨0,0,_,_,_,[]⟩ t2 rfl (⟨rfl,Nat.zero_le _,rfl,Nat.le_refl _,.lit0⟩) (fun g B2 hle2 hI=>?_)))))))))))
 obtain ⟨rfl,hk,hxs,hgl,hv⟩:=hI
 refine ZR [(0,_),(1,_),(4,_),(5,_),(6,_)] [_] t5 rfl (Zk (Za (xM (h:=xM (h:=xV Tryz.underlying75 (h:=Zaf (h:=Zd rfl (fun g1=>?_) (fun g1=>?_))))))))
 try simp only [sQ,ne_eq] at g1
 refine Zi (Zf (Zk (Zp (Za (xM (h:=xM (h:=?_)))))))
 obtain ⟨x,hx⟩:=Zar (xs:=xs) (i:=g.k) om
 obtain ⟨bb4,oo4,rfl⟩:=ha.base hx
 obtain ⟨_,⟨rfl,hb5⟩,hc5⟩:=ha.elem hx
 refine xIx Tryz.underlying75 sz9 (h:=y1 lk9 hc5 0 (h:=xM (h:=Zjf (h:=Zd rfl (fun g2=>?_) (fun g2=>?_)))))
 try simp only [sQ,ne_eq] at g2
 refine Ze (xM (h:=xM (h:=xM (h:=xIx Tryz.underlying75 sz9 (h:=y1 lk9 hc5 0 (h:=xBs [(0,_)] [_] Tryz.underlying75 sz9 zo9 (h:=fun b6=>Zo (Zbe (z:=x) (R:=Zbd) 0 rfl hv rfl rfl rfl ZoW ZoV rfl rfl (ZaZ.box 1 rfl) rfl rfl (⟨rfl,by first | assumption | omega | (simp;done) | (simp;omega)⟩) om (fun l7 p7 c7 hv7=>?_)))))))))
 refine xA (h:=ZA (Zf (Ze (xM (h:=xD (h:=xA (h:=?_)))))))
 exact ZC ⟨g.k+1,0,l7,p7,c7,(g.xs ++ [x])⟩ [0] so2 ⟨rfl,so,by simp only [];rw [ZkL hx g2,hxs],by simp;omega,hv7⟩ t5 rfl
 try simp only [sQ,ne_eq] at g2
 refine Zi (ZA (Zf (Ze (xM (h:=xD (h:=xA (h:=?_)))))))
 exact ZC ⟨g.k+1,0,g.l,g.a,g.c,g.xs⟩ [0] so2 ⟨rfl,so,by simp only [];rw [ZkK hx g2,hxs],so,hv⟩ t5 rfl
 try simp only [sQ,ne_eq] at g1
 have hxe:g.xs=without xs u:=by rw [hxs,List.take_of_length_le oz]
 refine Z0 (Zal (Z6 (ZK (Zf (Zo4 0 rfl hv Zbd.any om3 (Kn.le.refl _) (fun B8 hle8 hr8f=>?_))))))
 have hr8:=hr8f.mono Zbd.mono Kn.less_le
 replace ha:=ha.mono Zbd.mono hle8
 have hr8n:=hr8.len
 refine Za (xM (h:=xA (h:=Zu [_] rfl (Zh ?_))))
 exact Zah .ret (.inl rfl) [_] [] rfl t1 ⟨rfl,_,_,by rw [← hxe];rfl,hxe ▸ hr8f⟩

set_option maxHeartbeats 400000 in
theorem Zlu (aq:Option Addr) (cq:Nat) (q:DQueue) (id:Int) (u:Str) (B:Kn) (hq:SlK B aq cq 4 Zj q.items):ZL (pj J) 144 [.agg #[.int .i64 q.next,.slice aq q.items.length cq],.int .i64 id,str u] B [] (fun v B' Ls=>(∃l a cp,Ls=[l]∧v = .tuple #[.agg #[.int .i64 (Zca q id u).1.next,.slice a (Zca q id u).1.items.length cp],str (Zca q id u).2.1,.bool (Zca q id u).2.2]∧Zaa (B'.less B) l a cp 77 4 Zj (Zca q id u).1.items∧(Zca q id u).2.1.length≤2000000)):=by
 refine Zc 65 Tryz.func144 rfl rfl rfl (Nat.le_of_ble_eq_true rfl) ?_
 have hqn:=hq.len
 refine Za (xBx [_,_] (h:=fun b1=>xAl [_,_] Zi3 (h:=fun b2=>xA (h:=xA (h:=Zu [_,_] rfl (Za (xW Ze7 (h:=x1 lk3 0 (h:=xBs [] [] Tryz.underlying25 ZeG Zi2 (h:=fun b3=>xB [(0,_),(1,_)] [_,_] [_,_] ZsA Zi3 (h:=xAl [_,_] Zi3 (h:=fun b4=>xS [_,_] 3 [_,_] ZfL (h:=?_)))))))))))))
 refine Zu [_,_,_,_] rfl (Za (xA (h:=Za (xA (h:=Zk (Za (xA (h:=Zp (ZS (α:=Gh2 DItem (Str × Bool)) [0,1,2,3,6,7,8,9] (fun g=>[(10,str g.e.1),(11,.bool g.e.2),(12,.int .i64 g.k)]) [2,3] (fun g=>[g.l,Zbn b4 [.int .i64 q.next,.slice g.a g.xs.length g.c] 27]) (fun g Bx=>g.k≤q.items.length∧g.e=ZfK id u (q.items.take g.k)∧g.e.1.length≤2000000∧g.xs=ZeF id u (q.items.take g.k)∧Zaa (Bx.less B) g.l g.a g.c 77 4 Zj g.xs) (fun g=>q.items.length - g.k) ⟨0,0,_,_,_,[],([],false)⟩ t3 rfl (⟨Nat.zero_le _,rfl,Nat.zero_le _,rfl,.lit0⟩) (fun g B5 hle5 hI=>?_))))))))))
 obtain ⟨hk,he,htl,hxs,hv⟩:=hI
 have hxn:g.xs.length≤g.k:=by rw [hxs];exact Nat.le_trans (Zh1 _ _ _) (by rw [List.length_take];omega)
 replace hq:=hq.mono Zj.mono hle5
 refine ZR [(0,_),(1,_),(2,_),(3,_),(6,_),(7,_),(8,_),(9,_),(10,_),(11,_),(12,_)] [_,_,_,_] t11 rfl (Zk (Za (xM (h:=xW ZaM (h:=x1 ZfX 0 (h:=xV Tryz.underlying25 (h:=Zaf (h:=Zd rfl (fun g1=>?_) (fun g1=>?_)))))))))
 try simp only [sQ,ne_eq] at g1
 refine Zi (Zf (Zk (Zp (Za (xW ZaM (h:=x1 ZfX 0 (h:=xM (h:=?_))))))))
 obtain ⟨x,hx⟩:=Zar (xs:=q.items) (i:=g.k) om
 obtain ⟨bb7,oo7,rfl⟩:=hq.base hx
 obtain ⟨_,⟨qi8,ci8,rfl,hi8,hb8,hb8b⟩,hc8⟩:=hq.elem hx
 have hi8n:=hi8.len
 refine xIx Tryz.underlying25 ZeG (h:=yL [_,_,_,_] Zl5 hc8 0 (h:=xAl [_,_,_,_] Zi2 (h:=fun b9=>xS [_,_,_,_] 4 [_,_,_,_] ZeG (h:=Zu [_,_,_,_,_] rfl (Za (xBs [] [] Tryz.underlying75 sz9 zo9 (h:=fun b10=>xW ZbM (h:=x1 ZhE 4 (h:=Zo (ZaJ (R:=Zbd) 5 rfl (Zaa.lit0 (R:=Zbd)) rfl rfl rfl ZoW ZoV rfl rfl rfl hi8.rows Zbd.one rfl om (fun l11 p11 c11 hv11=>?_)))))))))))
 refine xW ZbM (h:=xS [_] 4 [_,_,_,_] Zud (h:=Zu [_,_,_,_,_,_] rfl (Zk (Zo4 5 rfl hv11 Zbd.any om3 hle5 (fun B12 hle12 hr12f=>?_)))))
 have hr12:=hr12f.mono Zbd.mono Kn.less_le
 replace hq:=hq.mono Zj.mono hle12
 replace hv:=hv.mono Zj.mono (Kn.less_mono hle12)
 have hr12n:=hr12.len
 refine Za (xW Ze6 (h:=x1 lk3 4 (h:=xM (h:=ZI (h:=xM (h:=Zq (d:=39) rfl (fun g2=>?_) (fun g2=>?_)))))))
 try simp only [sQ,ne_eq] at g2
 refine xW ZbM (h:=x1 ZhE 4 (h:=xM (h:=xR ZuE rfl (Zny _ _ _ _ _ hr12) (h:=xT (h:=Zu [_,_,_,_,_,_] rfl (Zd rfl (fun g3=>?_) (fun g3=>?_)))))))
 try simp only [sQ,ne_eq] at g3
 have hwl:=ZhT x.left u
 refine Za (xA (h:=Za (xW Zqj (h:=x1 lk9 4 (h:=xA (h:=Ze (xW ZbM (h:=x1 ZhE 4 (h:=xM (h:=Zo (Z2 rfl rfl ZvU rfl (Zlt _ _ _ _ _ hr12) ?_)))))))))))
 intro v14 B14 hle14
 rintro ⟨a14,c14,rfl,hw14f⟩
 replace hq:=hq.mono Zj.mono hle14
 replace hr12:=hr12.mono Zbd.mono hle14
 replace hr12f:=hr12f.mono Zbd.mono (Kn.less_mono hle14)
 replace hv:=hv.mono Zj.mono (Kn.less_mono hle14)
 replace hw14f:=hw14f.mono Zbd.mono (Kn.less_up (hle5.trans hle12) (Kn.le.refl _))
 have hw14:=hw14f.mono Zbd.mono Kn.less_le
 refine xW ZbM (h:=xS [_] 4 [_,_,_,_] Zud (h:=Zf (Za (xW ZbM (h:=x1 ZhE 4 (h:=xV Tryz.underlying75 (h:=Zbf (h:=Zu [_,_,_,_,_,_] rfl (Zd rfl (fun g4=>?_) (fun g4=>?_))))))))))
 try simp only [sQ,ne_eq] at g4
 refine Ze (xW ZaM (h:=x1 ZfX 3 (h:=xL [_,_,_,_] Zl5 4 (h:=xBs [(0,_)] [_,_,_,_] Tryz.underlying25 ZeG Zi2 (h:=fun b15=>Zo (Zbe (z:=⟨x.id,x.fr,x.text,(without x.left u)⟩) (R:=Zj) 2 rfl hv rfl rfl rfl Zuy Zui rfl rfl (ZaZ.box 6 rfl) rfl rfl (⟨_,_,rfl,hw14f,by first | assumption | omega | (simp;done) | (simp;omega),by first | assumption | omega | (simp;done) | (simp;omega)⟩) om (fun l16 p16 c16 hv16=>?_)))))))
 refine xW ZaM (h:=xS [_] 3 [_,_] Zuf (h:=ZA (Zf (Ze (xM (h:=xD (h:=xA (h:=?_))))))))
 exact ZC ⟨g.k+1,0,l16,p16,c16,(g.xs ++ [⟨x.id,x.fr,x.text,(without x.left u)⟩]),(x.text,true)⟩ [0,1,2,3] so2 ⟨so,by simp only [];rw [Zk5 hx g2 g3],by simp only [];first | assumption | omega,by simp only [];rw [hxs,Zh2 hx (ZeM g2 g3) (by simpa using g4)],hv16⟩ t11 rfl
 try simp only [sQ,ne_eq] at g4
 refine Zi (ZA (Zf (Ze (xM (h:=xD (h:=xA (h:=?_)))))))
 exact ZC ⟨g.k+1,0,g.l,g.a,g.c,g.xs,(x.text,true)⟩ [0,1,2,3] so2 ⟨so,by simp only [];rw [Zk5 hx g2 g3],by simp only [];first | assumption | omega,by simp only [];rw [hxs,ZgD hx (ZeM g2 g3) (by simpa using g4)],hv⟩ t11 rfl
 try simp only [sQ,ne_eq] at g3
 refine Zi (Zf (Za (xW ZbM (h:=x1 ZhE 4 (h:=xV Tryz.underlying75 (h:=Zbf (h:=Zd rfl (fun g4=>?_) (fun g4=>?_))))))))
 try simp only [sQ,ne_eq] at g4
 refine Ze (xW ZaM (h:=x1 ZfX 3 (h:=xL [_,_,_,_] Zl5 4 (h:=xBs [(0,_)] [_,_,_,_] Tryz.underlying25 ZeG Zi2 (h:=fun b17=>Zo (Zbe (z:=⟨x.id,x.fr,x.text,x.left⟩) (R:=Zj) 2 rfl hv rfl rfl rfl Zuy Zui rfl rfl (ZaZ.box 6 rfl) rfl rfl (⟨_,_,rfl,hr12f,by first | assumption | omega | (simp;done) | (simp;omega),by first | assumption | omega | (simp;done) | (simp;omega)⟩) om (fun l18 p18 c18 hv18=>?_)))))))
 refine xW ZaM (h:=xS [_] 3 [_,_] Zuf (h:=ZA (Zf (Ze (xM (h:=xD (h:=xA (h:=?_))))))))
 exact ZC ⟨g.k+1,0,l18,p18,c18,(g.xs ++ [⟨x.id,x.fr,x.text,x.left⟩]),g.e⟩ [0,1,2,3] so2 ⟨so,by simp only [];rw [Zk3 hx g3];exact he,by simp only [];first | assumption | omega,by simp only [];rw [hxs,Zh2 hx (Zg6 g3) (by simpa using g4)],hv18⟩ t11 rfl
 try simp only [sQ,ne_eq] at g4
 refine Zi (ZA (Zf (Ze (xM (h:=xD (h:=xA (h:=?_)))))))
 exact ZC ⟨g.k+1,0,g.l,g.a,g.c,g.xs,g.e⟩ [0,1,2,3] so2 ⟨so,by simp only [];rw [Zk3 hx g3];exact he,by simp only [];first | assumption | omega,by simp only [];rw [hxs,ZgD hx (Zg6 g3) (by simpa using g4)],hv⟩ t11 rfl
 try simp only [sQ,ne_eq] at g2
 refine xP (h:=xP (h:=xP (h:=xP (h:=xF (h:=Zu [_,_,_,_,_,_] rfl (Zd (t:=false) rfl (fun h=>Bool.noConfusion h) (fun _=>Zi (Zf (Za (xW ZbM (h:=x1 ZhE 4 (h:=xV Tryz.underlying75 (h:=?_)))))))))))))
 refine Zbf (h:=Zd rfl (fun g3=>?_) (fun g3=>?_))
 try simp only [sQ,ne_eq] at g3
 refine Ze (xW ZaM (h:=x1 ZfX 3 (h:=xL [_,_,_,_] Zl5 4 (h:=xBs [(0,_)] [_,_,_,_] Tryz.underlying25 ZeG Zi2 (h:=fun b19=>Zo (Zbe (z:=⟨x.id,x.fr,x.text,x.left⟩) (R:=Zj) 2 rfl hv rfl rfl rfl Zuy Zui rfl rfl (ZaZ.box 6 rfl) rfl rfl (⟨_,_,rfl,hr12f,by first | assumption | omega | (simp;done) | (simp;omega),by first | assumption | omega | (simp;done) | (simp;omega)⟩) om (fun l20 p20 c20 hv20=>?_)))))))
 refine xW ZaM (h:=xS [_] 3 [_,_] Zuf (h:=ZA (Zf (Ze (xM (h:=xD (h:=xA (h:=?_))))))))
 exact ZC ⟨g.k+1,0,l20,p20,c20,(g.xs ++ [⟨x.id,x.fr,x.text,x.left⟩]),g.e⟩ [0,1,2,3] so2 ⟨so,by simp only [];rw [Zk4 hx g2];exact he,by simp only [];first | assumption | omega,by simp only [];rw [hxs,Zh2 hx (Zg7 g2) (by simpa using g3)],hv20⟩ t11 rfl
 try simp only [sQ,ne_eq] at g3
 refine Zi (ZA (Zf (Ze (xM (h:=xD (h:=xA (h:=?_)))))))
 exact ZC ⟨g.k+1,0,g.l,g.a,g.c,g.xs,g.e⟩ [0,1,2,3] so2 ⟨so,by simp only [];rw [Zk4 hx g2];exact he,by simp only [];first | assumption | omega,by simp only [];rw [hxs,ZgD hx (Zg7 g2) (by simpa using g3)],hv⟩ t11 rfl
 try simp only [sQ,ne_eq] at g1
 have hkl:q.items.take g.k=q.items:=List.take_of_length_le oz
 rw [hkl] at he hxs
 refine Z0 (Zal (Z6 (ZK (Zf (Za (xL [_,_] Zer 3 (h:=xM (h:=xM (h:=xS [_,_] 1 [_,_] ZfL (h:=xA (h:=xA (h:=Zu [_,_,_,_] rfl (Zh ?_)))))))))))))
 exact Zah .ret (.inl rfl) [_,_,_] [2] rfl ⟨⟨_,rfl,.inr ⟨[_,_],Zer,Zae 1 rfl rfl rfl,rfl⟩⟩,rfl,rfl,trivial⟩ ⟨_,_,_,rfl,by simp only [Zca,← he,← hxs];rfl,by simp only [Zca,← hxs];exact hv,by simp only [Zca,← he];exact htl⟩

set_option maxHeartbeats 400000 in
theorem Zjq (aq:Option Addr) (cq:Nat) (q:DQueue) (id:Int) (u:Str) (B:Kn) (hq:SlK B aq cq 4 Zj q.items):ZL (pj J) 108 [.agg #[.int .i64 q.next,.slice aq q.items.length cq],.int .i64 id,str u] B [] (fun v B' Ls=>(∃l a cp,Ls=[l]∧v = .tuple #[.agg #[.int .i64 (Zc4 q id u).1.next,.slice a (Zc4 q id u).1.items.length cp],str (Zc4 q id u).2.1,.bool (Zc4 q id u).2.2]∧Zaa (B'.less B) l a cp 77 4 Zj (Zc4 q id u).1.items∧(Zc4 q id u).2.1.length≤2000000)):=by
 refine Zc 20 Tryz.func108 rfl rfl rfl (Nat.le_of_ble_eq_true rfl) ?_
 refine Za (xBx [_,_] (h:=fun b1=>xAl [_,_] Zi3 (h:=fun b2=>xA (h:=xA (h:=Zu [_,_] rfl (Zk (Za (xL [_,_] Zer 0 (h:=xR ZvI rfl (ZfN _ _ q _ hq) (h:=xN (h:=Zd rfl (fun g1=>?_) (fun g1=>?_))))))))))))
 try simp only [sQ,ne_eq] at g1
 refine Za (xB [] [_,_] [_,_] ZsA Zi3 (h:=xS [_,_] 1 [_,_] ZfL (h:=xA (h:=xA (h:=Zu [_,_] rfl (Zh (Zs ?_)))))))
 have he:Zc4 q id u=(⟨0,[]⟩,[],false):=by simp [Zc4,g1]
 exact ZtD .ret (.inl rfl) [_,_,_] ⟨⟨_,rfl,.inr ⟨[_,_],Zer,Zae 1 rfl rfl rfl,rfl⟩⟩,rfl,rfl,trivial⟩ ⟨_,none,0,rfl,by rw [he];rfl,by rw [he];exact Zaa.nil,by rw [he];exact Nat.zero_le _⟩
 try simp only [sQ,ne_eq] at g1
 refine Zi (Zf (Za (xL [_,_] Zer 0 (h:=xM (h:=xM (h:=Zo (Zai rfl rfl ZuF rfl (Zlu _ _ q id u _ hq) ?_)))))))
 rintro _ Bk _ hlek ⟨lk,ak,ck,rfl,rfl,hvk,htk⟩
 replace hq:=hq.mono Zj.mono hlek
 replace hvk:=hvk.mono Zj.mono (Kn.less_up (Kn.le.refl _) (Kn.le.refl _))
 refine xE (h:=xE (h:=xE (h:=xS [_,_] 1 [_,_] ZfL (h:=xA (h:=xA (h:=Zu [_,_,_] rfl (Zh ?_)))))))
 have he:Zc4 q id u=Zca q id u:=by simp [Zc4,g1]
 exact Zah .ret (.inl rfl) [_,_,_] [2] rfl ⟨⟨_,rfl,.inr ⟨[_,_],Zer,Zae 1 rfl rfl rfl,rfl⟩⟩,rfl,rfl,trivial⟩ ⟨_,_,_,rfl,by rw [he];rfl,by rw [he];exact hvk,by rw [he];exact htk⟩

set_option maxHeartbeats 400000 in
theorem Zin (b:Nat) (q:Option Addr) (m cp p:Nat) (hp:p≤850000000000) (hm:m≤2000) (B:Kn) (hbm:Zac B q m):ZL (pj J) 107 [ptr ⟨b,0,none⟩] B [rd b q m cp p] (fun v B' Ls=>∃(qx:Option Addr) (cx:Nat) (x:DLetter) (p':Nat),v = .agg #[str x.fr,.slice qx x.to_.length cx,str x.text]∧SlK B' qx cx 1 Zbd x.to_∧x.fr.length≤40∧x.text.length≤40∧x.to_.length≤6∧p'≤p+20∧Ls=[rd b q m cp p']):=by
 refine Zc 19 Tryz.func107 rfl rfl rfl (Nat.le_of_ble_eq_true rfl) ?_
 refine Za (xAl [_,_,_] ZnT (h:=fun b1=>Zu [_,_] rfl (Za (xM (h:=xBs [(0,_),(1,_),(2,_)] [_,_,_] Tryz.underlying75 sz9 zo9 (h:=fun b2=>Zo (Z7 [0,2] rfl rfl rfl rfl Zl7 rfl (Zog _ _ _ _ _ _ ([[97,109,121],[98,111,98],[99,121,100]]:List Str) oz (by decide) (by decide) hm _ hbm) ?_)))))))
 rintro _ _ _ hle3 ⟨rfl,x3,hx3,rfl,rfl⟩
 replace hx3:=(show∀y∈( ([[97,109,121],[98,111,98],[99,121,100]]:List Str):List Str),y.length≤40 from by decide) _ hx3
 refine xM (h:=Zo (Z7 [0] rfl rfl rfl rfl Zv9 rfl (Zth _ _ _ _ _ oz hm _ hbm) ?_))
 rintro _ B4 _ hle4 ⟨q4,cp4,xs4,p4,rfl,ht4,htn4,hp4,rfl⟩
 replace hbm:=hbm.mono hle4
 refine xM (h:=xX 0 rfl Zqy rfl (ZeX _ _ _ _ _ oz hm _ hbm) (h:=?_))
 rintro _ _ ⟨x5,rfl,hx5,rfl⟩
 refine xB [(0,_),(1,_),(2,_)] [_,_,_] [_,_,_] Zrk ZnT (h:=xAl [_,_,_] ZnT (h:=fun b6=>xS [_,_,_] 3 [_,_,_] ZsX (h:=Zu [_,_,_,_] rfl (Zk (Za (xM (h:=xX 0 rfl Za5 rfl (ZM _ _ _ _ _ _ oz oz oz hm _ hbm) (h:=?_))))))))
 rintro _ _ ⟨r7,rfl,r7a,r7b,rfl⟩
 refine ZI (h:=Zu [_,_,_,_] rfl (Zd rfl (fun g1=>?_) (fun g1=>?_)))
 try simp only [sQ,ne_eq] at g1
 refine Ze (xM (h:=xX 0 rfl ZrX rfl (Zcw _ _ _ _ _ oz hm _ hbm) (h:=?_)))
 rintro _ _ ⟨x8,rfl,hx8,rfl⟩
 refine xW ZiJ (h:=xS [_] 3 [_,_,_] sz9 (h:=Zf (Za (xL [_,_,_] ZmA 3 (h:=xS [_,_,_] 1 [_,_,_] ZsX (h:=Zu [_,_,_,_] rfl (Zh ?_)))))))
 exact Zah .ret (.inl rfl) [_] [0] rfl ⟨⟨_,rfl,.inr ⟨[_,_,_],ZmA,Zae 1 rfl rfl rfl,rfl⟩⟩,trivial⟩ ⟨_,_,⟨x8,xs4,x5⟩,_,rfl,ht4,so2,so2,so2,oz,rfl⟩
 try simp only [sQ,ne_eq] at g1
 refine Zi (Zf (Za (xL [_,_,_] ZmA 3 (h:=xS [_,_,_] 1 [_,_,_] ZsX (h:=Zu [_,_,_,_] rfl (Zh ?_))))))
 exact Zah .ret (.inl rfl) [_] [0] rfl ⟨⟨_,rfl,.inr ⟨[_,_,_],ZmA,Zae 1 rfl rfl rfl,rfl⟩⟩,trivial⟩ ⟨_,_,⟨x3,xs4,x5⟩,_,rfl,ht4,so2,so2,so2,oz,rfl⟩

set_option maxHeartbeats 400000 in
theorem Zoq (b:Nat) (q:Option Addr) (m cp p:Nat) (hp:p≤800000000000) (hm:m≤2000) (B:Kn) (hbm:Zac B q m):ZL (pj J) 70 [ptr ⟨b,0,none⟩] B [rd b q m cp p] (fun v B' Ls=>∃(aq:Option Addr) (cq:Nat) (qq:DQueue) (p':Nat),v = .agg #[.int .i64 qq.next,.slice aq qq.items.length cq]∧SlK B' aq cq 4 Zj qq.items∧p'≤p+1000∧Ls=[rd b q m cp p']):=by
 refine Zc 84 Tryz.func70 rfl rfl rfl (Nat.le_of_ble_eq_true rfl) ?_
 refine Za (xAl [_,_] Zi3 (h:=fun b1=>Zu [_,_] rfl (Za (xM (h:=xX 0 rfl Za5 rfl (ZM _ _ _ _ _ _ oz oz oz hm _ hbm) (h:=?_))))))
 rintro _ _ ⟨ra,rfl,raa,rab,rfl⟩
 refine xD (h:=xBs [] [] Tryz.underlying25 ZeG Zi2 (h:=fun b3=>xB [(0,_),(1,_)] [_,_] [_,_] ZsA Zi3 (h:=xAl [_,_] Zi3 (h:=fun b4=>xS [_,_] 3 [_,_] ZfL (h:=Zu [_,_,_,_] rfl (Za (xM (h:=xX 0 rfl Za5 rfl (ZM _ _ _ _ _ _ oz oz oz hm _ hbm) (h:=?_)))))))))
 rintro _ _ ⟨rb,rfl,rba,rbb,rfl⟩
 refine xA (h:=Zu [_,_,_,_] rfl (Zk (Za (xA (h:=Zp (ZS (α:=GQ) [0,2,3,4] (fun g=>[(5,.int .i64 g.k)]) [0,2,3] (fun g=>[rd b q m cp g.p,g.l,Zbn b4 [.int .i64 g.q.next,.slice g.a g.q.items.length g.c] 27]) (fun g Bx=>g.k≤8∧g.p≤p+2+40*g.k∧g.q.items.length≤2000000 - 8+g.k∧Zaa Bx g.l g.a g.c 77 4 Zj g.q.items) (fun g=>8 - g.k) ⟨0,p+2,_,_,_,⟨_,[]⟩⟩ t1 rfl (⟨Nat.zero_le _,Nat.le_refl _,Nat.zero_le _,.lit0⟩) (fun g B6 hle6 hI=>?_)))))))
 obtain ⟨hk,hgp,hgn,hv⟩:=hI
 replace hbm:=hbm.mono hle6
 refine ZR [(0,_),(2,_),(3,_),(4,_),(5,_)] [_,_,_,_] t5 rfl (Zk (Za (xM (h:=xM (h:=Zaf (h:=Zd rfl (fun g1=>?_) (fun g1=>?_)))))))
 try simp only [sQ,ne_eq] at g1
 refine Zi (Zf (Zk (Zp (ZkO (α:=GM) [0,2,3,4,5,17] (fun h=>[(6,ptr ⟨h.b,0,none⟩),(7,.bool h.f)]) [0] (fun h=>[rd b q m cp h.p]) (fun h=>[Zbn h.b [.int .i64 h.q.next,.slice h.a h.q.items.length h.c] 27,h.l]) (fun h Bx=>h.p≤g.p+20∧h.q.items.length≤g.q.items.length+1∧Zaa Bx h.l h.a h.c 77 4 Zj h.q.items) ?_ (fun h B7 hle7 hF=>?_)))))
 refine Z9 (keeps _ [3] _) mo kr ⟨Kn.le.refl _,Zaq.refl _ _⟩ (fun _ _=>?_)
 refine aT 0 rfl (ZD fun D B L hI=>Z5 [_,_] rfl rfl Zer rfl (Zae 3 (hI.2.1.trans rfl) rfl rfl) r4) (h:=aM 1 rfl (h:=Zam [2,7] kr kr kr ⟨?_,?_⟩))
 refine (Z7 [0] rfl rfl rfl rfl ZuK rfl (Zin _ _ _ _ _ oz hm _ hbm) ?_)
 rintro _ Bu _ hleu ⟨qxu,cxu,xu,pu,rfl,htu,hfu,hwu,htnu,hpu,rfl⟩
 replace hv:=hv.mono Zj.mono hleu
 replace hbm:=hbm.mono hleu
 refine ⟨⟨hleu,t1⟩,(Zam [3,7] kr kr kr ⟨?_,?_⟩)⟩
 refine (Z7 [2] rfl rfl rfl rfl Zr0 rfl (ZL.borrow fun hmv=>Zgj _ _ g.q _ _ xu _ (hv.lend Zj.mono hmv om) (htu.mono Zbd.mono (Kn.le_add _ _)) (by first | assumption | omega | (simp;omega)) (by first | assumption | omega | (simp;omega))) ?_)
 rintro _ Bv _ hlev ⟨BBv,_,rfl,hBv,_,hmv,_,lv,av,cv,rfl,rfl,hvv⟩
 replace htu:=htu.mono Zbd.mono hlev
 replace hv:=hv.mono Zj.mono hlev
 replace hbm:=hbm.mono hlev
 replace hvv:=hvv.mono Zj.mono (Kn.less_minus' hmv hBv)
 refine ⟨⟨(hleu.trans hlev),t1⟩,(aM 4 rfl (h:=aE 5 rfl (h:=aE 6 rfl (h:=Zt 7 kr rfl kr (Zak (l:=[_,_]) rfl rfl Zi3 rfl (fun b10=>?_))))))⟩
 refine ⟨⟨(hleu.trans hlev),t1⟩,(Zbb 8 kr rfl kr kr (ZN [_,_] 5 [_,_] rfl rfl ZfL rfl rfl rfl rfl rfl rfl rfl rfl ?_))⟩
 refine aA 9 rfl (h:=Zz kr kr ?_)
 exact ZJ ⟨_,pu,lv,av,cv,(ZhQ g.q xu).1,_⟩ [0,1,2,3,5,4] ⟨hpu,ZhP _ _,hvv⟩ t8 rfl
 refine (Zak (l:=[_,_]) rfl rfl Zi3 rfl (fun b11=>⟨⟨hleu,t1⟩,(Zt 3 kr rfl kr (Z7 [2] rfl rfl rfl rfl Zr0 rfl (ZL.borrow fun hmv=>Zgj _ _ g.q _ _ xu _ (hv.lend Zj.mono hmv om) (htu.mono Zbd.mono (Kn.le_add _ _)) (by first | assumption | omega | (simp;omega)) (by first | assumption | omega | (simp;omega))) ?_))⟩))
 rintro _ Bv _ hlev ⟨BBv,_,rfl,hBv,_,hmv,_,lv,av,cv,rfl,rfl,hvv⟩
 replace htu:=htu.mono Zbd.mono hlev
 replace hv:=hv.mono Zj.mono hlev
 replace hbm:=hbm.mono hlev
 replace hvv:=hvv.mono Zj.mono (Kn.less_minus' hmv hBv)
 refine ⟨⟨(hleu.trans hlev),t1⟩,(aM 4 rfl (h:=aE 5 rfl (h:=aE 6 rfl (h:=Zbb 8 kr rfl kr kr (ZN [_,_] 4 [_,_] rfl rfl ZfL rfl rfl rfl rfl rfl rfl rfl rfl ?_)))))⟩
 refine aA 9 rfl (h:=Zz kr kr ?_)
 exact ZJ ⟨_,pu,lv,av,cv,(ZhQ g.q xu).1,_⟩ [0,1,2,3,4,5] ⟨hpu,ZhP _ _,hvv⟩ t8 rfl
 refine (Zak (l:=[_,_]) rfl rfl Zi3 rfl (fun b13=>⟨⟨Kn.le.refl _,t1⟩,(Zt 2 kr rfl kr (Z7 [0] rfl rfl rfl rfl ZuK rfl (Zin _ _ _ _ _ oz hm _ hbm) ?_))⟩))
 rintro _ Bu _ hleu ⟨qxu,cxu,xu,pu,rfl,htu,hfu,hwu,htnu,hpu,rfl⟩
 replace hv:=hv.mono Zj.mono hleu
 replace hbm:=hbm.mono hleu
 refine ⟨⟨hleu,t1⟩,(Zt 3 kr rfl kr (Z7 [2] rfl rfl rfl rfl Zr0 rfl (ZL.borrow fun hmv=>Zgj _ _ g.q _ _ xu _ (hv.lend Zj.mono hmv om) (htu.mono Zbd.mono (Kn.le_add _ _)) (by first | assumption | omega | (simp;omega)) (by first | assumption | omega | (simp;omega))) ?_))⟩
 rintro _ Bv _ hlev ⟨BBv,_,rfl,hBv,_,hmv,_,lv,av,cv,rfl,rfl,hvv⟩
 replace htu:=htu.mono Zbd.mono hlev
 replace hv:=hv.mono Zj.mono hlev
 replace hbm:=hbm.mono hlev
 replace hvv:=hvv.mono Zj.mono (Kn.less_minus' hmv hBv)
 refine ⟨⟨(hleu.trans hlev),t1⟩,(aM 4 rfl (h:=aE 5 rfl (h:=aE 6 rfl (h:=Zbb 8 kr rfl kr kr (ZN [_,_] 4 [_,_] rfl rfl ZfL rfl rfl rfl rfl rfl rfl rfl rfl ?_)))))⟩
 refine aA 9 rfl (h:=Zz kr kr ?_)
 exact ZJ ⟨_,pu,lv,av,cv,(ZhQ g.q xu).1,_⟩ [0,1,2,3,4,5] ⟨hpu,ZhP _ _,hvv⟩ t8 rfl
 obtain ⟨hhp,hhn,hw⟩:=hF
 replace hv:=hv.mono Zj.mono hle7
 replace hbm:=hbm.mono hle7
 refine ZR [(0,_),(2,_),(3,_),(4,_),(5,_),(6,_),(7,_),(17,_)] [_,_,_,_,_,_] t8 rfl (Zo8 (α:=GQ) [0,2,3,4,5,6,7,17] (fun o=>[]) (fun o=>[rd b q m cp o.p,Zbn b1 [.int .i64 0,.slice none 0 0] 27,o.l,Zbn b4 [.int .i64 o.q.next,.slice o.a o.q.items.length o.c] 27]) (fun o Bx=>o.p≤g.p+20∧o.q.items.length≤g.q.items.length+1∧Zaa Bx o.l o.a o.c 77 4 Zj o.q.items) ?_ (fun o B16 hle16 hF=>?_))
 refine Za (xM (h:=Zd rfl (fun g2=>?_) (fun g2=>?_)))
 try simp only [sQ,ne_eq] at g2
 refine Ze (xL [_,_] Zer 4 (h:=xS [_,_] 3 [_,_] ZfL (h:=?_)))
 exact ZJ ⟨0,h.p,h.l,h.a,h.c,h.q⟩ [0,1,5,3] ⟨hhp,hhn,hw⟩ t8 rfl
 try simp only [sQ,ne_eq] at g2
 refine Zi ?_
 exact ZJ ⟨0,h.p,g.l,g.a,g.c,g.q⟩ [0,1,2,3] ⟨hhp,so,hv⟩ t8 rfl
 clear hv
 obtain ⟨hop,hon,hv⟩:=hF
 replace hbm:=hbm.mono hle16
 refine ZR [(0,_),(2,_),(3,_),(4,_),(5,_),(6,_),(7,_),(17,_)] [_,_,_,_] t8 rfl (Za (xW ZaM (h:=x1 ZfX 3 (h:=xV Tryz.underlying25 (h:=Zbf (h:=xM (h:=Zq (d:=33) rfl (fun g3=>?_) (fun g3=>?_))))))))
 try simp only [sQ,ne_eq] at g3
 refine xM (h:=xX 0 rfl Za5 rfl (ZM _ _ _ _ _ _ oz oz oz hm _ hbm) (h:=?_))
 rintro _ _ ⟨r17,rfl,r17a,r17b,rfl⟩
 refine ZI (h:=xT (h:=Zu [_,_,_,_] rfl (Zd rfl (fun g4=>?_) (fun g4=>?_))))
 try simp only [sQ,ne_eq] at g4
 refine Z9 (keeps _ [2,3] _) mo kr ⟨Kn.le.refl _,Zaq.refl _ _⟩ (fun _ _=>?_)
 refine aT 0 rfl (ZD fun D B L hI=>Z5 [_,_] rfl rfl Zer rfl (Zae 3 (hI.2.2.1.trans rfl) rfl rfl) r4) (h:=aW 1 rfl ZaM (h:=aT 2 rfl (ZD fun D B L hI=>Zl rfl rfl ZfX rfl (atL 3 (hI.2.2.1.trans rfl) rfl rfl) r4) (h:=aM 3 rfl (h:=aW 4 rfl ZaM (h:=aT 5 rfl (ZD fun D B L hI=>Zl rfl rfl ZfX rfl (atL 3 (hI.2.2.1.trans rfl) rfl rfl) r4) (h:=aV 6 rfl Tryz.underlying25 (h:=aM 11 rfl (h:=Zam [7,12] kr kr kr ⟨?_,?_⟩))))))))
 refine (Zci 0 rfl rfl rfl Za5 rfl (ZM _ _ _ _ _ _ oz oz oz hm _ hbm) ?_)
 rintro _ _ ⟨r18,rfl,r18a,r18b,rfl⟩
 refine ⟨⟨Kn.le.refl _,t2⟩,?_⟩
 obtain ⟨z19,hz19⟩:=Zec (xs:=o.q.items) (i:=r18) om om
 obtain ⟨bb20,_,hp20,⟨qi20,ci20,rfl,hi20,hb20,hb20b⟩,hw20,hc20⟩:=hv.row hz19
 have hi20n:=hi20.len
 refine aT 8 rfl (ZD fun D B L hI=>Zga hp20 rfl rfl Tryz.underlying25 ZeG rfl rfl om om r4) (h:=?_)
 refine aW 9 rfl Ze6 (h:=aT 10 rfl (ZD fun D B L hI=>Zl rfl rfl lk3 rfl (hc20 _ 2 (hI.2.1.trans rfl) 0 _ rfl) r4) (h:=Zt 12 kr rfl kr (Zw (parts:=[(0,_),(1,_),(2,_)]) [_,_,_] rfl rfl Tryz.underlying75 sz9 zo9 rfl rfl rfl rfl rfl (fun b21=>?_))))
 refine ⟨⟨Kn.le.refl _,t2⟩,(Zt 13 kr rfl kr (Z7 [0,4] rfl rfl rfl rfl Zl7 rfl (Zog _ _ _ _ _ _ ([[97,109,121],[98,111,98],[99,121,100]]:List Str) oz (by decide) (by decide) hm _ hbm) ?_))⟩
 rintro _ _ _ hlew ⟨rfl,xw,hxw,rfl,rfl⟩
 replace hxw:=(show∀y∈( ([[97,109,121],[98,111,98],[99,121,100]]:List Str):List Str),y.length≤40 from by decide) _ hxw
 refine ⟨⟨Kn.le.refl _,t2⟩,(Zt 14 kr rfl kr (Z7 [2] rfl rfl rfl rfl ZuJ rfl (ZL.borrow fun hm23=>Zjq _ _ o.q z19.id xw _ (hv.lend Zj.mono hm23 om)) ?_))⟩
 rintro _ B23 _ hle23 ⟨BB23,_,rfl,hB23,_,hm23,_,l23,a23,c23,rfl,rfl,hv23,ht23⟩
 replace hi20:=hi20.mono Zbd.mono hle23
 replace hv:=hv.mono Zj.mono hle23
 replace hbm:=hbm.mono hle23
 replace hv23:=hv23.mono Zj.mono (Kn.less_minus' hm23 hB23)
 refine ⟨⟨hle23,t2⟩,(aM 15 rfl (h:=aE 16 rfl (h:=aE 17 rfl (h:=aE 18 rfl (h:=Zbb 19 kr rfl kr kr (ZN [_,_] 3 [_,_] rfl rfl ZfL rfl rfl rfl rfl rfl rfl rfl rfl ?_))))))⟩
 refine Zz kr kr ?_
 refine ZA (Zf (Ze (xM (h:=xD (h:=xA (h:=?_))))))
 exact ZC ⟨g.k+1,(((o.p+1)+1)+1),l23,a23,c23,((Zc4 o.q z19.id xw).1)⟩ [0,1,5,3] so2 ⟨so,so,Nat.le_trans (Zlg _ _ _) (so),hv23⟩ t5 rfl
 refine (Zw (parts:=[(0,_),(1,_),(2,_)]) [_,_,_] rfl rfl Tryz.underlying75 sz9 zo9 rfl rfl rfl rfl rfl (fun b24=>⟨⟨Kn.le.refl _,t2⟩,(Zt 7 kr rfl kr (Zci 0 rfl rfl rfl Za5 rfl (ZM _ _ _ _ _ _ oz oz oz hm _ hbm) ?_))⟩))
 rintro _ _ ⟨r25,rfl,r25a,r25b,rfl⟩
 refine ⟨⟨Kn.le.refl _,t2⟩,?_⟩
 obtain ⟨z26,hz26⟩:=Zec (xs:=o.q.items) (i:=r25) om om
 obtain ⟨bb27,_,hp27,⟨qi27,ci27,rfl,hi27,hb27,hb27b⟩,hw27,hc27⟩:=hv.row hz26
 have hi27n:=hi27.len
 refine aT 8 rfl (ZD fun D B L hI=>Zga hp27 rfl rfl Tryz.underlying25 ZeG rfl rfl om om r4) (h:=?_)
 refine aW 9 rfl Ze6 (h:=aT 10 rfl (ZD fun D B L hI=>Zl rfl rfl lk3 rfl (hc27 _ 2 (hI.2.1.trans rfl) 0 _ rfl) r4) (h:=Zt 13 kr rfl kr (Z7 [0,4] rfl rfl rfl rfl Zl7 rfl (Zog _ _ _ _ _ _ ([[97,109,121],[98,111,98],[99,121,100]]:List Str) oz (by decide) (by decide) hm _ hbm) ?_)))
 rintro _ _ _ hlew ⟨rfl,xw,hxw,rfl,rfl⟩
 replace hxw:=(show∀y∈( ([[97,109,121],[98,111,98],[99,121,100]]:List Str):List Str),y.length≤40 from by decide) _ hxw
 refine ⟨⟨Kn.le.refl _,t2⟩,(Zt 14 kr rfl kr (Z7 [2] rfl rfl rfl rfl ZuJ rfl (ZL.borrow fun hm29=>Zjq _ _ o.q z26.id xw _ (hv.lend Zj.mono hm29 om)) ?_))⟩
 rintro _ B29 _ hle29 ⟨BB29,_,rfl,hB29,_,hm29,_,l29,a29,c29,rfl,rfl,hv29,ht29⟩
 replace hi27:=hi27.mono Zbd.mono hle29
 replace hv:=hv.mono Zj.mono hle29
 replace hbm:=hbm.mono hle29
 replace hv29:=hv29.mono Zj.mono (Kn.less_minus' hm29 hB29)
 refine ⟨⟨hle29,t2⟩,(aM 15 rfl (h:=aE 16 rfl (h:=aE 17 rfl (h:=aE 18 rfl (h:=Zbb 19 kr rfl kr kr (ZN [_,_] 3 [_,_] rfl rfl ZfL rfl rfl rfl rfl rfl rfl rfl rfl ?_))))))⟩
 refine Zz kr kr ?_
 refine ZA (Zf (Ze (xM (h:=xD (h:=xA (h:=?_))))))
 exact ZC ⟨g.k+1,(((o.p+1)+1)+1),l29,a29,c29,((Zc4 o.q z26.id xw).1)⟩ [0,1,5,3] so2 ⟨so,so,Nat.le_trans (Zlg _ _ _) (so),hv29⟩ t5 rfl
 try simp only [sQ,ne_eq] at g4
 refine Zi (ZA (Zf (Ze (xM (h:=xD (h:=xA (h:=?_)))))))
 exact ZC ⟨g.k+1,(o.p+1),o.l,o.a,o.c,o.q⟩ [0,1,2,3] so2 ⟨so,so,so,hv⟩ t5 rfl
 try simp only [sQ,ne_eq] at g3
 refine xP (h:=xP (h:=xP (h:=xF (h:=Zd (t:=false) rfl (fun h=>Bool.noConfusion h) (fun _=>Zi (ZA (Zf (Ze (xM (h:=xD (h:=xA (h:=?_))))))))))))
 exact ZC ⟨g.k+1,o.p,o.l,o.a,o.c,o.q⟩ [0,1,2,3] so2 ⟨so,so,so,hv⟩ t5 rfl
 try simp only [sQ,ne_eq] at g1
 refine Z0 (Zal (Z6 (ZK (Zf (Zk (Za (xM (h:=xX 0 rfl Za5 rfl (ZM _ _ _ _ _ _ oz oz oz hm _ hbm) (h:=?_)))))))))
 rintro _ _ ⟨r30,rfl,r30a,r30b,rfl⟩
 refine Zu [_,_,_,_] rfl (Zp (Za (ZI (h:=xA (h:=Zd rfl (fun g2=>?_) (fun g2=>?_))))))
 try simp only [sQ,ne_eq] at g2
 refine Ze (xBs [(0,_),(1,_),(2,_),(3,_),(4,_)] [_,_,_,_,_] Tryz.underlying137 sz3 zo3 (h:=fun b31=>Z3 4 rfl (Zaa.ints (ls:=([0,1,99,100,101]:List Int))) Zbz.mono om3 (fun B32 hle32 hr32=>?_)))
 replace hv:=hv.mono Zj.mono hle32
 replace hbm:=hbm.mono hle32
 have hr32n:=hr32.len
 refine xM (h:=xX 0 rfl Za5 rfl (ZM _ _ _ _ _ _ oz oz oz hm _ hbm) (h:=?_))
 rintro _ _ ⟨r33,rfl,r33a,r33b,rfl⟩
 obtain ⟨z34,hz34⟩:=Zec (xs:=([0,1,99,100,101]:List Int)) (i:=r33) om om
 obtain ⟨_,rfl,hc35⟩:=hr32.elem hz34
 refine xIx Tryz.underlying137 sz3 (h:=y1 lk3 hc35 0 (h:=xW Ze7 (h:=xS [_] 3 [_,_] sz3 (h:=ZA (Zf (ZdL 2 rfl hv Zj.mono om3 (fun B36 hle36 hr36=>?_)))))))
 replace hr32:=hr32.mono Zbz.mono hle36
 replace hc35:=hc35.mono hle36
 replace hbm:=hbm.mono hle36
 have hr36n:=hr36.len
 refine Za (xL [_,_] Zer 3 (h:=xS [_,_] 1 [_,_] ZfL (h:=Zu [_,_,_,_,_] rfl (Zh ?_))))
 exact Zah .ret (.inl rfl) [_] [0] rfl ⟨⟨_,rfl,.inr ⟨[_,_],Zer,Zae 1 rfl rfl rfl,rfl⟩⟩,trivial⟩ ⟨_,_,⟨z34,g.q.items⟩,_,(ol),hr36,oz,rfl⟩
 try simp only [sQ,ne_eq] at g2
 refine Za (ZI (h:=xA (h:=Zd rfl (fun g3=>?_) (fun g3=>?_))))
 try simp only [sQ,ne_eq] at g3
 refine Za (xW ZaM (h:=x1 ZfX 3 (h:=xV Tryz.underlying25 (h:=Zbf (h:=Zd rfl (fun g4=>?_) (fun g4=>?_))))))
 try simp only [sQ,ne_eq] at g4
 refine Z9 (keeps _ [2,3] _) mo kr ⟨Kn.le.refl _,Zaq.refl _ _⟩ (fun _ _=>?_)
 refine aW 0 rfl ZaM (h:=aT 1 rfl (ZD fun D B L hI=>Zl rfl rfl ZfX rfl (atL 3 (hI.2.2.1.trans rfl) rfl rfl) r4) (h:=aM 2 rfl (h:=aW 3 rfl ZaM (h:=aT 4 rfl (ZD fun D B L hI=>Zl rfl rfl ZfX rfl (atL 3 (hI.2.2.1.trans rfl) rfl rfl) r4) (h:=aV 5 rfl Tryz.underlying25 (h:=Zam [6,7] kr kr kr ⟨?_,?_⟩))))))
 refine (Zci 0 rfl rfl rfl Za5 rfl (ZM _ _ _ _ _ _ oz oz oz hm _ hbm) ?_)
 rintro _ _ ⟨r37,rfl,r37a,r37b,rfl⟩
 refine ⟨⟨Kn.le.refl _,t2⟩,(Zt 7 kr rfl kr (Zw (parts:=[]) [] rfl rfl Tryz.underlying75 sz9 zo9 rfl rfl rfl rfl rfl (fun b38=>?_)))⟩
 refine ⟨⟨Kn.le.refl _,t2⟩,?_⟩
 obtain ⟨z39,hz39⟩:=Zec (xs:=g.q.items) (i:=r37) om om
 obtain ⟨bb40,_,hp40,⟨qi40,ci40,rfl,hi40,hb40,hb40b⟩,hw40,hc40⟩:=hv.row hz39
 have hi40n:=hi40.len
 refine aT 8 rfl (ZD fun D B L hI=>Zga hp40 rfl rfl Tryz.underlying25 ZeG rfl rfl om om r4) (h:=?_)
 refine aW 9 rfl ZbM (h:=ZY 10 kr rfl kr kr kr (ZdU (k:=(r37).toNat) (off:=3) (⟨z39.id,z39.fr,z39.text,[]⟩) [_] 2 hv hp40 hz39 rfl rfl Zud rfl rfl rfl rfl rfl rfl (by rintro _ ⟨_,_,rfl,_,e1,e2⟩;exact ⟨_,_,rfl,SlK.nil,e1,e2⟩) (fun l41 hv41=>?_)))
 refine ZA (Zf (ZdL 2 rfl hv41 Zj.mono om3 (fun B42 hle42 hr42=>?_)))
 replace hi40:=hi40.mono Zbd.mono hle42
 replace hbm:=hbm.mono hle42
 have hr42n:=hr42.len
 refine Za (xL [_,_] Zer 3 (h:=xS [_,_] 1 [_,_] ZfL (h:=Zu [_,_,_,_,_] rfl (Zh ?_))))
 exact Zah .ret (.inl rfl) [_] [0] rfl ⟨⟨_,rfl,.inr ⟨[_,_],Zer,Zae 1 rfl rfl rfl,rfl⟩⟩,trivial⟩ ⟨_,_,⟨g.q.next,(g.q.items.set ((r37).toNat) (⟨z39.id,z39.fr,z39.text,[]⟩))⟩,_,(ol),hr42,oz,rfl⟩
 refine (Zw (parts:=[]) [] rfl rfl Tryz.underlying75 sz9 zo9 rfl rfl rfl rfl rfl (fun b43=>⟨⟨Kn.le.refl _,t2⟩,(Zt 6 kr rfl kr (Zci 0 rfl rfl rfl Za5 rfl (ZM _ _ _ _ _ _ oz oz oz hm _ hbm) ?_))⟩))
 rintro _ _ ⟨r44,rfl,r44a,r44b,rfl⟩
 refine ⟨⟨Kn.le.refl _,t2⟩,?_⟩
 obtain ⟨z45,hz45⟩:=Zec (xs:=g.q.items) (i:=r44) om om
 obtain ⟨bb46,_,hp46,⟨qi46,ci46,rfl,hi46,hb46,hb46b⟩,hw46,hc46⟩:=hv.row hz45
 have hi46n:=hi46.len
 refine aT 8 rfl (ZD fun D B L hI=>Zga hp46 rfl rfl Tryz.underlying25 ZeG rfl rfl om om r4) (h:=?_)
 refine aW 9 rfl ZbM (h:=ZY 10 kr rfl kr kr kr (ZdU (k:=(r44).toNat) (off:=3) (⟨z45.id,z45.fr,z45.text,[]⟩) [_] 2 hv hp46 hz45 rfl rfl Zud rfl rfl rfl rfl rfl rfl (by rintro _ ⟨_,_,rfl,_,e1,e2⟩;exact ⟨_,_,rfl,SlK.nil,e1,e2⟩) (fun l47 hv47=>?_)))
 refine ZA (Zf (ZdL 2 rfl hv47 Zj.mono om3 (fun B48 hle48 hr48=>?_)))
 replace hi46:=hi46.mono Zbd.mono hle48
 replace hbm:=hbm.mono hle48
 have hr48n:=hr48.len
 refine Za (xL [_,_] Zer 3 (h:=xS [_,_] 1 [_,_] ZfL (h:=Zu [_,_,_,_,_] rfl (Zh ?_))))
 exact Zah .ret (.inl rfl) [_] [0] rfl ⟨⟨_,rfl,.inr ⟨[_,_],Zer,Zae 1 rfl rfl rfl,rfl⟩⟩,trivial⟩ ⟨_,_,⟨g.q.next,(g.q.items.set ((r44).toNat) (⟨z45.id,z45.fr,z45.text,[]⟩))⟩,_,(ol),hr48,oz,rfl⟩
 try simp only [sQ,ne_eq] at g4
 refine Zi (ZA (Zf (ZdL 2 rfl hv Zj.mono om3 (fun B49 hle49 hr49=>?_))))
 replace hbm:=hbm.mono hle49
 have hr49n:=hr49.len
 refine Za (xL [_,_] Zer 3 (h:=xS [_,_] 1 [_,_] ZfL (h:=Zu [_,_,_,_] rfl (Zh ?_))))
 exact Zah .ret (.inl rfl) [_] [0] rfl ⟨⟨_,rfl,.inr ⟨[_,_],Zer,Zae 1 rfl rfl rfl,rfl⟩⟩,trivial⟩ ⟨_,_,g.q,_,(ol),hr49,oz,rfl⟩
 try simp only [sQ,ne_eq] at g3
 refine Zi (ZA (Zf (ZdL 2 rfl hv Zj.mono om3 (fun B50 hle50 hr50=>?_))))
 replace hbm:=hbm.mono hle50
 have hr50n:=hr50.len
 refine Za (xL [_,_] Zer 3 (h:=xS [_,_] 1 [_,_] ZfL (h:=Zu [_,_,_,_] rfl (Zh ?_))))
 exact Zah .ret (.inl rfl) [_] [0] rfl ⟨⟨_,rfl,.inr ⟨[_,_],Zer,Zae 1 rfl rfl rfl,rfl⟩⟩,trivial⟩ ⟨_,_,g.q,_,(ol),hr50,oz,rfl⟩

set_option maxHeartbeats 400000 in
theorem Zp7 (q:Option Addr) (m cp:Nat) (B:Kn):Za6 (pj J) 198 [.slice q m cp] B (.int .i64 m):=by
 refine Zc 5 Tryz.func198 rfl rfl rfl (Nat.le_of_ble_eq_true rfl) ?_
 refine Za (xA (h:=Za (xM (h:=xV Tryz.underlying153 (h:=xA (h:=Zh ?_))))))
 exact ZW .ret (.inl rfl) [_] t1 ⟨rfl,rfl,rfl⟩

set_option maxHeartbeats 400000 in
theorem Zgt (q:Option Addr) (cp:Nat) (xs:List Int) (i j:Nat) (a b:Int) (hi:xs[i]? = some a) (hj:xs[j]? = some b) (B:Kn) (hx:SlK B q cp 1 Zbz xs):Za6 (pj J) 199 [.slice q xs.length cp,.int .i64 i,.int .i64 j] B (.bool (decide (a<b))):=by
 refine Zc 16 Tryz.func199 rfl rfl rfl (Nat.le_of_ble_eq_true rfl) ?_
 have hil:=Zcb hi
 have hjl:=Zcb hj
 refine Za (xA (h:=Zk (Z9 (same _ _) mo kr ⟨rfl,rfl⟩ (fun _ _=>?_))))
 refine aM 0 rfl (h:=aM 1 rfl (h:=?_))
 obtain ⟨z,hz⟩:=Zar (xs:=xs) (i:=i) om
 obtain ⟨bb2,oo2,rfl⟩:=hx.base hz
 obtain ⟨_,rfl,hc3⟩:=hx.elem hz
 refine aIx 2 rfl Tryz.underlying137 sz3 (h:=aT 3 rfl (Zap fun D=>Zl rfl rfl lk3 rfl (hc3 _ 0 _ rfl) r4) (h:=aM 4 rfl (h:=aM 5 rfl (h:=?_))))
 obtain ⟨w,hw⟩:=Zar (xs:=xs) (i:=j) om
 obtain ⟨_,rfl,hc5⟩:=hx.elem hw
 refine aIx 6 rfl Tryz.underlying137 sz3 (h:=?_)
 rw [hi] at hz
 cases hz
 rw [hj] at hw
 cases hw
 refine aT 7 rfl (Zap fun D=>Zl rfl rfl lk3 rfl (hc5 _ 0 _ rfl) r4) (h:=ZqR 8 rfl (h:=aA 9 rfl (h:=Zz kr kr ?_)))
 refine Zf (Zh ?_)
 exact ZW .ret (.inl rfl) [_] t1 ⟨rfl,rfl,rfl⟩

set_option maxHeartbeats 400000 in
theorem ZrJ (b:Nat) (q:Option Addr) (cp:Nat) (xs:List Int) (l:Cells) (z:Int) (hn:xs.length≤2000000) (B:Kn) (hv:Zaa B l q cp 3 1 Zbz xs):ZL (pj J) 201 [ptr ⟨b,0,none⟩,.iface 3 (.int .i64 z)] B [Zbn b [.slice q xs.length cp] 153,l] (fun v B' Ls=>B'=B∧∃q' c' l',Ls=[Zbn b [.slice q' (xs ++ [z]).length c'] 153,l']∧Zaa B l' q' c' 3 1 Zbz (xs ++ [z])):=by
 refine Zc 13 Tryz.func201 rfl rfl rfl (Nat.le_of_ble_eq_true rfl) ?_
 refine Z9 (keeps _ [0] _) mo kr ⟨Kn.le.refl _,Zaq.refl _ _⟩ (fun _ _=>?_)
 refine aM 0 rfl (h:=aM 1 rfl (h:=aNc 2 rfl (h:=aT 3 rfl (ZD fun D B L hI=>Zl rfl rfl Zfp rfl (atL 0 (hI.2.1.trans rfl) rfl rfl) r4) (h:=aM 4 rfl (h:=aT 5 rfl (ZD fun D B L hI=>ZkR rfl rfl Tryz.underlying3 rfl rfl r4) (h:=Zt 6 kr rfl kr (Zw (parts:=[(0,_)]) [_] rfl rfl Tryz.underlying137 sz3 zo3 rfl rfl rfl rfl rfl (fun b1=>?_))))))))
 refine ⟨⟨Kn.le.refl _,t1⟩,(Zt 7 kr rfl kr (Zbe (z:=z) (R:=Zbz) 1 rfl hv rfl rfl rfl ZvE Zvv rfl rfl (ZaZ.box 2 rfl) rfl rfl (rfl) om (fun l2 p2 c2 hv2=>?_)))⟩
 refine ⟨⟨Kn.le.refl _,t1⟩,(aNc 8 rfl (h:=ZY 9 kr rfl kr kr kr (ZN [_] 0 [_] rfl rfl Zug rfl rfl rfl rfl rfl rfl rfl rfl ?_)))⟩
 exact Zah .normal (.inr rfl) [] [0,1] rfl trivial ⟨rfl,_,_,_,rfl,hv2⟩

set_option maxHeartbeats 400000 in
theorem Ztr (b:Nat) (q:Option Addr) (cp:Nat) (xs:List Int) (l:Cells) (z:Int) (hz:xs[xs.length - 1]? = some z) (hn:xs.length≤2000000) (B:Kn) (hv:Zaa B l q cp 3 1 Zbz xs):ZL (pj J) 200 [ptr ⟨b,0,none⟩] B [Zbn b [.slice q xs.length cp] 153,l] (fun v B' Ls=>B'=B∧v = .iface 3 (.int .i64 z)∧Ls=[Zbn b [.slice q (xs.length - 1) cp] 153,l]∧Zaa B l q cp 3 1 Zbz (xs.take (xs.length - 1))):=by
 refine Zc 25 Tryz.func200 rfl rfl rfl (Nat.le_of_ble_eq_true rfl) ?_
 have hl1:=Zcb hz
 have hcp:=hv.cap
 have hv9:=hv.take (k:=xs.length - 1) oz
 have hs0:=hv.slice0 (sz:=1)
 refine Za (xA (h:=Za (xM (h:=xNc (h:=x1 Zfp 0 (h:=xV Tryz.underlying153 (h:=Zo (Zi6 (r:=((xs.length - 1:Nat):Int)) rfl rfl rfl rfl (by rw [show ((xs.length:Int) - 1)=((xs.length - 1:Nat):Int) from by omega];exact ZaY oz oz) ?_))))))))
 refine xA (h:=Za (xM (h:=xNc (h:=x1 Zfp 0 (h:=xM (h:=?_))))))
 obtain ⟨w,hw⟩:=Zar (xs:=xs) (i:=(xs.length - 1)) om
 obtain ⟨bb2,_,hp2,rfl,hw2,hc2⟩:=hv.row hw
 refine xIp hp2 Tryz.underlying137 sz3 (h:=?_)
 rw [hz] at hw
 cases hw
 refine Zo (Zl rfl rfl lk3 rfl (hc2 _ 1 rfl 0 _ rfl) (xA (h:=Za (xM (h:=xM (h:=xNc (h:=x1 Zfp 0 (h:=xM (h:=Zo (Zff rfl rfl Tryz.underlying137 sz3 rfl (a:=0) (b:=xs.length - 1) rfl ⟨_,_,rfl,rfl⟩ oz oz ?_))))))))))
 rw [hs0]
 refine xNc (h:=xS [_] 0 [_] Zug (h:=Zu [_,_] rfl (Za (xM (h:=Zo (Zek rfl rfl Tryz.underlying3 rfl rfl (xA (h:=Zh ?_))))))))
 exact Zah .ret (.inl rfl) [_] [0,1] rfl t1 ⟨rfl,rfl,rfl,hv9⟩

set_option maxHeartbeats 400000 in
theorem Zgs (q:Option Addr) (cp:Nat) (xs:List Int) (l:Cells) (i j:Nat) (a b:Int) (hi:xs[i]? = some a) (hj:xs[j]? = some b) (hn:xs.length≤2000000) (B:Kn) (hv:Zaa B l q cp 3 1 Zbz xs):ZL (pj J) 202 [.slice q xs.length cp,.int .i64 i,.int .i64 j] B [l] (fun v B' Ls=>B'=B∧∃l',Ls=[l']∧Zaa B l' q cp 3 1 Zbz ((xs.set i b).set j a)):=by
 refine Zc 20 Tryz.func202 rfl rfl rfl (Nat.le_of_ble_eq_true rfl) ?_
 have hil:=Zcb hi
 have hjl:=Zcb hj
 refine Z9 (keeps _ [0] _) mo kr ⟨Kn.le.refl _,Zaq.refl _ _⟩ (fun _ _=>?_)
 refine aM 0 rfl (h:=aM 1 rfl (h:=aM 2 rfl (h:=aM 3 rfl (h:=aM 4 rfl (h:=aM 5 rfl (h:=?_))))))
 obtain ⟨y,hy⟩:=Zar (xs:=xs) (i:=j) om
 obtain ⟨bb2,_,hp2,rfl,hw2,hc2⟩:=hv.row hy
 refine aT 6 rfl (ZD fun D B L hI=>Zga hp2 rfl rfl Tryz.underlying137 sz3 rfl rfl om om r4) (h:=?_)
 refine aT 7 rfl (ZD fun D B L hI=>Zl rfl rfl lk3 rfl (hc2 _ 0 (hI.2.1.trans rfl) 0 _ rfl) r4) (h:=aM 8 rfl (h:=aM 9 rfl (h:=?_)))
 obtain ⟨x,hx⟩:=Zar (xs:=xs) (i:=i) om
 obtain ⟨bb4,_,hp4,rfl,hw4,hc4⟩:=hv.row hx
 refine aT 10 rfl (ZD fun D B L hI=>Zga hp4 rfl rfl Tryz.underlying137 sz3 rfl rfl om om r4) (h:=?_)
 refine aT 11 rfl (ZD fun D B L hI=>Zl rfl rfl lk3 rfl (hc4 _ 0 (hI.2.1.trans rfl) 0 _ rfl) r4) (h:=?_)
 obtain ⟨bb5,_,hp5,rfl,hw5,hc5⟩:=hv.row hx
 refine aT 12 rfl (ZD fun D B L hI=>Zga hp5 rfl rfl Tryz.underlying137 sz3 rfl rfl om om r4) (h:=?_)
 refine Zbb 13 kr rfl kr kr (ZdU (k:=i) (off:=0) (y) [_] 0 hv hp5 hx rfl rfl sz3 rfl rfl rfl rfl rfl rfl ((fun row h=>by cases h;rfl)) (fun l6 hv6=>?_))
 obtain ⟨w,hw⟩:=Zar (xs:=(xs.set i (y))) (i:=j) om
 obtain ⟨bb8,_,hp8,rfl,hw8,hc8⟩:=hv6.row hw
 refine aT 14 rfl (ZD fun D B L hI=>Zga hp8 rfl rfl Tryz.underlying137 sz3 rfl rfl om om r4) (h:=?_)
 refine ZY 15 kr rfl kr kr kr (ZdU (k:=j) (off:=0) (x) [_] 0 hv6 hp8 hw rfl rfl sz3 rfl rfl rfl rfl rfl rfl ((fun row h=>by cases h;rfl)) (fun l9 hv9=>?_))
 rw [hi] at hx
 cases hx
 rw [hj] at hy
 cases hy
 exact Zah .normal (.inr rfl) [] [0] rfl trivial ⟨rfl,_,rfl,hv9⟩

set_option maxHeartbeats 400000 in
theorem ZrM (b:Nat) (q:Option Addr) (cp:Nat) (xs:List Int) (l:Cells) (j:Nat) (hj:j<xs.length) (hn:xs.length≤2000000) (hh:Zf5 xs j) (B:Kn) (hv:Zaa B l q cp 3 1 Zbz xs):ZL (pj J) 147 [.iface 152 (ptr ⟨b,0,none⟩),.int .i64 j] B [Zbn b [.slice q xs.length cp] 153,l] (fun v B' Ls=>B'=B∧∃ys l',Ls=[Zbn b [.slice q ys.length cp] 153,l']∧Zaa B l' q cp 3 1 Zbz ys∧ys.Perm xs∧ZdI ys):=by
 refine Zc 23 Tryz.func147 rfl rfl rfl (Nat.le_of_ble_eq_true rfl) ?_
 refine Zp (ZS (α:=Nat × List Int × Cells) [0] (fun g=>[(1,.int .i64 g.1)]) [0,1] (fun g=>[Zbn b [.slice q g.2.1.length cp] 153,g.2.2]) (fun g Bx=>Bx=B∧g.1<g.2.1.length∧g.2.1.Perm xs∧Zf5 g.2.1 g.1∧Zaa B g.2.2 q cp 3 1 Zbz g.2.1) (fun g=>g.1) (j,xs,l) t1 rfl (⟨rfl,hj,.refl _,hh,hv⟩) (fun g B1 hle1 hI=>?_))
 obtain ⟨rfl,hk,hp,hb,hv⟩:=hI
 have hpl:=hp.length_eq
 refine ZR [(0,_),(1,_)] [_,_] t2 rfl (Zp (Za (xM (h:=Zo (Zi6 rfl rfl rfl rfl (ZaY oz oz) ?_)))))
 refine Zo (ZhW (r:=(((g.1 - 1) / 2:Nat):Int)) rfl rfl rfl rfl oz (by rw [show Int.tdiv ((g.1:Int) - 1) 2=(((g.1 - 1) / 2:Nat):Int) from Zvq g.1];exact ZaY oz oz) ?_)
 refine xA (h:=Zk (Za (xM (h:=xM (h:=ZI (h:=xM (h:=Zq (d:=11) rfl (fun g1=>?_) (fun g1=>?_))))))))
 try simp only [sQ,ne_eq] at g1
 refine xP (h:=xP (h:=xP (h:=xP (h:=xP (h:=xT (h:=Zd (t:=true) rfl (fun _=>Z0 (Zal (Zfl rfl (Z6 (ZK ?_))))) (fun h=>Bool.noConfusion h)))))))
 exact Zah .normal (.inr rfl) [] [0,1] rfl trivial ⟨rfl,_,_,rfl,hv,hp,ZsU (by rw [show g.1=0 from by omega] at hb;exact hb)⟩
 try simp only [sQ,ne_eq] at g1
 refine xM (h:=xM (h:=xM (h:=Zo (ZfI 1 rfl rfl rfl Zqv rfl rfl (ZbD Zd9 Tryz.underlying152 Zfp (atL 0 rfl rfl rfl)) (Za6.borrow fun hm2=>Zgt _ _ _ _ _ _ _ (Zba oz) (Zba oz) _ (hv.lend Zbz.mono hm2 om)) ?_))))
 refine xN (h:=xF (h:=Zd rfl (fun g2=>?_) (fun g2=>?_)))
 try simp only [sQ,ne_eq] at g2
 refine Z0 (Zal (Zfl rfl (Z6 (ZK ?_))))
 exact Zah .normal (.inr rfl) [] [0,1] rfl trivial ⟨rfl,_,_,rfl,hv,hp,ZsW hb (by simpa using g2)⟩
 try simp only [sQ,ne_eq] at g2
 refine Zi (Zf (Za (xM (h:=xM (h:=xM (h:=Zo (Zg2 [1] rfl rfl rfl rfl Zqu rfl rfl (ZbD Zd8 Tryz.underlying152 Zfp (atL 0 rfl rfl rfl)) (Zgs _ _ _ _ _ _ _ _ (Zba oz) (Zba oz) oz _ hv) ?_)))))))
 rintro _ _ _ hle3 ⟨rfl,l3,rfl,hv3⟩
 refine Zu [_,_] rfl (Ze (xM (h:=xA (h:=ZA ?_))))
 rw [← Zds g.2.1 ((g.1 - 1) / 2) g.1]
 exact ZC ((g.1 - 1) / 2,(swp g.2.1 ((g.1 - 1) / 2) g.1),l3) [0,1] (so) ⟨rfl,by have:=Zds g.2.1 ((g.1 - 1) / 2) g.1;simp only [];omega,(Zgg oz oz).trans hp,ZsV oz oz hb (by simpa using g2),hv3⟩ t2 rfl

set_option maxHeartbeats 400000 in
theorem Zoz (b:Nat) (q:Option Addr) (cp:Nat) (xs:List Int) (l:Cells) (z:Int) (hn:xs.length<2000000) (hh:ZdI xs) (B:Kn) (hv:Zaa B l q cp 3 1 Zbz xs):ZL (pj J) 112 [.iface 152 (ptr ⟨b,0,none⟩),.iface 3 (.int .i64 z)] B [Zbn b [.slice q xs.length cp] 153,l] (fun v B' Ls=>B'=B∧∃q' c' ys l',Ls=[Zbn b [.slice q' ys.length c'] 153,l']∧Zaa B l' q' c' 3 1 Zbz ys∧ys.Perm (xs ++ [z])∧ZdI ys):=by
 refine Zc 12 Tryz.func112 rfl rfl rfl (Nat.le_of_ble_eq_true rfl) ?_
 refine Za (xM (h:=xM (h:=Zo (Zg2 [0,1] rfl rfl rfl rfl ZvM rfl rfl (ZlD Zom Tryz.underlying152) (ZrJ _ _ _ _ _ _ oz _ hv) ?_))))
 rintro _ _ _ hle1 ⟨rfl,q1,c1,l1,rfl,hv1⟩
 refine Zu [_,_] rfl (Ze (xM (h:=xM (h:=Zo (ZfI 1 rfl rfl rfl ZuA rfl rfl (ZbD Zll Tryz.underlying152 Zfp (atL 0 rfl rfl rfl)) (Za6.borrow fun hm2=>Zp7 _ _ _ _) (Zo (Zi6 (r:=((xs.length:Nat):Int)) rfl rfl rfl rfl ((congrArg _ (show _=((xs.length:Nat):Int) from by rw [List.length_append,List.length_singleton];omega)).trans (ZaY oz oz)) ?_)))))))
 refine Zo (Z7 [0,1] rfl rfl rfl rfl Zv6 rfl (ZrM _ _ _ _ _ _ (by simp) (by simp;omega) (Zrg hh) _ hv1) ?_)
 rintro _ _ _ hleu ⟨rfl,ysu,lu,rfl,hvu,hpu,hhu⟩
 exact Zah .normal (.inr rfl) [] [0,1] rfl trivial ⟨rfl,_,_,_,_,rfl,hvu,hpu,hhu⟩

set_option maxHeartbeats 400000 in
theorem ZoB (b:Nat) (q:Option Addr) (cp:Nat) (xs:List Int) (l:Cells) (m:Nat) (hm:m≤xs.length) (hm0:0<xs.length) (hn:xs.length≤2000000) (hh:Zfd xs m 0) (B:Kn) (hv:Zaa B l q cp 3 1 Zbz xs):ZL (pj J) 148 [.iface 152 (ptr ⟨b,0,none⟩),.int .i64 0,.int .i64 m] B [Zbn b [.slice q xs.length cp] 153,l] (fun v B' Ls=>B'=B∧∃ys l',Ls=[Zbn b [.slice q ys.length cp] 153,l']∧Zaa B l' q cp 3 1 Zbz ys∧ys.Perm xs∧Zsm ys m∧(∀k,m≤k→hat ys k=hat xs k)):=by
 refine Zc 48 Tryz.func148 rfl rfl rfl (Nat.le_of_ble_eq_true rfl) ?_
 refine Za (xA (h:=Za (xM (h:=xA (h:=Zk (Zp (ZS (α:=Nat × List Int × Cells) [0,1,2,6] (fun g=>[(7,.int .i64 g.1)]) [0,1] (fun g=>[Zbn b [.slice q g.2.1.length cp] 153,g.2.2]) (fun g Bx=>Bx=B∧g.1<g.2.1.length∧g.2.1.Perm xs∧Zfd g.2.1 m g.1∧(∀k,m≤k→hat g.2.1 k=hat xs k)∧Zaa B g.2.2 q cp 3 1 Zbz g.2.1) (fun g=>xs.length - g.1) (0,xs,l) t1 rfl (⟨rfl,hm0,.refl _,hh,fun _ _=>rfl,hv⟩) (fun g B1 hle1 hI=>?_))))))))
 obtain ⟨rfl,hk,hp,hb,hs,hv⟩:=hI
 have hpl:=hp.length_eq
 refine ZR [(0,_),(1,_),(2,_),(6,_),(7,_)] [_,_] t5 rfl (Zp (Za (xM (h:=Zo (ZkN (r:=((2*g.1:Nat):Int)) rfl rfl rfl rfl ((congrArg _ (show _=((2*g.1:Nat):Int) from by omega)).trans (ZaY oz oz)) ?_)))))
 refine Zo (ZeL (r:=((2*g.1+1:Nat):Int)) rfl rfl rfl rfl ((congrArg _ (show _=((2*g.1+1:Nat):Int) from by omega)).trans (ZaY oz oz)) ?_)
 refine xA (h:=Zk (Za (xM (h:=xM (h:=Zd2 (h:=xM (h:=Zq (d:=18) rfl (fun g1=>?_) (fun g1=>?_))))))))
 try simp only [sQ,ne_eq] at g1
 refine xP (h:=xP (h:=xT (h:=Zd (t:=true) rfl (fun _=>Z0 (Zal (Zfl rfl (Z6 (ZK (Zf (Za (xM (h:=xM (h:=Zbf (h:=xA (h:=Zh ?_)))))))))))) (fun h=>Bool.noConfusion h))))
 exact Zah .ret (.inl rfl) [_] [0,1] rfl t1 ⟨rfl,_,_,rfl,hv,hp,ZqC hb oz,hs⟩
 try simp only [sQ,ne_eq] at g1
 refine xM (h:=Zaf (h:=xF (h:=Zd rfl (fun g2=>by have:=of_decide_eq_true g2;omega) (fun g2=>?_))))
 try simp only [sQ,ne_eq] at g2
 refine Zi (Zf (Za (xM (h:=xA (h:=Zk (Za (xM (h:=Zo (ZeL (r:=((2*g.1+1+1:Nat):Int)) rfl rfl rfl rfl ((congrArg _ (show _=((2*g.1+1+1:Nat):Int) from by omega)).trans (ZaY oz oz)) ?_)))))))))
 refine xA (h:=Za (xM (h:=xM (h:=Zaf (h:=xM (h:=Zq (d:=28) rfl (fun g3=>?_) (fun g3=>?_)))))))
 try simp only [sQ,ne_eq] at g3
 refine xM (h:=xM (h:=xM (h:=Zo (ZfI 1 rfl rfl rfl Zqv rfl rfl (ZbD Zd9 Tryz.underlying152 Zfp (atL 0 rfl rfl rfl)) (Za6.borrow fun hm2=>Zgt _ _ _ _ _ _ _ (Zba oz) (Zba oz) _ (hv.lend Zbz.mono hm2 om)) ?_))))
 refine xT (h:=Zd rfl (fun g4=>?_) (fun g4=>?_))
 try simp only [sQ,ne_eq] at g4
 refine Ze (xM (h:=xA (h:=Zf (Zk (Za (xM (h:=xM (h:=xM (h:=Zo (ZfI 1 rfl rfl rfl Zqv rfl rfl (ZbD Zd9 Tryz.underlying152 Zfp (atL 0 rfl rfl rfl)) (Za6.borrow fun hm3=>Zgt _ _ _ _ _ _ _ (Zba oz) (Zba oz) _ (hv.lend Zbz.mono hm3 om)) ?_))))))))))
 refine xN (h:=Zd rfl (fun g5=>?_) (fun g5=>?_))
 try simp only [sQ,ne_eq] at g5
 refine Z0 (Zal (Zfl rfl (Z6 (ZK (Zf (Za (xM (h:=xM (h:=Zbf (h:=xA (h:=Zh ?_)))))))))))
 exact Zah .ret (.inl rfl) [_] [0,1] rfl t1 ⟨rfl,_,_,rfl,hv,hp,ZiQ hb (by intro k h0 hk he;(try simp only [decide_eq_true_eq,decide_eq_false_iff_not,Bool.not_eq_true',Bool.not_eq_false',Int.not_lt] at *);rcases (show k=2*g.1+1∨k=2*g.1+1+1 from by omega) with rfl | rfl <;> omega),hs⟩
 try simp only [sQ,ne_eq] at g5
 refine Zi (Zf (Za (xM (h:=xM (h:=xM (h:=Zo (Zg2 [1] rfl rfl rfl rfl Zqu rfl rfl (ZbD Zd8 Tryz.underlying152 Zfp (atL 0 rfl rfl rfl)) (Zgs _ _ _ _ _ _ _ _ (Zba oz) (Zba oz) oz _ hv) ?_)))))))
 rintro _ _ _ hle4 ⟨rfl,l4,rfl,hv4⟩
 refine Zu [_,_] rfl (Ze (xM (h:=xA (h:=ZA ?_))))
 rw [← Zds g.2.1 g.1 (2*g.1+1+1)]
 have h5:hat g.2.1 (2*g.1+1+1)<hat g.2.1 g.1:=by simpa using g5
 exact ZC (2*g.1+1+1,(swp g.2.1 g.1 (2*g.1+1+1)),l4) [0,1] (so) ⟨rfl,by have:=Zds g.2.1 g.1 (2*g.1+1+1);simp only [];omega,(Zgg oz oz).trans hp,ZiP oz oz oz oz hb (by intro k h0 hk he;(try simp only [decide_eq_true_eq,decide_eq_false_iff_not,Bool.not_eq_true',Bool.not_eq_false',Int.not_lt] at *);rcases (show k=2*g.1+1∨k=2*g.1+1+1 from by omega) with rfl | rfl <;> omega) h5,(fun k hk=>by rw [Ze4 oz oz,if_neg oz,if_neg oz];exact hs k hk),hv4⟩ t5 rfl
 try simp only [sQ,ne_eq] at g4
 refine Zi (Zf (Zk (Za (xM (h:=xM (h:=xM (h:=Zo (ZfI 1 rfl rfl rfl Zqv rfl rfl (ZbD Zd9 Tryz.underlying152 Zfp (atL 0 rfl rfl rfl)) (Za6.borrow fun hm5=>Zgt _ _ _ _ _ _ _ (Zba oz) (Zba oz) _ (hv.lend Zbz.mono hm5 om)) ?_))))))))
 refine xN (h:=Zd rfl (fun g5=>?_) (fun g5=>?_))
 try simp only [sQ,ne_eq] at g5
 refine Z0 (Zal (Zfl rfl (Z6 (ZK (Zf (Za (xM (h:=xM (h:=Zbf (h:=xA (h:=Zh ?_)))))))))))
 exact Zah .ret (.inl rfl) [_] [0,1] rfl t1 ⟨rfl,_,_,rfl,hv,hp,ZiQ hb (by intro k h0 hk he;(try simp only [decide_eq_true_eq,decide_eq_false_iff_not,Bool.not_eq_true',Bool.not_eq_false',Int.not_lt] at *);rcases (show k=2*g.1+1∨k=2*g.1+1+1 from by omega) with rfl | rfl <;> omega),hs⟩
 try simp only [sQ,ne_eq] at g5
 refine Zi (Zf (Za (xM (h:=xM (h:=xM (h:=Zo (Zg2 [1] rfl rfl rfl rfl Zqu rfl rfl (ZbD Zd8 Tryz.underlying152 Zfp (atL 0 rfl rfl rfl)) (Zgs _ _ _ _ _ _ _ _ (Zba oz) (Zba oz) oz _ hv) ?_)))))))
 rintro _ _ _ hle6 ⟨rfl,l6,rfl,hv6⟩
 refine Zu [_,_] rfl (Ze (xM (h:=xA (h:=ZA ?_))))
 rw [← Zds g.2.1 g.1 (2*g.1+1)]
 have h5:hat g.2.1 (2*g.1+1)<hat g.2.1 g.1:=by simpa using g5
 exact ZC (2*g.1+1,(swp g.2.1 g.1 (2*g.1+1)),l6) [0,1] (so) ⟨rfl,by have:=Zds g.2.1 g.1 (2*g.1+1);simp only [];omega,(Zgg oz oz).trans hp,ZiP oz oz oz oz hb (by intro k h0 hk he;(try simp only [decide_eq_true_eq,decide_eq_false_iff_not,Bool.not_eq_true',Bool.not_eq_false',Int.not_lt] at *);rcases (show k=2*g.1+1∨k=2*g.1+1+1 from by omega) with rfl | rfl <;> omega) h5,(fun k hk=>by rw [Ze4 oz oz,if_neg oz,if_neg oz];exact hs k hk),hv6⟩ t5 rfl
 try simp only [sQ,ne_eq] at g3
 refine xP (h:=xP (h:=xP (h:=xP (h:=xF (h:=Zd (t:=false) rfl (fun h=>Bool.noConfusion h) (fun _=>Zi (Zf (Zk (Za (xM (h:=xM (h:=xM (h:=?_)))))))))))))
 refine Zo (ZfI 1 rfl rfl rfl Zqv rfl rfl (ZbD Zd9 Tryz.underlying152 Zfp (atL 0 rfl rfl rfl)) (Za6.borrow fun hm7=>Zgt _ _ _ _ _ _ _ (Zba oz) (Zba oz) _ (hv.lend Zbz.mono hm7 om)) ?_)
 refine xN (h:=Zd rfl (fun g5=>?_) (fun g5=>?_))
 try simp only [sQ,ne_eq] at g5
 refine Z0 (Zal (Zfl rfl (Z6 (ZK (Zf (Za (xM (h:=xM (h:=Zbf (h:=xA (h:=Zh ?_)))))))))))
 exact Zah .ret (.inl rfl) [_] [0,1] rfl t1 ⟨rfl,_,_,rfl,hv,hp,ZiQ hb (by intro k h0 hk he;(try simp only [decide_eq_true_eq,decide_eq_false_iff_not,Bool.not_eq_true',Bool.not_eq_false',Int.not_lt] at *);rcases (show k=2*g.1+1∨k=2*g.1+1+1 from by omega) with rfl | rfl <;> omega),hs⟩
 try simp only [sQ,ne_eq] at g5
 refine Zi (Zf (Za (xM (h:=xM (h:=xM (h:=Zo (Zg2 [1] rfl rfl rfl rfl Zqu rfl rfl (ZbD Zd8 Tryz.underlying152 Zfp (atL 0 rfl rfl rfl)) (Zgs _ _ _ _ _ _ _ _ (Zba oz) (Zba oz) oz _ hv) ?_)))))))
 rintro _ _ _ hle8 ⟨rfl,l8,rfl,hv8⟩
 refine Zu [_,_] rfl (Ze (xM (h:=xA (h:=ZA ?_))))
 rw [← Zds g.2.1 g.1 (2*g.1+1)]
 have h5:hat g.2.1 (2*g.1+1)<hat g.2.1 g.1:=by simpa using g5
 exact ZC (2*g.1+1,(swp g.2.1 g.1 (2*g.1+1)),l8) [0,1] (so) ⟨rfl,by have:=Zds g.2.1 g.1 (2*g.1+1);simp only [];omega,(Zgg oz oz).trans hp,ZiP oz oz oz oz hb (by intro k h0 hk he;(try simp only [decide_eq_true_eq,decide_eq_false_iff_not,Bool.not_eq_true',Bool.not_eq_false',Int.not_lt] at *);rcases (show k=2*g.1+1∨k=2*g.1+1+1 from by omega) with rfl | rfl <;> omega) h5,(fun k hk=>by rw [Ze4 oz oz,if_neg oz,if_neg oz];exact hs k hk),hv8⟩ t5 rfl

set_option maxHeartbeats 400000 in
theorem Zp8 (b:Nat) (q:Option Addr) (cp:Nat) (xs:List Int) (l:Cells) (hm0:0<xs.length) (hn:xs.length≤2000000) (hh:ZdI xs) (B:Kn) (hv:Zaa B l q cp 3 1 Zbz xs):ZL (pj J) 113 [.iface 152 (ptr ⟨b,0,none⟩)] B [Zbn b [.slice q xs.length cp] 153,l] (fun v B' Ls=>B'=B∧v = .iface 3 (.int .i64 (hat xs 0))∧∃ys l',Ls=[Zbn b [.slice q ys.length cp] 153,l']∧Zaa B l' q cp 3 1 Zbz ys∧(hat xs 0 :: ys).Perm xs∧ZdI ys):=by
 refine Zc 15 Tryz.func113 rfl rfl rfl (Nat.le_of_ble_eq_true rfl) ?_
 refine Za (xA (h:=Za (xM (h:=Zo (ZfI 1 rfl rfl rfl ZuA rfl rfl (ZbD Zll Tryz.underlying152 Zfp (atL 0 rfl rfl rfl)) (Za6.borrow fun hm1=>Zp7 _ _ _ _) (Zo (Zi6 (r:=((xs.length - 1:Nat):Int)) rfl rfl rfl rfl ((congrArg _ (show _=((xs.length - 1:Nat):Int) from by omega)).trans (ZaY oz oz)) ?_)))))))
 refine xA (h:=Za (xM (h:=xM (h:=Zo (Zg2 [1] rfl rfl rfl rfl Zqu rfl rfl (ZbD Zd8 Tryz.underlying152 Zfp (atL 0 rfl rfl rfl)) (Zgs _ _ _ _ _ _ _ _ (Zba oz) (Zba oz) oz _ hv) ?_)))))
 rintro _ _ _ hles ⟨rfl,ls,rfl,hvs⟩
 refine Zu [_,_] rfl ?_
 obtain ⟨zs,hzs,hzl⟩ :∃zs,zs=swp xs 0 (xs.length - 1)∧zs.length=xs.length:=⟨_,rfl,Zds _ _ _⟩
 have hzz:=hvs
 change Zaa _ _ _ _ _ _ _ (swp xs 0 (xs.length - 1)) at hzz
 rw [← hzs] at hzz
 have hdb:Zfd zs (zs.length - 1) 0:=by rw [hzl,hzs];exact Zs2 hh hm0
 have hlz:hat zs (zs.length - 1)=hat xs 0:=by rw [hzl,hzs];exact Zq8 hm0
 have hpz:zs.Perm xs:=hzs ▸ Zgg hm0 oz
 rw [← hzl]
 refine Za (xM (h:=xM (h:=Zo (Z7 [0,1] rfl rfl rfl rfl Zv5 rfl (ZoB _ _ _ _ _ _ oz oz oz hdb _ hzz) ?_))))
 rintro _ _ _ hled ⟨rfl,ysd,ld,rfl,hvd,hpd,hhd,hsd⟩
 refine Zu [_,_] rfl ?_
 have hdl:=hpd.length_eq
 refine Za (xM (h:=Zo (Zg2 [0,1] rfl rfl rfl rfl ZvN rfl rfl (ZlD ZpT Tryz.underlying152) (Ztr _ _ _ _ _ _ (Zba oz) oz _ hvd) ?_)))
 rintro _ _ _ hleo ⟨rfl,rfl,rfl,hvo⟩
 refine xA (h:=Zu [_,_] rfl (Zh ?_))
 have hz9:hat ysd (ysd.length - 1)=hat xs 0:=by rw [hsd _ oz,hdl];exact hlz
 exact Zah .ret (.inl rfl) [_] [0,1] rfl t1 ⟨rfl,by rw [hz9];rfl,_,_,by rw [show (ysd.take (ysd.length - 1)).length=ysd.length - 1 from by simp],hvo,Zrj oz (hpd.trans hpz) hz9,ZoA (by rw [hdl];exact hhd) oz⟩

set_option maxHeartbeats 400000 in
theorem ZmI (q:Option Addr) (cp:Nat) (xs:List DItem) (last:Int) (B:Kn) (ha:SlK B q cp 4 Zj xs):Za6 (pj J) 74 [.slice q xs.length cp,.int .i64 last] B (.bool (asc 0 last (xs.map (·.id)))):=by
 refine Zc 53 Tryz.func74 rfl rfl rfl (Nat.le_of_ble_eq_true rfl) ?_
 have hxn:=ha.len
 refine Za (xA (h:=Za (xBs [] [] Tryz.underlying137 sz3 zo3 (h:=fun b1=>xBx [_] (h:=fun b2=>xA (h:=Zu [_,_] rfl (Zk (Za (xM (h:=xV Tryz.underlying25 (h:=xM (h:=Zp ?_))))))))))))
 refine ZS (α:=Gh Int) [0,1,4,5,14,15] (fun g=>[(16,.int .i64 g.k)]) [0,1] (fun g=>[g.l,Zbn b2 [.slice g.a g.xs.length g.c] 153]) (fun g Bx=>Bx=B∧g.k≤xs.length∧g.xs.Perm ((xs.take g.k).map (·.id))∧ZdI g.xs∧Zaa Bx g.l g.a g.c 3 1 Zbz g.xs) (fun g=>xs.length - g.k) ⟨0,0,_,_,_,[]⟩ t1 rfl (⟨rfl,Nat.zero_le _,.refl _,ZrK,.lit0⟩) (fun g B3 hle3 hI=>?_)
 obtain ⟨rfl,hk,hp,hh,hv⟩:=hI
 have hpl:=hp.length_eq
 rw [List.length_map,List.length_take] at hpl
 refine ZR [(0,_),(1,_),(4,_),(5,_),(14,_),(15,_),(16,_)] [_,_] t7 rfl (Za (Zaf (h:=Zk (Zd rfl (fun g1=>?_) (fun g1=>?_)))))
 try simp only [sQ,ne_eq] at g1
 refine Zi (Zf (Zk (Zp (Za ?_))))
 obtain ⟨x,hx⟩:=Zar (xs:=xs) (i:=g.k) om
 obtain ⟨bb5,oo5,rfl⟩:=ha.base hx
 obtain ⟨_,⟨qi6,ci6,rfl,hi6,hb6,hb6b⟩,hc6⟩:=ha.elem hx
 have hi6n:=hi6.len
 refine xIx Tryz.underlying25 ZeG (h:=yL [_,_,_,_] Zl5 hc6 0 (h:=xAl [_,_,_,_] Zi2 (h:=fun b7=>xS [_,_,_,_] 2 [_,_,_,_] ZeG (h:=Zu [_,_,_] rfl (Ze (xM (h:=Zo (Zek rfl rfl Tryz.underlying152 rfl rfl (xW Ze6 (h:=x1 lk3 2 (h:=Zo (Zek rfl rfl Tryz.underlying3 rfl rfl (Zo (Z7 [1,0] rfl rfl rfl rfl Zwi rfl (Zoz _ _ _ _ _ _ oz hh _ hv) ?_))))))))))))))
 rintro _ _ _ hlep ⟨rfl,qp,cp,ysp,lp,rfl,hvp,hpp,hhp⟩
 refine ZA (Zf (Ze (xD (h:=xM (h:=?_)))))
 exact ZC ⟨g.k+1,0,lp,_,_,ysp⟩ [0,1] so2 ⟨rfl,so,by simp only [];rw [ZaD hx,List.map_append];exact hpp.trans (hp.append_right _),hhp,hvp⟩ t7 rfl
 try simp only [sQ,ne_eq] at g1
 have hxe:xs.take g.k=xs:=List.take_of_length_le oz
 rw [hxe] at hp
 refine Z0 (Zal (Z6 (ZK (Zf (Za (xA (h:=Zk (Za (xM (h:=xV Tryz.underlying25 (h:=xM (h:=Zp (ZS (α:=Gh2 Int Int) [0,1,5,14,15,16,17,27,28] (fun h=>[(8,.int .i64 h.e),(29,.int .i64 h.k)]) [0,1] (fun h=>[h.l,Zbn b2 [.slice h.a h.xs.length h.c] 153]) (fun h Bx=>Bx=B3∧h.k≤xs.length∧h.xs.Perm ((xs.drop h.k).map (·.id))∧ZdI h.xs∧asc 0 last (xs.map (·.id))=asc h.e last ((xs.drop h.k).map (·.id))∧Zaa Bx h.l h.a h.c 3 1 Zbz h.xs) (fun h=>xs.length - h.k) ⟨0,0,g.l,g.a,g.c,g.xs,0⟩ t2 rfl (⟨rfl,Nat.zero_le _,hp,hh,rfl,hv⟩) (fun h B9 hle9 hI=>?_))))))))))))))
 clear hv hp hpl hh
 obtain ⟨rfl,hk,hp,hh,hs,hv⟩:=hI
 have hpl:=hp.length_eq
 rw [List.length_map,List.length_drop] at hpl
 refine ZR [(0,_),(1,_),(5,_),(8,_),(14,_),(15,_),(16,_),(17,_),(27,_),(28,_),(29,_)] [_,_] t11 rfl (Za (Zaf (h:=Zk (Zd rfl (fun g2=>?_) (fun g2=>?_)))))
 try simp only [sQ,ne_eq] at g2
 refine Zi (Zf (Zk (Zp (Za ?_))))
 obtain ⟨x,hx⟩:=Zar (xs:=xs) (i:=h.k) om
 obtain ⟨bb11,oo11,rfl⟩:=ha.base hx
 obtain ⟨_,⟨qi12,ci12,rfl,hi12,hb12,hb12b⟩,hc12⟩:=ha.elem hx
 have hi12n:=hi12.len
 refine xIx Tryz.underlying25 ZeG (h:=?_)
 rw [ZkC hx,List.map_cons] at hp hs
 refine yL [_,_,_,_] Zl5 hc12 0 (h:=xAl [_,_,_,_] Zi2 (h:=fun b13=>xS [_,_,_,_] 2 [_,_,_,_] ZeG (h:=Zu [_,_,_] rfl (Za (xM (h:=Zo (Zek rfl rfl Tryz.underlying152 rfl rfl (Zo (Z7 [1,0] rfl rfl rfl rfl Zwh rfl (Zp8 _ _ _ _ _ oz oz hh _ hv) ?_)))))))))
 rintro _ _ _ hleo ⟨rfl,rfl,yso,lo,rfl,hvo,hpo,hho⟩
 refine Zo (ZkR rfl rfl Tryz.underlying3 rfl rfl (xA (h:=Zu [_,_,_] rfl (Zk (Za (xM (h:=xW Ze6 (h:=x1 lk3 2 (h:=Zdq (h:=xM (h:=Zq (d:=41) rfl (fun g3=>?_) (fun g3=>?_))))))))))))
 try simp only [sQ,ne_eq] at g3
 refine xP (h:=xP (h:=xP (h:=xT (h:=xM (h:=xP (h:=xP (h:=xP (h:=xT (h:=Zd (t:=true) rfl (fun _=>Za (xA (h:=Zh (Zs (ZO (Zs (Zad (ZO (Zs ?_))))))))) (fun h=>Bool.noConfusion h))))))))))
 exact ZW .ret (.inl rfl) [_] t1 ⟨Zm (by rw [hs];exact Zsc hp hh (by simpa using g3)),rfl,rfl⟩
 try simp only [sQ,ne_eq] at g3
 refine xM (h:=xM (h:=ZcF (h:=xF (h:=xM (h:=Zq (d:=46) rfl (fun g4=>?_) (fun g4=>?_))))))
 try simp only [sQ,ne_eq] at g4
 refine xP (h:=xP (h:=xP (h:=xT (h:=Zd (t:=true) rfl (fun _=>Za (xA (h:=Zh (Zs (ZO (Zs (Zad (ZO (Zs ?_))))))))) (fun h=>Bool.noConfusion h)))))
 exact ZW .ret (.inl rfl) [_] t1 ⟨Zm (by rw [hs];exact Zsb (by rw [← g3];simpa using g4)),rfl,rfl⟩
 try simp only [sQ,ne_eq] at g4
 refine xM (h:=xM (h:=Zbf (h:=xF (h:=Zd rfl (fun g5=>?_) (fun g5=>?_)))))
 try simp only [sQ,ne_eq] at g5
 refine Za (xA (h:=Zh (Zs (ZO (Zs (Zad (ZO (Zs ?_))))))))
 exact ZW .ret (.inl rfl) [_] t1 ⟨Zm (by rw [hs];exact Zsa (by rw [← g3];simpa using g5)),rfl,rfl⟩
 try simp only [sQ,ne_eq] at g5
 refine Zi (Zf (Ze (xM (h:=xA (h:=ZA (Zf (Ze (xD (h:=xM (h:=?_))))))))))
 exact ZC ⟨h.k+1,0,lo,_,_,yso,hat h.xs 0⟩ [0,1] so2 ⟨rfl,so,List.Perm.cons_inv ((show (x.id :: yso).Perm (hat h.xs 0 :: yso) from by rw [g3]).trans (hpo.trans hp)),hho,by simp only [];rw [hs,g3];exact ZuR (by rw [← g3];simpa using g4) (by rw [← g3];simpa using g5),hvo⟩ t11 rfl
 try simp only [sQ,ne_eq] at g2
 rw [ZqA oz,List.map_nil,asc] at hs
 refine Z0 (Zal (Z6 (ZK (Zf (Za (xA (h:=Zh ?_)))))))
 exact ZW .ret (.inl rfl) [_] t1 ⟨Zm hs.symm,rfl,rfl⟩

end Go.Proofs.YtkiiodddgcdekaaGreat
