/-
  WHAT THE FUNCTIONS THAT THE LAWS REACH COMPUTE: each function's contract, proved off its printed body (the text is written by program). No condition beyond those that each theorem states.
-/
import Derived.Test.YtnfoidafdcgdbaaGreatDoorRows
import Derived.Test.YtnfoidafdcgdbaaGreatDoorL0
import Derived.KernelRfl
namespace Go.Proofs.YtnfoidafdcgdbaaGreatDoor
open Go Go.BL
set_option linter.unusedVariables false
set_option linter.unusedSimpArgs false
noncomputable abbrev pj (J : JoinT) : PJ := ⟨Tryz.prog, J⟩
noncomputable abbrev wgL : Go.Conc.Lib.WgLink := { add := 63, done := 65, wait := 69, relMerge := 104, disable := 105, enable := 106, inBubble := 107, associate := 108, fatal := 109, uOr := 110, uAdd := 111, raceRead := 112, uLoad := 113, uStore := 114, disassociate := 115, semrelease := 116, acquire := 119, isAssociated := 120, uCas := 121, raceWrite := 122, semacquire := 123, orU64 := 149, addU64 := 150, loadU64 := 151, storeU64 := 152, casU64 := 156, tWg := 120, tUP := 166, tAssoc := 167, tAU := 117, tU64 := 115, tUint := 171, tU32 := 118, tNoCopy := 112, tANoCopy := 113, tAlign64 := 114, tWgP := 164, tPU32 := 172, tPAU := 219, tPU64 := 221 }
theorem ZlI : Go.Conc.Lib.WgLib Tryz.prog wgL :=
  ⟨Tryz.func63, Tryz.func65, Tryz.func69, Tryz.func104, Tryz.func105, Tryz.func106, Tryz.func107, Tryz.func108, Tryz.func109, Tryz.func110, Tryz.func111, Tryz.func112, Tryz.func113, Tryz.func114, Tryz.func115, Tryz.func116, Tryz.func119, Tryz.func120, Tryz.func121, Tryz.func122, Tryz.func123, Tryz.func149, Tryz.func150, Tryz.func151, Tryz.func152, Tryz.func156, Tryz.underlying164, Tryz.runUnderlying164, Tryz.sizeOf164, Tryz.isAgg164, Tryz.zeroValue164, Tryz.underlying166, Tryz.runUnderlying166, Tryz.sizeOf166, Tryz.isAgg166, Tryz.zeroValue166, Tryz.underlying167, Tryz.runUnderlying167, Tryz.sizeOf167, Tryz.isAgg167, Tryz.zeroValue167, Tryz.underlying120, Tryz.runUnderlying120, Tryz.sizeOf120, Tryz.isAgg120, Tryz.zeroValue120, Tryz.underlying117, Tryz.runUnderlying117, Tryz.sizeOf117, Tryz.isAgg117, Tryz.zeroValue117, Tryz.underlying115, Tryz.runUnderlying115, Tryz.sizeOf115, Tryz.isAgg115, Tryz.zeroValue115, Tryz.underlying171, Tryz.runUnderlying171, Tryz.sizeOf171, Tryz.isAgg171, Tryz.zeroValue171, Tryz.underlying118, Tryz.runUnderlying118, Tryz.sizeOf118, Tryz.isAgg118, Tryz.zeroValue118, Tryz.underlying172, Tryz.runUnderlying172, Tryz.sizeOf172, Tryz.isAgg172, Tryz.zeroValue172, Tryz.underlying219, Tryz.runUnderlying219, Tryz.sizeOf219, Tryz.isAgg219, Tryz.zeroValue219, Tryz.underlying221, Tryz.runUnderlying221, Tryz.sizeOf221, Tryz.isAgg221, Tryz.zeroValue221, Tryz.underlying0, Tryz.runUnderlying0, Tryz.sizeOf0, Tryz.isAgg0, Tryz.zeroValue0, Tryz.underlying3, Tryz.runUnderlying3, Tryz.sizeOf3, Tryz.isAgg3, Tryz.zeroValue3, Tryz.underlying4, Tryz.runUnderlying4, Tryz.sizeOf4, Tryz.isAgg4, Tryz.zeroValue4, Tryz.underlying9, Tryz.runUnderlying9, Tryz.sizeOf9, Tryz.isAgg9, Tryz.zeroValue9, Tryz.underlying20, Tryz.runUnderlying20, Tryz.sizeOf20, Tryz.isAgg20, Tryz.zeroValue20, Tryz.underlying21, Tryz.runUnderlying21, Tryz.sizeOf21, Tryz.isAgg21, Tryz.zeroValue21, (by kernel_rfl), (by kernel_rfl)⟩
theorem Zjt : enters Tryz.prog 78 = true := by kernel_rfl
theorem mo : Tryz.prog.follows .mixedOrders = true := by kernel_rfl
theorem Zce : ZT Tryz.prog 102 1 = some 1 := by kernel_rfl
theorem lk3 : lk Tryz.prog 3 = some none := by kernel_rfl
theorem Zgu : ZT Tryz.prog 102 0 = some 0 := by kernel_rfl
theorem lk9 : lk Tryz.prog 9 = some none := by kernel_rfl
theorem Zvz : enters Tryz.prog 58 = true := by kernel_rfl
theorem sz3 : Zaa Tryz.prog 3 = some 1 := by kernel_rfl
theorem ZwG : enters Tryz.prog 129 = true := by kernel_rfl
theorem Zwc : enters Tryz.prog 87 = true := by kernel_rfl
theorem Zxl : enters Tryz.prog 99 = true := by kernel_rfl
theorem ZuH : Zbc Tryz.prog 102 = some [(0, 1), (1, 1)] := by kernel_rfl
theorem ZqW : ZaB Tryz.prog 102 = some (.agg #[.string ⟨#[]⟩, .int .i64 0]) := by kernel_rfl
theorem Zuz : Zaa Tryz.prog 102 = some 2 := by kernel_rfl
theorem sz5 : Zaa Tryz.prog 5 = some 1 := by kernel_rfl
theorem ZwU : Zbc Tryz.prog 63 = some [(0, 1), (1, 1)] := by kernel_rfl
theorem ZwS : ZaB Tryz.prog 63 = some (.agg #[.slice none 0 0, .int .i64 0]) := by kernel_rfl
theorem Zp8 : ZT Tryz.prog 63 1 = some 1 := by kernel_rfl
theorem ZgW : ZT Tryz.prog 63 0 = some 0 := by kernel_rfl
theorem ZsF : lk Tryz.prog 22 = some none := by kernel_rfl
theorem lk5 : lk Tryz.prog 5 = some none := by kernel_rfl
theorem Za0 : enters Tryz.prog 21 = true := by kernel_rfl
theorem sz9 : Zaa Tryz.prog 9 = some 1 := by kernel_rfl
theorem zo9 : ZaB Tryz.prog 9 = some (.string ⟨#[]⟩) := by kernel_rfl
theorem Zno : enters Tryz.prog 56 = true := by kernel_rfl
theorem ZoJ : ZcV Tryz.prog 78 9 1 16 = true := by kernel_rfl
theorem ZoH : (match Program.underlying Tryz.prog 78 with | some (.slice _) => true | _ => false) = true := by kernel_rfl
theorem Zxs : enters Tryz.prog 76 = true := by kernel_rfl
theorem ZrZ : enters Tryz.prog 77 = true := by kernel_rfl
theorem ZeY : Zaa Tryz.prog 76 = some 3 := by kernel_rfl
theorem Zc2 : ZT Tryz.prog 76 0 = some 0 := by kernel_rfl
theorem Zu5 : enters Tryz.prog 158 = true := by kernel_rfl
theorem Zih : ZT Tryz.prog 108 0 = some 0 := by kernel_rfl
theorem Zig : ZT Tryz.prog 108 1 = some 1 := by kernel_rfl
theorem Zhc : lk Tryz.prog 78 = some none := by kernel_rfl
theorem ZwI : enters Tryz.prog 126 = true := by kernel_rfl
theorem Zmu : ZT Tryz.prog 108 2 = some 2 := by kernel_rfl
theorem Zwn : enters Tryz.prog 165 = true := by kernel_rfl
theorem ZsH : enters Tryz.prog 46 = true := by kernel_rfl
theorem Zwv : enters Tryz.prog 145 = true := by kernel_rfl
theorem ZwP : enters Tryz.prog 100 = true := by kernel_rfl
theorem ZaI : ZT Tryz.prog 27 1 = some 1 := by kernel_rfl
theorem Zfz : lk Tryz.prog 25 = some none := by kernel_rfl
theorem Zer : Zaa Tryz.prog 80 = some 4 := by kernel_rfl
theorem ZlF : lk Tryz.prog 80 = some (some 4) := by kernel_rfl
theorem ZiD : ZaB Tryz.prog 80 = some (.agg #[.int .i64 0, .string ⟨#[]⟩, .string ⟨#[]⟩, .slice none 0 0]) := by kernel_rfl
theorem ZeM : ZT Tryz.prog 80 0 = some 0 := by kernel_rfl
theorem Zni : ZT Tryz.prog 80 1 = some 1 := by kernel_rfl
theorem ZbG : ZT Tryz.prog 80 3 = some 3 := by kernel_rfl
theorem Zp6 : ZT Tryz.prog 80 2 = some 2 := by kernel_rfl
theorem Zri : Zbc Tryz.prog 108 = some [(0, 1), (1, 1), (2, 1)] := by kernel_rfl
theorem Znz : ZaB Tryz.prog 108 = some (.agg #[.string ⟨#[]⟩, .slice none 0 0, .string ⟨#[]⟩]) := by kernel_rfl
theorem Zwd : enters Tryz.prog 79 = true := by kernel_rfl
theorem ZeN : ZT Tryz.prog 27 0 = some 0 := by kernel_rfl
theorem ZwF : enters Tryz.prog 134 = true := by kernel_rfl
theorem ZiF : ZaB Tryz.prog 27 = some (.agg #[.int .i64 0, .slice none 0 0]) := by kernel_rfl
theorem Zs7 : Zbc Tryz.prog 27 = some [(0, 1), (1, 1)] := by kernel_rfl
theorem ZfI : Zaa Tryz.prog 27 = some 2 := by kernel_rfl
theorem Zuu : Zaa Tryz.prog 78 = some 1 := by kernel_rfl
theorem Zu1 : ZcV Tryz.prog 25 80 4 64 = true := by kernel_rfl
theorem ZuA : (match Program.underlying Tryz.prog 25 with | some (.slice _) => true | _ => false) = true := by kernel_rfl
theorem Zux : Zaa Tryz.prog 25 = some 1 := by kernel_rfl
theorem Zee : lk Tryz.prog 27 = some (some 2) := by kernel_rfl
theorem Zwe : enters Tryz.prog 38 = true := by kernel_rfl
theorem Zmd : lk Tryz.prog 108 = some (some 3) := by kernel_rfl
theorem Zjs : enters Tryz.prog 88 = true := by kernel_rfl
theorem Zxg : Zbc Tryz.prog 80 = some [(0, 1), (1, 1), (2, 1), (3, 1)] := by kernel_rfl
theorem Zwo : enters Tryz.prog 159 = true := by kernel_rfl
theorem Zu6 : enters Tryz.prog 136 = true := by kernel_rfl
theorem ZwE : enters Tryz.prog 135 = true := by kernel_rfl
theorem Zu3 : enters Tryz.prog 92 = true := by kernel_rfl
theorem ZsY : Zaa Tryz.prog 108 = some 3 := by kernel_rfl
theorem Zr0 : enters Tryz.prog 25 = true := by kernel_rfl
theorem ZwY : enters Tryz.prog 95 = true := by kernel_rfl
theorem Zvu : enters Tryz.prog 94 = true := by kernel_rfl
theorem ZwX : enters Tryz.prog 96 = true := by kernel_rfl
theorem zo3 : ZaB Tryz.prog 3 = some (.int .i64 0) := by kernel_rfl
theorem Ze6 : lk Tryz.prog 161 = some none := by kernel_rfl
theorem Zv9 : ZcV Tryz.prog 161 3 1 8 = true := by kernel_rfl
theorem ZvX : (match Program.underlying Tryz.prog 161 with | some (.slice _) => true | _ => false) = true := by kernel_rfl
theorem Zuy : Zaa Tryz.prog 161 = some 1 := by kernel_rfl
theorem Zd0 : ZjO Tryz.prog 160 "Less" 189 false = true := by kernel_rfl
theorem Zqm : enters Tryz.prog 189 = true := by kernel_rfl
theorem ZdZ : ZjO Tryz.prog 160 "Swap" 192 false = true := by kernel_rfl
theorem Zql : enters Tryz.prog 192 = true := by kernel_rfl
theorem Zn4 : ZjO Tryz.prog 160 "Push" 191 true = true := by kernel_rfl
theorem Zwh : enters Tryz.prog 191 = true := by kernel_rfl
theorem ZkS : ZjO Tryz.prog 160 "Len" 188 false = true := by kernel_rfl
theorem Zu4 : enters Tryz.prog 188 = true := by kernel_rfl
theorem Zwu : enters Tryz.prog 146 = true := by kernel_rfl
theorem Zwt : enters Tryz.prog 147 = true := by kernel_rfl
theorem ZpB : ZjO Tryz.prog 160 "Pop" 190 true = true := by kernel_rfl
theorem Zwi : enters Tryz.prog 190 = true := by kernel_rfl
theorem ZwO : enters Tryz.prog 101 = true := by kernel_rfl
theorem ZwN : enters Tryz.prog 102 = true := by kernel_rfl
theorem ZxC : enters Tryz.prog 60 = true := by kernel_rfl
theorem ZxB : enters Tryz.prog 61 = true := by kernel_rfl
theorem ZeO : ZT Tryz.prog 150 0 = some 0 := by kernel_rfl
theorem ZfB : ZT Tryz.prog 150 1 = some 1 := by kernel_rfl
theorem Zqo : enters Tryz.prog 132 = true := by kernel_rfl
theorem Zif : ZT Tryz.prog 150 2 = some 2 := by kernel_rfl
theorem Zwq : enters Tryz.prog 155 = true := by kernel_rfl
theorem ZaU : ZT Tryz.prog 56 1 = some 1 := by kernel_rfl
theorem ZfJ : lk Tryz.prog 54 = some none := by kernel_rfl
theorem ZcW : Zaa Tryz.prog 150 = some 3 := by kernel_rfl
theorem Zn5 : lk Tryz.prog 150 = some (some 3) := by kernel_rfl
theorem ZwH : enters Tryz.prog 127 = true := by kernel_rfl
theorem Zcz : ZT Tryz.prog 56 0 = some 0 := by kernel_rfl
theorem Zgf : ZaB Tryz.prog 150 = some (.agg #[.int .i64 0, .int .i64 0, .string ⟨#[]⟩]) := by kernel_rfl
theorem ZwL : enters Tryz.prog 118 = true := by kernel_rfl
theorem ZbN : lk Tryz.prog 56 = some (some 2) := by kernel_rfl
theorem Zw0 : enters Tryz.prog 68 = true := by kernel_rfl
theorem Zp7 : ZT Tryz.prog 76 1 = some 1 := by kernel_rfl
theorem Zie : ZT Tryz.prog 76 2 = some 2 := by kernel_rfl
theorem ZoI : lk Tryz.prog 76 = some (some 3) := by kernel_rfl
theorem Zge : ZaB Tryz.prog 76 = some (.agg #[.string ⟨#[]⟩, .string ⟨#[]⟩, .int .i64 0]) := by kernel_rfl
theorem ZxD : enters Tryz.prog 59 = true := by kernel_rfl
theorem Zw7 : enters Tryz.prog 27 = true := by kernel_rfl
theorem Zrh : Zbc Tryz.prog 76 = some [(0, 1), (1, 1), (2, 1)] := by kernel_rfl
theorem Zws : enters Tryz.prog 153 = true := by kernel_rfl
theorem Zwr : enters Tryz.prog 154 = true := by kernel_rfl
theorem Zcn : ZT Tryz.prog 29 1 = some 1 := by kernel_rfl
theorem ZjQ : lk Tryz.prog 23 = some none := by kernel_rfl
theorem Zu9 : enters Tryz.prog 117 = true := by kernel_rfl
theorem Z0 : ZT Tryz.prog 29 2 = some 2 := by kernel_rfl
theorem Zcy : lk Tryz.prog 24 = some none := by kernel_rfl
theorem Zbj : Zaa Tryz.prog 58 = some 5 := by kernel_rfl
theorem ZcU : ZT Tryz.prog 58 0 = some 0 := by kernel_rfl
theorem Zfb : ZT Tryz.prog 58 1 = some 1 := by kernel_rfl
theorem ZgQ : lk Tryz.prog 58 = some (some 5) := by kernel_rfl
theorem Zxv : enters Tryz.prog 72 = true := by kernel_rfl
theorem Zxu : enters Tryz.prog 73 = true := by kernel_rfl
theorem ZcA : ZT Tryz.prog 29 3 = some 3 := by kernel_rfl
theorem Zvy : enters Tryz.prog 66 = true := by kernel_rfl
theorem ZbL : Zaa Tryz.prog 139 = some 2 := by kernel_rfl
theorem ZcH : ZT Tryz.prog 139 0 = some 0 := by kernel_rfl
theorem Zgt : ZT Tryz.prog 139 1 = some 1 := by kernel_rfl
theorem ZsI : enters Tryz.prog 41 = true := by kernel_rfl
theorem Zcm : ZT Tryz.prog 58 3 = some 3 := by kernel_rfl
theorem Zxr : enters Tryz.prog 83 = true := by kernel_rfl
theorem Zdx : ZaB Tryz.prog 58 = some (.agg #[.string ⟨#[]⟩, .string ⟨#[]⟩, .slice none 0 0, .int .i64 0, .slice none 0 0]) := by kernel_rfl
theorem ZdI : ZT Tryz.prog 58 2 = some 2 := by kernel_rfl
theorem Zrt : lk Tryz.prog 53 = some none := by kernel_rfl
theorem Zvx : enters Tryz.prog 80 = true := by kernel_rfl
theorem Zvw : enters Tryz.prog 81 = true := by kernel_rfl
theorem ZwZ : enters Tryz.prog 82 = true := by kernel_rfl
theorem Znj : ZT Tryz.prog 29 0 = some 0 := by kernel_rfl
theorem ZxQ : enters Tryz.prog 36 = true := by kernel_rfl
theorem ZxP : enters Tryz.prog 37 = true := by kernel_rfl
theorem Z2 : lk Tryz.prog 29 = some (some 5) := by kernel_rfl
theorem ZxO : enters Tryz.prog 39 = true := by kernel_rfl
theorem ZsJ : enters Tryz.prog 18 = true := by kernel_rfl
theorem Zw5 : enters Tryz.prog 40 = true := by kernel_rfl
theorem Zw4 : enters Tryz.prog 42 = true := by kernel_rfl
theorem Zru : lk Tryz.prog 139 = some (some 2) := by kernel_rfl
theorem Zdy : ZaB Tryz.prog 139 = some (.agg #[.string ⟨#[]⟩, .int .i64 0]) := by kernel_rfl
theorem Zxo : enters Tryz.prog 86 = true := by kernel_rfl
theorem Zw2 : enters Tryz.prog 45 = true := by kernel_rfl
theorem ZuT : Extern.findNext Tryz.f148 = none := by kernel_rfl
theorem ZuU : Extern.find Tryz.f148 = some Extern.BytealgCompare.compare := by kernel_rfl
theorem ZwM : enters Tryz.prog 103 = true := by kernel_rfl
theorem Zw1 : enters Tryz.prog 62 = true := by kernel_rfl
theorem Zwp : enters Tryz.prog 157 = true := by kernel_rfl
theorem ZwJ : enters Tryz.prog 125 = true := by kernel_rfl
theorem Zwf : enters Tryz.prog 33 = true := by kernel_rfl
theorem Zxw : enters Tryz.prog 71 = true := by kernel_rfl
theorem sz4 : Zaa Tryz.prog 4 = some 1 := by kernel_rfl
theorem lk4 : lk Tryz.prog 4 = some none := by kernel_rfl
theorem ZwK : enters Tryz.prog 124 = true := by kernel_rfl
theorem ZxE : enters Tryz.prog 57 = true := by kernel_rfl
theorem ZuM : lk Tryz.prog 110 = some none := by kernel_rfl
theorem Zv3 : lk Tryz.prog 71 = some none := by kernel_rfl
theorem Zxz : enters Tryz.prog 67 = true := by kernel_rfl
theorem ZvH : ZaB Tryz.prog 120 = some (.agg #[.int .u64 0, .int .u32 0]) := by kernel_rfl
theorem Zwa : ZcV Tryz.prog 110 4 1 1 = true := by kernel_rfl
theorem zo4 : ZaB Tryz.prog 4 = some (.bool false) := by kernel_rfl
theorem ZvI : ZaB Tryz.prog 110 = some (.slice none 0 0) := by kernel_rfl
theorem ZvW : Zaa Tryz.prog 110 = some 1 := by kernel_rfl
theorem ZxA : enters Tryz.prog 63 = true := by kernel_rfl
theorem Zxy : enters Tryz.prog 69 = true := by kernel_rfl
theorem Zxx : enters Tryz.prog 70 = true := by kernel_rfl
theorem ZxW : enters Tryz.prog 26 = true := by kernel_rfl
theorem ZxV : enters Tryz.prog 28 = true := by kernel_rfl
theorem ZxU : enters Tryz.prog 29 = true := by kernel_rfl
theorem ZxT : enters Tryz.prog 30 = true := by kernel_rfl
theorem ZxS : enters Tryz.prog 31 = true := by kernel_rfl
theorem ZxR : enters Tryz.prog 32 = true := by kernel_rfl
theorem Zot : ZcV Tryz.prog 23 76 3 40 = true := by kernel_rfl
theorem ZnE : (match Program.underlying Tryz.prog 23 with | some (.slice _) => true | _ => false) = true := by kernel_rfl
theorem ZeW : ZaB Tryz.prog 56 = some (.agg #[.int .i64 0, .slice none 0 0]) := by kernel_rfl
theorem Zvt : ZcV Tryz.prog 54 150 3 32 = true := by kernel_rfl
theorem Zvr : (match Program.underlying Tryz.prog 54 with | some (.slice _) => true | _ => false) = true := by kernel_rfl
theorem Zm3 : Zbc Tryz.prog 56 = some [(0, 1), (1, 1)] := by kernel_rfl
theorem ZcC : Zaa Tryz.prog 56 = some 2 := by kernel_rfl
theorem Zqk : ZcV Tryz.prog 53 139 2 24 = true := by kernel_rfl
theorem Zpa : (match Program.underlying Tryz.prog 53 with | some (.slice _) => true | _ => false) = true := by kernel_rfl
theorem Zuv : Zaa Tryz.prog 53 = some 1 := by kernel_rfl
theorem Zxp : enters Tryz.prog 85 = true := by kernel_rfl
theorem Zxa : enters Tryz.prog 13 = true := by kernel_rfl
theorem ZuG : Zbc Tryz.prog 58 = some [(0, 1), (1, 1), (2, 1), (3, 2)] := by kernel_rfl
theorem ZxN : enters Tryz.prog 44 = true := by kernel_rfl
theorem Zba : ZaB Tryz.prog 29 = some (.agg #[.string ⟨#[]⟩, .slice none 0 0, .slice none 0 0, .int .i64 0, .slice none 0 0]) := by kernel_rfl
theorem ZdV : Zbc Tryz.prog 29 = some [(0, 1), (1, 1), (2, 1), (3, 2)] := by kernel_rfl
theorem Zaw : Zaa Tryz.prog 29 = some 5 := by kernel_rfl
theorem ZiO : ZcV Tryz.prog 24 58 5 88 = true := by kernel_rfl
theorem ZiI : (match Program.underlying Tryz.prog 24 with | some (.slice _) => true | _ => false) = true := by kernel_rfl
theorem ZqU : Zaa Tryz.prog 24 = some 1 := by kernel_rfl
theorem Zqn : enters Tryz.prog 16 = true := by kernel_rfl
theorem ZtS : enters Tryz.prog 128 = true := by kernel_rfl
theorem Zxq : enters Tryz.prog 84 = true := by kernel_rfl
theorem Zw3 : enters Tryz.prog 43 = true := by kernel_rfl
theorem ZvV : Zaa Tryz.prog 54 = some 1 := by kernel_rfl
theorem ZtR : enters Tryz.prog 130 = true := by kernel_rfl
theorem Zxn : enters Tryz.prog 89 = true := by kernel_rfl
theorem ZvZ : Zbc Tryz.prog 150 = some [(0, 1), (1, 1), (2, 1)] := by kernel_rfl
theorem Znp : enters Tryz.prog 47 = true := by kernel_rfl
theorem Zu7 : enters Tryz.prog 133 = true := by kernel_rfl
theorem Zt7 : enters Tryz.prog 17 = true := by kernel_rfl
theorem Zr1 : enters Tryz.prog 160 = true := by kernel_rfl
theorem Zu8 : enters Tryz.prog 131 = true := by kernel_rfl
theorem Zs8 : Zbc Tryz.prog 139 = some [(0, 1), (1, 1)] := by kernel_rfl
theorem Zwb : enters Tryz.prog 90 = true := by kernel_rfl
theorem ZtM : enters Tryz.prog 169 = true := by kernel_rfl
theorem Zwm : enters Tryz.prog 166 = true := by kernel_rfl
theorem Zwl : enters Tryz.prog 167 = true := by kernel_rfl
theorem Zu2 : ZcV Tryz.prog 142 3 1 8 = true := by kernel_rfl
theorem ZuB : (match Program.underlying Tryz.prog 142 with | some (.slice _) => true | _ => false) = true := by kernel_rfl
theorem Zo8 : Zaa Tryz.prog 199 = some 2 := by kernel_rfl
theorem Zqa : ZT Tryz.prog 199 0 = some 0 := by kernel_rfl
theorem Zp9 : ZT Tryz.prog 199 1 = some 1 := by kernel_rfl
theorem ZtQ : enters Tryz.prog 161 = true := by kernel_rfl
theorem Zwj : enters Tryz.prog 170 = true := by kernel_rfl
theorem ZuS : ZT Tryz.prog 31 1 = some 1 := by kernel_rfl
theorem ZuR : ZT Tryz.prog 31 2 = some 2 := by kernel_rfl
theorem Zfc : ZT Tryz.prog 31 0 = some 0 := by kernel_rfl
theorem Zwk : enters Tryz.prog 168 = true := by kernel_rfl
theorem Zgo : lk Tryz.prog 31 = some (some 3) := by kernel_rfl
theorem ZtP : enters Tryz.prog 162 = true := by kernel_rfl
theorem ZtN : enters Tryz.prog 164 = true := by kernel_rfl
theorem ZtO : enters Tryz.prog 163 = true := by kernel_rfl
theorem ZrY : enters Tryz.prog 93 = true := by kernel_rfl
theorem Zid : ZT Tryz.prog 98 1 = some 1 := by kernel_rfl
theorem Znh : ZT Tryz.prog 98 2 = some 2 := by kernel_rfl
theorem Zle : ZT Tryz.prog 98 3 = some 3 := by kernel_rfl
theorem Zs6 : Zbc Tryz.prog 31 = some [(0, 1), (1, 1), (2, 1)] := by kernel_rfl
theorem Zkg : ZaB Tryz.prog 31 = some (.agg #[.string ⟨#[]⟩, .string ⟨#[]⟩, .string ⟨#[]⟩]) := by kernel_rfl
theorem ZlR : Zaa Tryz.prog 31 = some 3 := by kernel_rfl
theorem Zcl : ZT Tryz.prog 98 6 = some 6 := by kernel_rfl
theorem ZvY : Zbc Tryz.prog 199 = some [(0, 1), (1, 1)] := by kernel_rfl
theorem Zt8 : ZaB Tryz.prog 199 = some (.agg #[.int .i64 0, .int .i64 0]) := by kernel_rfl
theorem Zc1 : ZT Tryz.prog 98 0 = some 0 := by kernel_rfl
theorem ZwD : enters Tryz.prog 137 = true := by kernel_rfl
theorem Zfa : ZT Tryz.prog 98 4 = some 4 := by kernel_rfl
theorem ZwC : enters Tryz.prog 138 = true := by kernel_rfl
theorem ZsG : ZT Tryz.prog 98 5 = some 5 := by kernel_rfl
theorem ZwB : enters Tryz.prog 139 = true := by kernel_rfl
theorem ZwA : enters Tryz.prog 140 = true := by kernel_rfl
theorem Zwz : enters Tryz.prog 141 = true := by kernel_rfl
theorem Zp5 : ZT Tryz.prog 98 7 = some 7 := by kernel_rfl
theorem Zwy : enters Tryz.prog 142 = true := by kernel_rfl
theorem Zwx : enters Tryz.prog 143 = true := by kernel_rfl
theorem Zww : enters Tryz.prog 144 = true := by kernel_rfl
theorem Zv2 : lk Tryz.prog 98 = some (some 8) := by kernel_rfl
theorem Zxm : enters Tryz.prog 97 = true := by kernel_rfl
theorem Zwg : enters Tryz.prog 24 = true := by kernel_rfl
theorem ZvD : ZaB Tryz.prog 98 = some (.agg #[.int .i64 0, .string ⟨#[]⟩, .string ⟨#[]⟩, .string ⟨#[]⟩, .string ⟨#[]⟩, .string ⟨#[]⟩, .int .i64 0, .int .i64 0]) := by kernel_rfl
theorem Zxf : Zbc Tryz.prog 98 = some [(0, 1), (1, 1), (2, 1), (3, 1), (4, 1), (5, 1), (6, 1), (7, 1)] := by kernel_rfl
theorem ZwT : Zaa Tryz.prog 98 = some 8 := by kernel_rfl
theorem ZwW : enters Tryz.prog 98 = true := by kernel_rfl
theorem Zvv : enters Tryz.prog 91 = true := by kernel_rfl
theorem ZxH : enters Tryz.prog 53 = true := by kernel_rfl
theorem ZxF : enters Tryz.prog 55 = true := by kernel_rfl
theorem ZxG : enters Tryz.prog 54 = true := by kernel_rfl
theorem Zw8 : enters Tryz.prog 23 = true := by kernel_rfl
theorem ZxM : enters Tryz.prog 48 = true := by kernel_rfl
theorem ZxL : enters Tryz.prog 49 = true := by kernel_rfl
theorem Zxe : Zaa Tryz.prog 23 = some 1 := by kernel_rfl
theorem ZxK : enters Tryz.prog 50 = true := by kernel_rfl
theorem ZxJ : enters Tryz.prog 51 = true := by kernel_rfl
theorem ZxI : enters Tryz.prog 52 = true := by kernel_rfl
theorem ZxX : enters Tryz.prog 22 = true := by kernel_rfl
theorem Zw9 : enters Tryz.prog 20 = true := by kernel_rfl
theorem Zxb : enters Tryz.prog 12 = true := by kernel_rfl
theorem ZxY : enters Tryz.prog 19 = true := by kernel_rfl
theorem Zxc : (Tryz.prog.info? 238).map (·.comparable) = some true := by kernel_rfl
theorem Zuw : Zaa Tryz.prog 263 = some 1 := by kernel_rfl
theorem ZvG : ZaB Tryz.prog 188 = some (.nilIface) := by kernel_rfl
theorem ZvF : ZaB Tryz.prog 191 = some (.nilIface) := by kernel_rfl
theorem ZvE : ZaB Tryz.prog 193 = some (.nilIface) := by kernel_rfl
theorem Zxt : enters Tryz.prog 75 = true := by kernel_rfl
theorem Ztk : lk Tryz.prog 47 = some none := by kernel_rfl
theorem ZvA : enters Tryz.prog 35 = true := by kernel_rfl
theorem Zw6 : enters Tryz.prog 34 = true := by kernel_rfl
theorem Zx0 : enters Tryz.prog 14 = true := by kernel_rfl
theorem ZxZ : enters Tryz.prog 15 = true := by kernel_rfl
theorem en9 : enters Tryz.prog 9 = true := by kernel_rfl
theorem Zx2 : enters Tryz.prog 10 = true := by kernel_rfl
theorem Zx1 : enters Tryz.prog 11 = true := by kernel_rfl
theorem en4 : enters Tryz.prog 4 = true := by kernel_rfl
theorem en5 : enters Tryz.prog 5 = true := by kernel_rfl
theorem en6 : enters Tryz.prog 6 = true := by kernel_rfl
theorem Zqb : Zij Tryz.prog 31 [(0, 9), (1, 9), (2, 9)] = true := by kernel_rfl
theorem en7 : enters Tryz.prog 7 = true := by kernel_rfl
theorem en8 : enters Tryz.prog 8 = true := by kernel_rfl
set_option maxRecDepth 4000
variable {J : JoinT}
abbrev cur (b : Nat) (l : List UInt8) (i : Nat) : Cells := ZaY b [str l, .int .i64 i] 102
set_option maxHeartbeats 400000 in
theorem Zch (n lo hi:Int) (B:Kn):Za1 (pj J) 78 [.int .i64 n,.int .i64 lo,.int .i64 hi] B (.bool (decide (lo≤n) && decide (n≤hi))):=by
 refine Zc 15 Tryz.func78 rfl rfl rfl (Nat.le_of_ble_eq_true rfl) ?_
 refine Za (xA (h:=ZX [(0,_),(1,_),(2,_),(6,_)] t4 (Za (xM (h:=xM (h:=ZdS (h:=xM (h:=Zt (d:=10) rfl (fun g1=>?_) (fun g1=>?_)))))))))
 try simp only [sQ,ne_eq] at g1
 refine xM (h:=xM (h:=ZcB (h:=xT (h:=xA (h:=ZX [(0,_),(1,_),(2,_),(6,_)] t4 (Zg ?_))))))
 exact ZW .ret (.inl rfl) [_] t1 ⟨by exact Zp (by rw [Bool.eq_iff_iff];simp [];omega),rfl,rfl⟩
 try simp only [sQ,ne_eq] at g1
 refine xP (h:=xP (h:=xP (h:=xF (h:=xA (h:=ZX [(0,_),(1,_),(2,_),(6,_)] t4 (Zg ?_))))))
 exact ZW .ret (.inl rfl) [_] t1 ⟨by exact Zp (by rw [Bool.eq_iff_iff];simp [];omega),rfl,rfl⟩

set_option maxHeartbeats 400000 in
theorem Zn3 (c:UInt8) (B:Kn):Za1 (pj J) 129 [.int .u8 c.toNat] B (.bool (ZbB c)):=by
 refine Zc 17 Tryz.func129 rfl rfl rfl (Nat.le_of_ble_eq_true rfl) ?_
 refine Za (xA (h:=ZX [(0,_),(2,_)] t2 (Za (xM (h:=ZdS (h:=xM (h:=Zt (d:=5) rfl (fun g1=>?_) (fun g1=>?_))))))))
 try simp only [sQ,ne_eq] at g1
 refine xM (h:=ZcB (h:=xT (h:=xM (h:=Zt (d:=9) rfl (fun g2=>?_) (fun g2=>?_)))))
 try simp only [sQ,ne_eq] at g2
 refine xP (h:=xP (h:=xP (h:=xP (h:=xP (h:=xP (h:=xT (h:=xA (h:=ZX [(0,_),(2,_)] t2 (Zg ?_)))))))))
 exact ZW .ret (.inl rfl) [_] t1 ⟨by exact Zp (by rw [Bool.eq_iff_iff];simp [ZbB];omega),rfl,rfl⟩
 try simp only [sQ,ne_eq] at g2
 refine xM (h:=ZdS (h:=xM (h:=Zt (d:=12) rfl (fun g3=>?_) (fun g3=>?_))))
 try simp only [sQ,ne_eq] at g3
 refine xM (h:=ZcB (h:=xT (h:=xF (h:=xA (h:=ZX [(0,_),(2,_)] t2 (Zg ?_))))))
 exact ZW .ret (.inl rfl) [_] t1 ⟨by exact Zp (by rw [Bool.eq_iff_iff];simp [ZbB];omega),rfl,rfl⟩
 try simp only [sQ,ne_eq] at g3
 refine xP (h:=xP (h:=xF (h:=xF (h:=xA (h:=ZX [(0,_),(2,_)] t2 (Zg ?_))))))
 exact ZW .ret (.inl rfl) [_] t1 ⟨by exact Zp (by rw [Bool.eq_iff_iff];simp [ZbB];omega),rfl,rfl⟩
 try simp only [sQ,ne_eq] at g1
 refine xP (h:=xP (h:=xF (h:=xM (h:=xM (h:=ZdS (h:=xM (h:=Zt (d:=12) rfl (fun g4=>?_) (fun g4=>?_))))))))
 try simp only [sQ,ne_eq] at g4
 refine xM (h:=ZcB (h:=xT (h:=xF (h:=xA (h:=ZX [(0,_),(2,_)] t2 (Zg ?_))))))
 exact ZW .ret (.inl rfl) [_] t1 ⟨by exact Zp (by rw [Bool.eq_iff_iff];simp [ZbB];omega),rfl,rfl⟩
 try simp only [sQ,ne_eq] at g4
 refine xP (h:=xP (h:=xF (h:=xF (h:=xA (h:=ZX [(0,_),(2,_)] t2 (Zg ?_))))))
 exact ZW .ret (.inl rfl) [_] t1 ⟨by exact Zp (by rw [Bool.eq_iff_iff];simp [ZbB];omega),rfl,rfl⟩

set_option maxHeartbeats 400000 in
theorem ZbT (l:List UInt8) (hl:l.length≤2000000) (B:Kn):Za1 (pj J) 77 [str l] B (.bool (Zaj l)):=by
 refine Zc 37 Tryz.func77 rfl rfl rfl (Nat.le_of_ble_eq_true rfl) ?_
 refine Za (xA (h:=ZX [(0,_),(2,_)] t2 (Zm (Za (xA (h:=ZX [(0,_),(2,_),(3,_)] t3 (Zr (Zkm (α:=Nat) (fun k=>[(0,str l),(3,.int .i64 k)]) (fun k=>[]) (fun k Bx=>Bx=B∧k≤l.length∧(l.take k).all ZbB=true) (fun k=>l.length - k) 0 t2 rfl (⟨rfl,Nat.zero_le _,by simp⟩) (fun k B1 hle1 hI=>?_)))))))))
 obtain ⟨rfl,hk,ha⟩:=hI
 refine Zm (Za (xM (h:=xM (h:=xVs Tryz.underlying9 (h:=Zai (h:=ZX [(0,_),(3,_),(7,_)] t3 (Zd rfl (fun g1=>?_) (fun g1=>?_))))))))
 try simp only [sQ,ne_eq] at g1
 obtain ⟨c,hc⟩ :∃c,l[k]? = some c:=⟨_,List.getElem?_eq_getElem oz⟩
 refine Zi (Zf (Zm (Zr (ZiW 33 (!(ZbB c)) [0,3,7] ?_ ?_))))
 refine xM (h:=xM (h:=Zn (Zea rfl rfl Tryz.underlying9 rfl rfl oz (by simpa using hc) ?_)))
 refine ZdS (h:=xM (h:=Zt (d:=14) rfl (fun g1=>?_) (fun g1=>?_)))
 try simp only [sQ,ne_eq] at g1
 refine xM (h:=xM (h:=Zn (Zea rfl rfl Tryz.underlying9 rfl rfl oz (by simpa using hc) ?_)))
 refine ZcB (h:=xT (h:=xN (h:=xM (h:=Zt (d:=21) rfl (fun g2=>?_) (fun g2=>?_)))))
 try simp only [sQ,ne_eq] at g2
 refine xM (h:=xM (h:=Zn (Zea rfl rfl Tryz.underlying9 rfl rfl oz (by simpa using hc) ?_)))
 refine ZdS (h:=xM (h:=Zt (d:=26) rfl (fun g3=>?_) (fun g3=>?_)))
 try simp only [sQ,ne_eq] at g3
 refine xM (h:=xM (h:=Zn (Zea rfl rfl Tryz.underlying9 rfl rfl oz (by simpa using hc) ?_)))
 refine ZcB (h:=xT (h:=xN (h:=xT (h:=?_))))
 exact ⟨rfl,rfl,rfl,Zc5 rfl (by rw [Bool.eq_iff_iff];simp [ZbB,];omega),t3⟩
 try simp only [sQ,ne_eq] at g3
 refine xP (h:=xP (h:=xP (h:=xP (h:=xF (h:=xN (h:=xT (h:=?_)))))))
 exact ⟨rfl,rfl,rfl,Zc5 rfl (by rw [Bool.eq_iff_iff];simp [ZbB,];omega),t3⟩
 try simp only [sQ,ne_eq] at g2
 refine xP (h:=xP (h:=xP (h:=xP (h:=xP (h:=xP (h:=xP (h:=xP (h:=xP (h:=xP (h:=xP (h:=xF (h:=?_))))))))))))
 exact ⟨rfl,rfl,rfl,Zc5 rfl (by rw [Bool.eq_iff_iff];simp [ZbB,];omega),t3⟩
 try simp only [sQ,ne_eq] at g1
 refine xP (h:=xP (h:=xP (h:=xP (h:=xF (h:=xN (h:=xM (h:=xM (h:=xM (h:=Zn (Zea rfl rfl Tryz.underlying9 rfl rfl oz (by simpa using hc) ?_))))))))))
 refine ZdS (h:=xM (h:=Zt (d:=26) rfl (fun g4=>?_) (fun g4=>?_)))
 try simp only [sQ,ne_eq] at g4
 refine xM (h:=xM (h:=Zn (Zea rfl rfl Tryz.underlying9 rfl rfl oz (by simpa using hc) ?_)))
 refine ZcB (h:=xT (h:=xN (h:=xT (h:=?_))))
 exact ⟨rfl,rfl,rfl,Zc5 rfl (by rw [Bool.eq_iff_iff];simp [ZbB,];omega),t3⟩
 try simp only [sQ,ne_eq] at g4
 refine xP (h:=xP (h:=xP (h:=xP (h:=xF (h:=xN (h:=xT (h:=?_)))))))
 exact ⟨rfl,rfl,rfl,Zc5 rfl (by rw [Bool.eq_iff_iff];simp [ZbB,];omega),t3⟩
 refine ZX [(0,_),(3,_),(7,_),(33,_)] t4 (Zd rfl (fun g9=>?_) (fun g9=>?_))
 try simp only [sQ,ne_eq] at g9
 refine Za (xA (h:=ZX [(0,_),(2,_),(3,_),(7,_),(33,_)] t5 (Zg (ZI (Zs (Zs3 (ZI (Zs ?_))))))))
 exact ZW .ret (.inl rfl) [_] t1 ⟨Zp (by simp [Zaj,Zsf hc g9]),rfl,rfl⟩
 try simp only [sQ,ne_eq] at g9
 refine Zi (Zz (Zf (Ze (xM (h:=Zn (Zeu rfl rfl rfl rfl (by first | exact ZaK oz oz | rfl) ?_))))))
 refine xA (h:=?_)
 exact ZnM (k+1) oz ⟨rfl,oz,Znu hc g9 ha⟩ t2 rfl
 try simp only [sQ,ne_eq] at g1
 refine ZY (Zal (ZnL (ZN (Zf (Za (xM (h:=xVs Tryz.underlying9 (h:=xR Zjt rfl (Zch _ _ _ _) (h:=xA (h:=ZX [(0,_),(2,_),(3,_),(7,_)] t4 (Zg ?_)))))))))))
 exact ZW .ret (.inl rfl) [_] t1 ⟨Zp (by (obtain rfl:k=l.length:=oz);rw [List.take_length] at ha;rw [Bool.eq_iff_iff];simp [Zaj,ha];omega),rfl,rfl⟩

set_option maxHeartbeats 400000 in
theorem Znq (b:Nat) (l:List UInt8) (i:Nat) (hi:i≤l.length) (hl:l.length≤2000000) (B:Kn):ZsQ (pj J) 58 [ptr ⟨b,0,none⟩] B (cur b l i) (.bool (decide (i=l.length))) (cur b l i):=by
 refine Zc 13 Tryz.func58 rfl rfl rfl (Nat.le_of_ble_eq_true rfl) ?_
 refine Za (xA (h:=ZX [(0,_),(2,_)] t2 (Zm (Z9 (same _ _) mo kr ⟨rfl,rfl⟩ (fun _ _=>?_)))))
 refine aM 0 rfl (h:=aNc 1 rfl (h:=aW 2 rfl Zce (h:=aT 3 rfl (Zan fun D=>Zl rfl rfl lk3 rfl (atL 0 rfl rfl rfl) r4) (h:=aM 4 rfl (h:=aNc 5 rfl (h:=aW 6 rfl Zgu (h:=aT 7 rfl (Zan fun D=>Zl rfl rfl lk9 rfl (atL 0 rfl rfl rfl) r4) (h:=aT 8 rfl (Zan fun D=>ZoU rfl rfl Tryz.underlying9 rfl r4) (h:=ZqO 9 rfl (h:=aA 10 rfl (h:=ZD kr kr ?_)))))))))))
 refine Zf (ZX [(0,_),(2,_)] t2 (Zg ?_))
 exact ZfE .ret (.inl rfl) [_] 0 rfl t1 ⟨Zp (by rw [Bool.eq_iff_iff];simp;omega),rfl,rfl⟩

set_option maxHeartbeats 400000 in
theorem Zut (b:Nat) (l:List UInt8) (i:Nat) (hi:i≤l.length) (hl:l.length≤2000000) (x:UInt8) (B:Kn):ZsQ (pj J) 99 [ptr ⟨b,0,none⟩,.int .u8 x.toNat] B (cur b l i) (.bool (decide (l[i]? = some x))) (cur b l (if l[i]? = some x then i+1 else i)):=by
 refine Zc 27 Tryz.func99 rfl rfl rfl (Nat.le_of_ble_eq_true rfl) ?_
 refine Za (xA (h:=ZX [(0,_),(1,_),(4,_)] t3 (Zm (Zhq 19 (decide (l[i]?≠some x)) [0,1,4] (same _ _) mo kr ⟨rfl,rfl⟩ (fun _ _=>?_) ?_))))
 refine aM 0 rfl (h:=aT 1 rfl (Zan fun D=>Zhr 0 rfl rfl rfl Zvz rfl (Znq _ _ _ oz oz _) r4) (h:=?_))
 refine aM 2 rfl (h:=ZaE (d:=7) rfl (fun g1=>?_) (fun g1=>?_))
 try simp only [sQ,ne_eq] at g1
 refine aZ 3 rfl (h:=aZ 4 rfl (h:=aZ 5 rfl (h:=aZ 6 rfl (h:=aZ 7 rfl (h:=aZ 8 rfl (h:=aZ 9 rfl (h:=aZ 10 rfl (h:=aZ 11 rfl (h:=aZ 12 rfl (h:=aZ 13 rfl (h:=aPT 14 rfl (h:=ZD kr kr ?_))))))))))))
 exact ⟨rfl,rfl,rfl,Zc5 rfl (by first | (simp [g1];done) | (rw [Bool.eq_iff_iff];simp [hc,← UInt8.toNat_inj];omega)),t3⟩
 try simp only [sQ,ne_eq] at g1
 obtain ⟨c,hc⟩ :∃c,l[i]? = some c:=⟨_,List.getElem?_eq_getElem oz⟩
 refine aM 3 rfl (h:=aNc 4 rfl (h:=aW 5 rfl Zgu (h:=aT 6 rfl (Zan fun D=>Zl rfl rfl lk9 rfl (atL 0 rfl rfl rfl) r4) (h:=aM 7 rfl (h:=aNc 8 rfl (h:=aW 9 rfl Zce (h:=aT 10 rfl (Zan fun D=>Zl rfl rfl lk3 rfl (atL 0 rfl rfl rfl) r4) (h:=aT 11 rfl (Zan fun D=>Zea rfl rfl Tryz.underlying9 rfl rfl oz (by simpa using hc) r4) (h:=?_)))))))))
 refine aM 12 rfl (h:=Zvm 13 rfl (h:=aPF 14 rfl (h:=ZD kr kr ?_)))
 exact ⟨rfl,rfl,rfl,Zc5 rfl (by first | (simp [g1];done) | (rw [Bool.eq_iff_iff];simp [hc,← UInt8.toNat_inj];omega)),t3⟩
 refine ZX [(0,_),(1,_),(4,_),(19,_)] t4 (Zd rfl (fun g2=>?_) (fun g2=>?_))
 try simp only [sQ,ne_eq] at g2
 refine Za (xA (h:=ZX [(0,_),(1,_),(4,_),(19,_)] t4 (Zg (Zs ?_))))
 exact ZfE .ret (.inl rfl) [_] 0 rfl t1 ⟨Zp (by simp [g2]),rfl,by rw [if_neg g2]⟩
 try simp only [sQ,ne_eq] at g2
 refine Zi (Zf (Za (xM (h:=xNc (h:=xW Zce (h:=x1 lk3 0 (h:=Zn (Zeu rfl rfl rfl rfl (by first | exact ZaK oz oz | rfl) ?_))))))))
 refine xNc (h:=xW Zce (h:=xS [_] 0 [_,_] sz3 (h:=ZQ [(0,_),(1,_),(4,_),(19,_)] [_] t4 rfl (Za (xA (h:=ZX [(0,_),(1,_),(4,_),(19,_)] t4 (Zg ?_)))))))
 exact ZfE .ret (.inl rfl) [_] 0 rfl t1 ⟨Zp (by simp [g2]),rfl,by rw [if_pos g2];rfl⟩

set_option maxHeartbeats 400000 in
theorem Zpy (b:Nat) (l:List UInt8) (i:Nat) (hi:i≤l.length) (hl:l.length≤2000000) (B:Kn):ZsQ (pj J) 87 [ptr ⟨b,0,none⟩] B (cur b l i) (.tuple #[str (word l i),.bool (Zdz (word l i))]) (cur b l (i+(word l i).length)):=by
 refine Zc 54 Tryz.func87 rfl rfl rfl (Nat.le_of_ble_eq_true rfl) ?_
 refine Za (xA (h:=xA (h:=ZX [(0,_),(2,_),(3,_)] t3 (Za (xM (h:=xNc (h:=xW Zce (h:=x1 lk3 0 (h:=xA (h:=ZX [(0,_),(2,_),(3,_),(4,_)] t4 (Zm (Zr ?_))))))))))))
 refine Zkm (α:=Nat) (fun k=>[(0,ptr ⟨b,0,none⟩),(4,.int .i64 i)]) (fun k=>[cur b l (i+k)]) (fun k Bx=>Bx=B∧i+k≤l.length∧((l.drop i).take k).all ZbB=true) (fun k=>l.length - i - k) 0 t2 rfl (⟨rfl,oz,by simp⟩) (fun k B1 hle1 hI=>?_)
 obtain ⟨rfl,hk,ha⟩:=hI
 refine Zm (Zhq 24 (match l[i+k]? with | some c=>ZbB c | none=>false) [0,4] (same _ _) mo kr ⟨rfl,rfl⟩ (fun _ _=>?_) ?_)
 refine aM 0 rfl (h:=aT 1 rfl (Zan fun D=>Zhr 0 rfl rfl rfl Zvz rfl (Znq _ _ _ oz oz _) r4) (h:=?_))
 refine aN 2 rfl (h:=aM 3 rfl (h:=ZaE (d:=13) rfl (fun g1=>?_) (fun g1=>?_)))
 try simp only [sQ,ne_eq] at g1
 obtain ⟨c,hc⟩ :∃c,l[i+k]? = some c:=⟨_,List.getElem?_eq_getElem oz⟩
 refine aM 4 rfl (h:=aNc 5 rfl (h:=aW 6 rfl Zgu (h:=aT 7 rfl (Zan fun D=>Zl rfl rfl lk9 rfl (atL 0 rfl rfl rfl) r4) (h:=aM 8 rfl (h:=aNc 9 rfl (h:=aW 10 rfl Zce (h:=aT 11 rfl (Zan fun D=>Zl rfl rfl lk3 rfl (atL 0 rfl rfl rfl) r4) (h:=aT 12 rfl (Zan fun D=>Zea rfl rfl Tryz.underlying9 rfl rfl oz hc r4) (h:=?_)))))))))
 refine aT 13 rfl (Zan fun D=>ZaR rfl rfl ZwG rfl (Zn3 _ _) r4) (h:=aPT 14 rfl (h:=ZD kr kr ?_))
 exact ⟨rfl,rfl,rfl,Zc5 rfl (by first | (rw [hc];done) | (rw [List.getElem?_eq_none oz])),t2⟩
 try simp only [sQ,ne_eq] at g1
 refine aZ 4 rfl (h:=aZ 5 rfl (h:=aZ 6 rfl (h:=aZ 7 rfl (h:=aZ 8 rfl (h:=aZ 9 rfl (h:=aZ 10 rfl (h:=aZ 11 rfl (h:=aZ 12 rfl (h:=aZ 13 rfl (h:=aPF 14 rfl (h:=ZD kr kr ?_)))))))))))
 exact ⟨rfl,rfl,rfl,Zc5 rfl (by first | (rw [hc];done) | (rw [List.getElem?_eq_none oz])),t2⟩
 refine ZX [(0,_),(4,_),(24,_)] t3 (Zd rfl (fun g2=>?_) (fun g2=>?_))
 try simp only [sQ,ne_eq] at g2
 refine Zi (Zf (Zr (Ze (xM (h:=xNc (h:=xW Zce (h:=x1 lk3 0 (h:=Zn (Zeu rfl rfl rfl rfl (by first | exact ZaK oz oz | rfl) ?_)))))))))
 refine xNc (h:=xW Zce (h:=xS [_] 0 [_,_] sz3 (h:=Zz ?_)))
 obtain ⟨c,hc,hn⟩:=Zpi g2
 exact ZnM (k+1) (by have:=Zb6 hc;omega) ⟨rfl,by have:=Zb6 hc;omega,Znu (by simpa using hc) hn ha⟩ t2 rfl
 try simp only [sQ,ne_eq] at g2
 have hw:word l i=(l.drop i).take k:=ZqX ha (fun c hc=>by rw [hc] at g2;exact g2)
 have hwl:(word l i).length=k:=by rw [hw,List.length_take,List.length_drop];omega
 refine ZY (Zal (ZnL (ZN (Zf (Za (xM (h:=xNc (h:=xW Zce (h:=x1 lk3 0 (h:=xM (h:=Zn (ZiH rfl rfl rfl rfl (by first | exact ZaK oz oz | rfl) ?_))))))))))))
 refine xA (h:=ZX [(0,_),(4,_),(5,_),(24,_)] t4 (Zm (Z9 (same _ _) mo kr ⟨rfl,rfl⟩ (fun _ _=>?_))))
 refine aM 0 rfl (h:=aNc 1 rfl (h:=aW 2 rfl Zgu (h:=aT 3 rfl (Zan fun D=>Zl rfl rfl lk9 rfl (atL 0 rfl rfl rfl) r4) (h:=aM 4 rfl (h:=aM 5 rfl (h:=aNc 6 rfl (h:=aW 7 rfl Zce (h:=aT 8 rfl (Zan fun D=>Zl rfl rfl lk3 rfl (atL 0 rfl rfl rfl) r4) (h:=aT 9 rfl (Zan fun D=>ZfM rfl rfl Tryz.underlying9 rfl (a:=i) (b:=i+k) ⟨_,_,rfl,rfl⟩ ⟨_,_,rfl,oz⟩ oz oz r4) (h:=?_))))))))))
 refine aM 10 rfl (h:=Zvn 11 rfl (h:=aM 12 rfl (h:=ZaE (d:=50) rfl (fun g1=>?_) (fun g1=>?_))))
 try simp only [sQ,ne_eq] at g1
 refine aM 13 rfl (h:=Zt3 14 rfl (h:=aPT 15 rfl (h:=aA 16 rfl (h:=aA 17 rfl (h:=ZD kr kr ?_)))))
 refine Zf (ZX [(0,_),(2,_),(3,_),(4,_),(5,_),(24,_)] t6 (Zg ?_))
 exact ZfE .ret (.inl rfl) [_,_] 0 rfl t2 ⟨Zi1 (by rw [Zfe,hw]) (Zp (by rw [Bool.eq_iff_iff];simp [Zdz,hwl];omega)),rfl,by rw [hwl]⟩
 try simp only [sQ,ne_eq] at g1
 refine aZ 13 rfl (h:=aZ 14 rfl (h:=aPF 15 rfl (h:=aA 16 rfl (h:=aA 17 rfl (h:=ZD kr kr ?_)))))
 refine Zf (ZX [(0,_),(2,_),(3,_),(4,_),(5,_),(24,_)] t6 (Zg ?_))
 exact ZfE .ret (.inl rfl) [_,_] 0 rfl t2 ⟨Zi1 (by rw [Zfe,hw]) (Zp (by rw [Bool.eq_iff_iff];simp [Zdz,hwl];omega)),rfl,by rw [hwl]⟩

set_option maxHeartbeats 400000 in
theorem Zr3 (b:Nat) (l:List UInt8) (i:Nat) (hi:i≤l.length) (hl:l.length≤2000000) (B:Kn):ZsQ (pj J) 57 [ptr ⟨b,0,none⟩] B (cur b l i) (.tuple #[str (Zip l i),.bool (Zmx l i)]) (cur b l (dom l i).2):=by
 refine Zc 53 Tryz.func57 rfl rfl rfl (Nat.le_of_ble_eq_true rfl) ?_
 refine Za (xA (h:=xA (h:=ZX [(0,_),(2,_),(3,_)] t3 (Za (xM (h:=xNc (h:=xW Zce (h:=x1 lk3 0 (h:=xA (h:=ZX [(0,_),(2,_),(3,_),(4,_)] t4 (Zm (Za ?_))))))))))))
 refine xM (h:=Zn (ZiV 0 rfl rfl rfl Zwc rfl (Zpy _ _ _ oz oz _) ?_))
 refine xM (h:=xE (h:=xE (h:=xA (h:=xA (h:=ZQ [(0,_),(2,_),(3,_),(4,_),(6,_)] [_] t5 rfl (Za (xM (h:=xN (h:=ZX [(0,_),(2,_),(3,_),(4,_),(6,_),(20,_)] t6 (Zd rfl (fun g1=>?_) (fun g1=>?_)))))))))))
 try simp only [sQ,ne_eq] at g1
 refine Za (xA (h:=xA (h:=ZX [(0,_),(2,_),(3,_),(4,_),(6,_),(20,_)] t6 (Zg (Zs ?_)))))
 exact ZfE .ret (.inl rfl) [_,_] 0 rfl t2 ⟨Zi1 (by simp [Zip,Zmw g1]) (Zp (by simp [Zmx,Zmw g1])),rfl,by rw [Zmw g1]⟩
 try simp only [sQ,ne_eq] at g1
 refine Zi (Zf (Zm (Za (xA (h:=ZX [(0,_),(2,_),(3,_),(4,_),(6,_),(7,_),(20,_)] t7 (Zr (Zkm (α:=Nat × Nat) (fun x=>[(0,ptr ⟨b,0,none⟩),(4,.int .i64 i),(7,.int .i64 x.1)]) (fun x=>[cur b l x.2]) (fun x Bx=>Bx=B∧1≤x.1∧x.1≤3∧i≤x.2∧x.2≤l.length∧dom l i=more (3 - x.1) l x.2) (fun x=>3 - x.1) (1,i+(word l i).length) t3 rfl (⟨rfl,oz,oz,oz,Zho hi,Zr4 g1⟩) (fun x B1 hle1 hI=>?_))))))))
 obtain ⟨rfl,hk1,hk3,hix,hxl,hd⟩:=hI
 refine Zm (Za (xM (h:=Zai (h:=xM (h:=Zt (d:=23) rfl (fun g2=>?_) (fun g2=>?_))))))
 try simp only [sQ,ne_eq] at g2
 refine xM (h:=Zn (ZiV 0 rfl rfl rfl Zxl rfl (Zut _ _ _ oz oz 46 _) ?_))
 refine xT (h:=ZQ [(0,_),(4,_),(7,_),(26,_)] [_] t4 rfl (Zd rfl (fun g3=>?_) (fun g3=>?_)))
 try simp only [sQ,ne_eq] at g3
 rw [if_pos g3]
 have hx2:=Zb6 g3
 refine Zi (Zf (Zm (Zr (Za (xM (h:=Zn (ZiV 0 rfl rfl rfl Zwc rfl (Zpy _ _ _ oz oz _) ?_)))))))
 refine xM (h:=xE (h:=xE (h:=xA (h:=xA (h:=ZQ [(0,_),(4,_),(7,_),(9,_),(26,_)] [_] t5 rfl (Za (xM (h:=xN (h:=ZX [(0,_),(4,_),(7,_),(9,_),(26,_),(35,_)] t6 (Zd rfl (fun g4=>?_) (fun g4=>?_)))))))))))
 try simp only [sQ,ne_eq] at g4
 refine Za (xA (h:=xA (h:=ZX [(0,_),(2,_),(3,_),(4,_),(7,_),(9,_),(26,_),(35,_)] t8 (Zg (ZI (Zs (Zs3 (ZI (Zs ?_)))))))))
 have hdd:=hd.trans (Zrr oz g3 g4)
 exact ZfE .ret (.inl rfl) [_,_] 0 rfl t2 ⟨Zi1 (by simp [Zip,hdd]) (Zp (by simp [Zmx,hdd])),rfl,by rw [hdd]⟩
 try simp only [sQ,ne_eq] at g4
 refine Zi (Zz (Zf (Ze (xM (h:=Zn (Zeu rfl rfl rfl rfl (by first | exact ZaK oz oz | rfl) ?_))))))
 refine xA (h:=?_)
 exact ZnM (x.1+1,x.2+1+(word l (x.2+1)).length) (so) ⟨rfl,so,so,so,Zho oz,by rw [hd,ZpD oz g3 g4];rw [show 3 - (x.1+1)=3 - x.1 - 1 from by omega]⟩ t3 rfl
 try simp only [sQ,ne_eq] at g3
 rw [if_neg g3]
 replace hd:=hd.trans (ZhO g3)
 refine ZY (Zal (ZnL (ZN (Zf (Zm (Z9 (same _ _) mo kr ⟨rfl,rfl⟩ (fun _ _=>?_)))))))
 refine aM 0 rfl (h:=aNc 1 rfl (h:=aW 2 rfl Zgu (h:=aT 3 rfl (Zan fun D=>Zl rfl rfl lk9 rfl (atL 0 rfl rfl rfl) r4) (h:=aM 4 rfl (h:=aM 5 rfl (h:=aNc 6 rfl (h:=aW 7 rfl Zce (h:=aT 8 rfl (Zan fun D=>Zl rfl rfl lk3 rfl (atL 0 rfl rfl rfl) r4) (h:=aT 9 rfl (Zan fun D=>ZfM rfl rfl Tryz.underlying9 rfl (a:=i) (b:=x.2) ⟨_,_,rfl,rfl⟩ ⟨_,_,rfl,rfl⟩ oz oz r4) (h:=?_))))))))))
 refine aM 10 rfl (h:=aNc 11 rfl (h:=aW 12 rfl Zce (h:=aT 13 rfl (Zan fun D=>Zl rfl rfl lk3 rfl (atL 0 rfl rfl rfl) r4) (h:=aM 14 rfl (h:=aT 15 rfl (Zan fun D=>ZiH rfl rfl rfl rfl (by first | exact ZaK oz oz | rfl) r4) (h:=?_))))))
 refine Zt3 16 rfl (h:=aA 17 rfl (h:=aA 18 rfl (h:=ZD kr kr ?_)))
 refine Zf (ZX [(0,_),(2,_),(3,_),(4,_),(7,_),(26,_)] t6 (Zg ?_))
 exact ZfE .ret (.inl rfl) [_,_] 0 rfl t2 ⟨Zi1 (by simp [Zip,hd]) (Zp (by rw [Bool.eq_iff_iff];simp [Zmx,hd];omega)),rfl,by rw [hd]⟩
 try simp only [sQ,ne_eq] at g2
 replace hd:dom l i=(true,x.2):=hd.trans (by rw [show 3 - x.1=0 from by omega];rfl)
 refine xP (h:=xP (h:=xF (h:=ZX [(0,_),(4,_),(7,_),(26,_)] t4 (Zd (t:=false) rfl (fun h=>Bool.noConfusion h) (fun _=>ZY (Zal (ZnL (ZN (Zf (Zm (Z9 (same _ _) mo kr ⟨rfl,rfl⟩ (fun _ _=>?_))))))))))))
 refine aM 0 rfl (h:=aNc 1 rfl (h:=aW 2 rfl Zgu (h:=aT 3 rfl (Zan fun D=>Zl rfl rfl lk9 rfl (atL 0 rfl rfl rfl) r4) (h:=aM 4 rfl (h:=aM 5 rfl (h:=aNc 6 rfl (h:=aW 7 rfl Zce (h:=aT 8 rfl (Zan fun D=>Zl rfl rfl lk3 rfl (atL 0 rfl rfl rfl) r4) (h:=aT 9 rfl (Zan fun D=>ZfM rfl rfl Tryz.underlying9 rfl (a:=i) (b:=x.2) ⟨_,_,rfl,rfl⟩ ⟨_,_,rfl,rfl⟩ oz oz r4) (h:=?_))))))))))
 refine aM 10 rfl (h:=aNc 11 rfl (h:=aW 12 rfl Zce (h:=aT 13 rfl (Zan fun D=>Zl rfl rfl lk3 rfl (atL 0 rfl rfl rfl) r4) (h:=aM 14 rfl (h:=aT 15 rfl (Zan fun D=>ZiH rfl rfl rfl rfl (by first | exact ZaK oz oz | rfl) r4) (h:=?_))))))
 refine Zt3 16 rfl (h:=aA 17 rfl (h:=aA 18 rfl (h:=ZD kr kr ?_)))
 refine Zf (ZX [(0,_),(2,_),(3,_),(4,_),(7,_),(26,_)] t6 (Zg ?_))
 exact ZfE .ret (.inl rfl) [_,_] 0 rfl t2 ⟨Zi1 (by simp [Zip,hd]) (Zp (by rw [Bool.eq_iff_iff];simp [Zmx,hd];omega)),rfl,by rw [hd]⟩

set_option maxHeartbeats 400000 in
theorem Zci (l:List UInt8) (hl:l.length≤2000000) (B:Kn):Za1 (pj J) 46 [str l] B (.bool (Zaj l)):=by
 refine Zc 16 Tryz.func46 rfl rfl rfl (Nat.le_of_ble_eq_true rfl) ?_
 refine Za (xA (h:=ZX [(0,_),(2,_)] t2 (Za (xM (h:=xB [(0,_)] [_,_] [_,_] ZuH ZqW (h:=xAl [_,_] ZqW (h:=fun b0=>xS [_,_] 0 [_,_] Zuz (h:=ZQ [(0,_),(2,_),(3,_)] [_] t3 rfl (Za (Zn (ZiV 0 rfl rfl rfl Zwc rfl (Zpy _ _ 0 oz hl _) ?_)))))))))))
 refine xM (h:=xE (h:=xE (h:=xA (h:=xA (h:=ZQ [(0,_),(2,_),(3,_),(5,_)] [_] t4 rfl (Za (xM (h:=xM (h:=Zt (d:=13) rfl (fun g1=>?_) (fun g1=>?_))))))))))
 try simp only [sQ,ne_eq] at g1
 refine Zn (Zhr 0 rfl rfl rfl Zvz rfl (Znq _ _ (0+(word l 0).length) (Zho (Nat.zero_le _)) oz _) ?_)
 refine xT (h:=xA (h:=ZX [(0,_),(2,_),(3,_),(5,_)] t4 (Zg ?_)))
 exact ZW .ret (.inl rfl) [_] t1 ⟨Zp (by rw [Zdl];simp [g1];try omega),rfl,rfl⟩
 try simp only [sQ,ne_eq] at g1
 refine xP (h:=xF (h:=xA (h:=ZX [(0,_),(2,_),(3,_),(5,_)] t4 (Zg ?_))))
 exact ZW .ret (.inl rfl) [_] t1 ⟨Zp (by rw [Zdl];simp [g1];try omega),rfl,rfl⟩

abbrev rd (b : Nat) (q : Option Addr) (m cp p : Nat) : Cells := ZaY b [.slice q m cp, .int .i64 p] 63
set_option maxHeartbeats 400000 in
theorem ZrA (q:Option Addr) (m cp:Nat) (hmc:m≤cp) (B:Kn) (hb:Zak B q m):ZwR (pj J) 9 [.slice q m cp] B (fun v s=>∃b q m cp,v=ptr ⟨b,0,none⟩∧s=rd b q m cp 0∧m≤2000∧Zak B q m):=by
 refine Zc 11 Tryz.func9 rfl rfl rfl (Nat.le_of_ble_eq_true rfl) ?_
 refine Za (xA (h:=ZX [(0,_),(2,_)] t2 (Zm (Za (xM (h:=xV Tryz.underlying22 (h:=ZbA (h:=ZX [(0,_),(2,_),(5,_)] t3 (Zd rfl (fun g1=>?_) (fun g1=>?_))))))))))
 try simp only [sQ,ne_eq] at g1
 refine Ze (xM (h:=Zn (ZeX rfl rfl Tryz.underlying22 sz5 rfl (a:=0) (b:=2000) rfl ⟨_,_,rfl,rfl⟩ oz oz ?_)))
 refine xA (h:=Zf (Za (xM (h:=xB [(0,_)] [_,_] [_,_] ZwU ZwS (h:=xBx [_,_] (h:=fun b0=>xA (h:=ZQ [(0,_),(2,_),(5,_)] [_] t3 rfl (Zg ?_))))))))
 exact ZfE .ret (.inl rfl) [_] 0 rfl t1 ⟨rfl,_,rfl,_,_,_,_,rfl,rfl,oz,hb.take oz⟩
 try simp only [sQ,ne_eq] at g1
 refine Zi (Zf (Za (xM (h:=xB [(0,_)] [_,_] [_,_] ZwU ZwS (h:=xBx [_,_] (h:=fun b0=>xA (h:=ZQ [(0,_),(2,_),(5,_)] [_] t3 rfl (Zg ?_))))))))
 exact ZfE .ret (.inl rfl) [_] 0 rfl t1 ⟨rfl,_,rfl,_,_,_,_,rfl,rfl,oz,hb⟩

set_option maxHeartbeats 400000 in
theorem ZL (b:Nat) (q:Option Addr) (m cp p:Nat) (n:Int) (hp:p≤1000000000000) (hn:1≤n) (hn2:n≤1000000000000) (hm:m≤2000) (B:Kn) (hb:Zak B q m):Ex1 (pj J) 21 [ptr ⟨b,0,none⟩,.int .i64 n] B (rd b q m cp p) (fun v s=>∃r:Int,v = .int .i64 r∧0≤r∧r<n∧s=rd b q m cp (p+1)):=by
 refine Zc 99 Tryz.func21 rfl rfl rfl (Nat.le_of_ble_eq_true rfl) ?_
 refine Za ?_
 refine xA (h:=?_)
 refine ZX [(0,_),(1,_),(4,_)] t3 ?_
 refine Za ?_
 refine xM (h:=?_)
 refine xM (h:=?_)
 refine xNc (h:=?_)
 refine xW Zp8 (h:=?_)
 refine x1 lk3 0 (h:=?_)
 refine Zn (Zeu rfl rfl rfl rfl (by first | exact ZaK oz oz | rfl) ?_)
 refine xNc (h:=?_)
 refine xW Zp8 (h:=?_)
 refine xS [_] 0 [_,_] sz3 (h:=?_)
 refine ZQ [(0,_),(1,_),(4,_)] [_] t3 rfl ?_
 refine Zm ?_
 refine Za ?_
 refine xM (h:=?_)
 refine Zai (h:=?_)
 refine xM (h:=?_)
 refine Zt (d:=17) rfl (fun g1=>by have:=of_decide_eq_true g1;omega) (fun g1=>?_)
 try simp only [sQ,ne_eq] at g1
 refine xM (h:=?_)
 refine xNc (h:=?_)
 refine xW ZgW (h:=?_)
 refine x1 ZsF 0 (h:=?_)
 refine xV Tryz.underlying22 (h:=?_)
 refine ZF (h:=?_)
 refine xF (h:=?_)
 refine ZX [(0,_),(1,_),(4,_),(24,_)] t4 ?_
 refine Zd rfl (fun g2=>?_) (fun g2=>?_)
 try simp only [sQ,ne_eq] at g2
 refine Za ?_
 refine xA (h:=?_)
 refine ZX [(0,_),(1,_),(4,_),(24,_)] t4 ?_
 refine Zg (Zs ?_)
 exact ZfE .ret (.inl rfl) [_] 0 rfl t1 ⟨rfl,_,rfl,0,rfl,oz,oz,rfl⟩
 try simp only [sQ,ne_eq] at g2
 have hm0:0<m:=by omega
 obtain ⟨a,rfl,hc⟩:=hb.at hm0
 refine Zi ?_
 refine Zf ?_
 refine Za ?_
 refine xM (h:=?_)
 refine xNc (h:=?_)
 refine xW Zp8 (h:=?_)
 refine x1 lk3 0 (h:=?_)
 refine Zn (ZiH rfl rfl rfl rfl (by first | exact ZaK oz oz | rfl) ?_)
 refine xA (h:=?_)
 refine ZX [(0,_),(1,_),(4,_),(5,_),(24,_)] t5 ?_
 refine Zm ?_
 refine Za ?_
 refine xM (h:=?_)
 refine xM (h:=?_)
 refine xNc (h:=?_)
 refine xW ZgW (h:=?_)
 refine x1 ZsF 0 (h:=?_)
 refine xV Tryz.underlying22 (h:=?_)
 refine Zai (h:=?_)
 refine ZX [(0,_),(1,_),(4,_),(5,_),(24,_),(36,_)] t6 ?_
 refine Zd rfl (fun g3=>?_) (fun g3=>?_)
 try simp only [sQ,ne_eq] at g3
 obtain ⟨z,hz,h1⟩:=hc (↑p+1 - 1) oz oz
 refine Za ?_
 refine xM (h:=?_)
 refine xNc (h:=?_)
 refine xW ZgW (h:=?_)
 refine x1 ZsF 0 (h:=?_)
 refine xM (h:=?_)
 refine Zn (Za2 rfl rfl Tryz.underlying22 sz5 rfl rfl oz oz ?_)
 refine Zn (Zl rfl rfl lk5 rfl (h1 _) ?_)
 refine Zn (ZlL rfl rfl Tryz.underlying5 Tryz.underlying3 rfl (by first | exact ZaK oz oz | rfl) ?_)
 refine xM (h:=?_)
 refine Zn (ZfN rfl rfl rfl rfl oz (by first | exact ZaK oz oz | rfl) ?_)
 refine xA (h:=?_)
 refine ZX [(0,_),(1,_),(4,_),(5,_),(24,_),(36,_)] t6 ?_
 refine Zg (Zs ?_)
 exact ZfE .ret (.inl rfl) [_] 0 rfl t1 ⟨rfl,_,rfl,_,rfl,Int.tmod_nonneg _ oz,Int.tmod_lt_of_pos _ oz,rfl⟩
 try simp only [sQ,ne_eq] at g3
 obtain ⟨z,hz,h1⟩:=hc (Int.tmod (↑p+1 - 1) ↑m) (Int.tmod_nonneg _ oz) (Int.tmod_lt_of_pos _ oz)
 obtain ⟨z2,hz2,h2⟩:=hc (Int.tmod ((↑p+1 - 1)*7+3) ↑m) (Int.tmod_nonneg _ oz) (Int.tmod_lt_of_pos _ oz)
 have ht0:0≤Int.tdiv (↑p+1 - 1) ↑m:=Int.tdiv_nonneg oz oz
 have ht1:Int.tdiv (↑p+1 - 1) ↑m≤↑p+1 - 1:=Int.tdiv_le_self _ oz
 refine Zi ?_
 refine Zf ?_
 refine Zm ?_
 refine Z9 (same _ _) mo kr ⟨rfl,rfl⟩ (fun _ _=>?_)
 refine aM 0 rfl (h:=?_)
 refine aNc 1 rfl (h:=?_)
 refine aW 2 rfl ZgW (h:=?_)
 refine aT 3 rfl (Zan fun D=>Zl rfl rfl ZsF rfl (atL 0 rfl rfl rfl) r4) (h:=?_)
 refine aM 4 rfl (h:=?_)
 refine aM 5 rfl (h:=?_)
 refine aNc 6 rfl (h:=?_)
 refine aW 7 rfl ZgW (h:=?_)
 refine aT 8 rfl (Zan fun D=>Zl rfl rfl ZsF rfl (atL 0 rfl rfl rfl) r4) (h:=?_)
 refine aV 9 rfl Tryz.underlying22 (h:=?_)
 refine aT 10 rfl (Zan fun D=>ZfN rfl rfl rfl rfl oz (by first | exact ZaK oz oz | rfl) r4) (h:=?_)
 refine aT 11 rfl (Zan fun D=>Za2 rfl rfl Tryz.underlying22 sz5 rfl rfl (Int.tmod_nonneg _ oz) (Int.tmod_lt_of_pos _ oz) r4) (h:=?_)
 refine aT 12 rfl (Zan fun D=>Zl rfl rfl lk5 rfl (h1 _) r4) (h:=?_)
 refine aT 13 rfl (Zan fun D=>ZlL rfl rfl Tryz.underlying5 Tryz.underlying3 rfl (by first | exact ZaK oz oz | rfl) r4) (h:=?_)
 refine aT 14 rfl (Zan fun D=>Zkk rfl rfl rfl rfl (by first | exact ZaK oz oz | rfl) r4) (h:=?_)
 refine aM 15 rfl (h:=?_)
 refine aNc 16 rfl (h:=?_)
 refine aW 17 rfl ZgW (h:=?_)
 refine aT 18 rfl (Zan fun D=>Zl rfl rfl ZsF rfl (atL 0 rfl rfl rfl) r4) (h:=?_)
 refine aM 19 rfl (h:=?_)
 refine aT 20 rfl (Zan fun D=>Zkk rfl rfl rfl rfl (by first | exact ZaK oz oz | rfl) r4) (h:=?_)
 refine aT 21 rfl (Zan fun D=>Zeu rfl rfl rfl rfl (by first | exact ZaK oz oz | rfl) r4) (h:=?_)
 refine aM 22 rfl (h:=?_)
 refine aNc 23 rfl (h:=?_)
 refine aW 24 rfl ZgW (h:=?_)
 refine aT 25 rfl (Zan fun D=>Zl rfl rfl ZsF rfl (atL 0 rfl rfl rfl) r4) (h:=?_)
 refine aV 26 rfl Tryz.underlying22 (h:=?_)
 refine aT 27 rfl (Zan fun D=>ZfN rfl rfl rfl rfl oz (by first | exact ZaK oz oz | rfl) r4) (h:=?_)
 refine aT 28 rfl (Zan fun D=>Za2 rfl rfl Tryz.underlying22 sz5 rfl rfl (Int.tmod_nonneg _ oz) (Int.tmod_lt_of_pos _ oz) r4) (h:=?_)
 refine aT 29 rfl (Zan fun D=>Zl rfl rfl lk5 rfl (h2 _) r4) (h:=?_)
 refine aT 30 rfl (Zan fun D=>ZlL rfl rfl Tryz.underlying5 Tryz.underlying3 rfl (by first | exact ZaK oz oz | rfl) r4) (h:=?_)
 refine aT 31 rfl (Zan fun D=>Zkk rfl rfl rfl rfl (by first | exact ZaK oz oz | rfl) r4) (h:=?_)
 refine aT 32 rfl (Zan fun D=>Zeu rfl rfl rfl rfl (by first | exact ZaK oz oz | rfl) r4) (h:=?_)
 refine aM 33 rfl (h:=?_)
 refine aT 34 rfl (Zan fun D=>Zkk rfl rfl rfl rfl (by first | exact ZaK oz oz | rfl) r4) (h:=?_)
 refine aT 35 rfl (Zan fun D=>Zeu rfl rfl rfl rfl (by first | exact ZaK oz oz | rfl) r4) (h:=?_)
 refine aM 36 rfl (h:=?_)
 refine aM 37 rfl (h:=?_)
 refine aNc 38 rfl (h:=?_)
 refine aW 39 rfl ZgW (h:=?_)
 refine aT 40 rfl (Zan fun D=>Zl rfl rfl ZsF rfl (atL 0 rfl rfl rfl) r4) (h:=?_)
 refine aV 41 rfl Tryz.underlying22 (h:=?_)
 refine aT 42 rfl (Zan fun D=>Zfj rfl rfl rfl rfl oz (by first | exact ZaK oz oz | rfl) r4) (h:=?_)
 refine aT 43 rfl (Zan fun D=>Zkk rfl rfl rfl rfl (by first | exact ZaK oz oz | rfl) r4) (h:=?_)
 refine aT 44 rfl (Zan fun D=>Zeu rfl rfl rfl rfl (by first | exact ZaK oz oz | rfl) r4) (h:=?_)
 refine aA 45 rfl (h:=?_)
 refine ZD kr kr ?_
 refine Zf ?_
 refine ZX [(0,_),(1,_),(4,_),(5,_),(6,_),(24,_),(36,_)] t7 ?_
 generalize hx:(↑z*131+↑z2*1117+(↑p+1 - 1)*29+(↑p+1 - 1:Int).tdiv ↑m*53:Int)=x
 have hx0:0≤x:=by omega
 have hx1:x<1000000000000000:=by omega
 have hy0:0≤Int.tdiv x 64:=Int.tdiv_nonneg oz oz
 have hy1:Int.tdiv x 64≤x:=Int.tdiv_le_self _ oz
 refine Za ?_
 refine xM (h:=?_)
 refine xM (h:=?_)
 refine Zn (Zfj rfl rfl rfl rfl oz (by first | exact ZaK oz oz | rfl) ?_)
 refine Zn (ZvM rfl rfl rfl rfl oz oz oz oz (fun y hy2 hy3=>?_))
 refine xA (h:=?_)
 refine ZX [(0,_),(1,_),(4,_),(5,_),(6,_),(24,_),(36,_)] t7 ?_
 refine Za ?_
 refine xM (h:=?_)
 refine xM (h:=?_)
 refine Zn (ZfN rfl rfl rfl rfl oz (by first | exact ZaK oz oz | rfl) ?_)
 refine xA (h:=?_)
 refine ZX [(0,_),(1,_),(4,_),(5,_),(6,_),(24,_),(36,_)] t7 ?_
 refine Zg ?_
 exact ZfE .ret (.inl rfl) [_] 0 rfl t1 ⟨rfl,_,rfl,_,rfl,Int.tmod_nonneg _ oz,Int.tmod_lt_of_pos _ oz,rfl⟩

set_option maxHeartbeats 400000 in
theorem Zpq (b:Nat) (q:Option Addr) (m cp p:Nat) (b1:Nat) (ls:List (List UInt8)) (hp:p≤1000000000000) (hn:1≤ls.length) (hn2:ls.length≤1000000000000) (hm:m≤2000) (B:Kn) (hbm:Zak B q m):ZM (pj J) 56 [ptr ⟨b,0,none⟩,.slice (some ⟨b1,0,none⟩) ls.length ls.length] B [rd b q m cp p,ZaY b1 (ls.map str) 9] (fun v B' Ls=>B'=B∧∃x,x∈ls∧v=str x∧Ls=[rd b q m cp (p+1)]):=by
 refine Zc 12 Tryz.func56 rfl rfl rfl (Nat.le_of_ble_eq_true rfl) ?_
 skip
 refine Za (xA (h:=ZX [(0,_),(1,_),(4,_)] t3 (Za (xM (h:=xM (h:=xM (h:=xV Tryz.underlying78 (h:=xX 0 rfl Za0 rfl (ZL _ _ _ _ _ _ oz oz oz hm _ hbm) (h:=?_)))))))))
 rintro _ _ ⟨r1,rfl,r1a,r1b,rfl⟩
 refine Zn (Za2 rfl rfl Tryz.underlying78 sz9 rfl rfl oz oz ?_)
 obtain ⟨x,hx⟩ :∃x,ls[r1.toNat]? = some x:=⟨_,List.getElem?_eq_getElem oz⟩
 refine Zn (Zl rfl rfl lk9 rfl (ZqE 1 rfl (v:=str x) (by rw [Nat.mul_one,List.getElem?_map,hx];rfl)) ?_)
 refine xA (h:=ZQ [(0,_),(1,_),(4,_)] [_,_] t3 rfl (Zg ?_))
 exact Zaf .ret (.inl rfl) [_] [0] rfl t1 ⟨rfl,x,List.mem_of_getElem? hx,rfl,rfl⟩

set_option maxHeartbeats 400000 in
theorem Zcu (b:Nat) (q:Option Addr) (m cp p:Nat) (hp:p≤900000000000) (hm:m≤2000) (B:Kn) (hbm:Zak B q m):Ex1 (pj J) 25 [ptr ⟨b,0,none⟩] B (rd b q m cp p) (fun v s=>∃x:List UInt8,v=str x∧x.length≤9∧s=rd b q m cp (p+2)):=by
 refine Zc 12 Tryz.func25 rfl rfl rfl (Nat.le_of_ble_eq_true rfl) ?_
 refine Za (xA (h:=ZX [(0,_),(2,_)] t2 (Zm (Za (xM (h:=xX 0 rfl Za0 rfl (ZL _ _ _ _ _ _ oz oz oz hm _ hbm) (h:=?_)))))))
 rintro _ _ ⟨r1,rfl,r1a,r1b,rfl⟩
 refine ZF (h:=ZQ [(0,_),(2,_),(5,_)] [_] t3 rfl (Zd rfl (fun g1=>?_) (fun g1=>?_)))
 try simp only [sQ,ne_eq] at g1
 refine Za (xM (h:=xBs [(0,_),(1,_),(2,_),(3,_),(4,_),(5,_),(6,_)] [_,_,_,_,_,_,_] Tryz.underlying78 sz9 zo9 (h:=fun b1=>Zn (Z8 [0,1] rfl rfl rfl rfl Zno rfl (Zpq _ _ _ _ _ _ [[],[65],[116,111,111,108,111,110,103,49,50],[97,45,98],[101,105,103,104,116,56,56,56],[48],[97,110,121,111,110,101]] oz (by decide) (by decide) hm _ hbm) ?_))))
 rintro _ _ _ hle2 ⟨rfl,x2,hx2,rfl,rfl⟩
 refine xA (h:=ZQ [(0,_),(2,_),(5,_)] [_,_] t3 rfl (Zg (Zs ?_)))
 exact ZfE .ret (.inl rfl) [_] 0 rfl t1 ⟨rfl,_,rfl,x2,rfl,(show∀x∈_,x.length≤9 from by decide) _ hx2,rfl⟩
 try simp only [sQ,ne_eq] at g1
 refine Zi (Zf (Za (xM (h:=xBs [(0,_),(1,_),(2,_),(3,_),(4,_),(5,_)] [_,_,_,_,_,_] Tryz.underlying78 sz9 zo9 (h:=fun b1=>Zn (Z8 [0,1] rfl rfl rfl rfl Zno rfl (Zpq _ _ _ _ _ _ [[97,109,121],[98,111,98],[99,121,100],[100,97,110],[98,111,120,49],[120]] oz (by decide) (by decide) hm _ hbm) ?_))))))
 rintro _ _ _ hle3 ⟨rfl,x3,hx3,rfl,rfl⟩
 refine xA (h:=ZQ [(0,_),(2,_),(5,_)] [_,_] t3 rfl (Zg ?_))
 exact ZfE .ret (.inl rfl) [_] 0 rfl t1 ⟨rfl,_,rfl,x3,rfl,(show∀x∈_,x.length≤9 from by decide) _ hx3,rfl⟩

abbrev ZvB (s : Cells) (q : Option Addr) (m cp : Nat) (ls : List (List UInt8)) : Prop := ZiE s q m cp 9 1 (ls.map str)
theorem Zkp {s:Cells} {q:Option Addr} {m cp:Nat} {ls:List (List UInt8)} {a:List UInt8} (h:ZiE s q m cp 9 1 (ls.map str ++ [str a])):ZvB s q m cp (ls ++ [a]):=by
 unfold ZvB
 rw [List.map_append]
 exact h
set_option maxHeartbeats 400000 in
theorem Ztn (l:List UInt8) (hl:l.length≤2000000) (x0:UInt8) (B:Kn):ZwR (pj J) 76 [str l,.int .u8 x0.toNat] B (fun v s=>∃q cp,v = .slice q (cut x0 l).length cp∧ZvB s q (cut x0 l).length cp (cut x0 l)):=by
 refine Zc 35 Tryz.func76 rfl rfl rfl (Nat.le_of_ble_eq_true rfl) ?_
 refine Za (xA (h:=ZX [(0,_),(1,_),(4,_)] t3 (Za (xBs [] [] Tryz.underlying78 sz9 zo9 (h:=fun b0=>xA (h:=ZQ [(0,_),(1,_),(4,_),(5,_)] [_] t4 rfl (Za (xA (h:=ZX [(0,_),(1,_),(4,_),(5,_),(6,_)] t5 (Zm (Za (xA (h:=?_)))))))))))))
 refine ZX [(0,_),(1,_),(4,_),(5,_),(6,_),(7,_)] t6 (Zr (Zkm (α:=CutSt) (fun x=>[(0,str l),(1,.int .u8 x0.toNat),(5,.slice x.q x.m x.cp),(6,.int .i64 x.f),(7,.int .i64 x.i)]) (fun x=>[x.s]) (fun x Bx=>Bx=B∧x.f≤x.i∧x.i≤l.length∧x.m≤x.i∧x.m=x.ps.length∧ZvB x.s x.q x.m x.cp x.ps∧cut x0 l=x.ps ++ glue ((l.take x.i).drop x.f) (cut x0 (l.drop x.i))) (fun x=>l.length - x.i) ⟨0,0,0,[],some ⟨b0,0,none⟩,0,ZaY b0 [] 9⟩ t5 rfl (⟨rfl,Nat.le_refl _,Nat.zero_le _,Nat.le_refl _,rfl,ZiE.lit rfl,by simp [Znf (Zns x0 l)]⟩) (fun x B1 hle1 hI=>?_)))
 obtain ⟨rfl,hf,hi,hn,hm,hv,hc⟩:=hI
 refine Zm (Za (xM (h:=xM (h:=xVs Tryz.underlying9 (h:=Zai (h:=ZX [(0,_),(1,_),(5,_),(6,_),(7,_),(12,_)] t6 (Zd rfl (fun g1=>?_) (fun g1=>?_))))))))
 try simp only [sQ,ne_eq] at g1
 obtain ⟨c,hx⟩ :∃c,l[x.i]? = some c:=⟨_,List.getElem?_eq_getElem oz⟩
 refine Zi (Zf (Zm (Zr (Za (xM (h:=xM (h:=Zn (Zea rfl rfl Tryz.underlying9 rfl rfl oz hx ?_))))))))
 refine xM (h:=ZF (h:=ZX [(0,_),(1,_),(5,_),(6,_),(7,_),(12,_),(19,_)] t7 (Zd rfl (fun g2=>?_) (fun g2=>?_))))
 try simp only [sQ,ne_eq] at g2
 refine Za (xM (h:=xM (h:=xM (h:=xM (h:=Zn (ZfM rfl rfl Tryz.underlying9 rfl (a:=x.f) (b:=x.i) ⟨_,_,rfl,rfl⟩ ⟨_,_,rfl,rfl⟩ oz oz ?_))))))
 refine xBs [(0,_)] [_] Tryz.underlying78 sz9 zo9 (h:=fun b1=>Zn (ZfP 0 rfl (hv) rfl rfl ZoJ ZoH rfl rfl (ZaV.box 1 rfl) rfl rfl oz (fun l1 p1 c1 hv1=>?_)))
 refine xA (h:=ZQ [(0,_),(1,_),(5,_),(6,_),(7,_),(12,_),(19,_)] [_,_] t7 rfl (ZsT [0] rfl (Ze (xM (h:=Zn (Zeu rfl rfl rfl rfl (by first | exact ZaK oz oz | rfl) ?_))))))
 refine xA (h:=Zz (Zf (Ze (xM (h:=Zn (Zeu rfl rfl rfl rfl (by first | exact ZaK oz oz | rfl) ?_))))))
 refine xA (h:=?_)
 exact ZnM ⟨x.i+1,x.i+1,x.m+1,x.ps ++ [(l.take x.i).drop x.f],p1,c1,l1⟩ (so) ⟨rfl,Nat.le_refl _,so,so,by simp [hm],Zkp hv1,by rw [hc,ZtV hx (ZvS g2),List.append_assoc];simp [ZrV,Znf (Zns x0 _)]⟩ t5 rfl
 try simp only [sQ,ne_eq] at g2
 refine Zi (Zz (Zf (Ze (xM (h:=Zn (Zeu rfl rfl rfl rfl (by first | exact ZaK oz oz | rfl) ?_))))))
 refine xA (h:=?_)
 exact ZnM ⟨x.i+1,x.f,x.m,x.ps,x.q,x.cp,x.s⟩ (so) ⟨rfl,so,so,so,hm,hv,by rw [hc,Zr6 hx (ZvR g2),Zp3,Zo7 hx hf]⟩ t5 rfl
 try simp only [sQ,ne_eq] at g1
 obtain hie:x.i=l.length:=by omega
 rw [hie,List.take_length,List.drop_length] at hc
 refine ZY (Zal (ZnL (ZN (Zf (Za (xM (h:=xM (h:=xM (h:=Zn (ZfM rfl rfl Tryz.underlying9 rfl (a:=x.f) (b:=l.length) ⟨_,_,rfl,rfl⟩ rfl oz oz ?_))))))))))
 refine xBs [(0,_)] [_] Tryz.underlying78 sz9 zo9 (h:=fun b1=>Zn (ZfP 0 rfl (hv) rfl rfl ZoJ ZoH rfl rfl (ZaV.box 1 rfl) rfl rfl oz (fun l2 p2 c2 hv2=>?_)))
 refine xA (h:=ZQ [(0,_),(1,_),(4,_),(5,_),(6,_),(7,_),(12,_)] [_,_] t7 rfl (Zg ?_))
 have he:cut x0 l=x.ps ++ [l.drop x.f]:=by rw [hc];simp [cut,glue]
 have hlen:(cut x0 l).length=x.m+1:=by rw [he];simp [hm]
 exact Zaf .ret (.inl rfl) [_] [0] rfl t1 ⟨rfl,_,rfl,p2,c2,by rw [hlen];rfl,by rw [hlen,he];rw [List.take_length] at hv2;exact Zkp hv2⟩

set_option maxHeartbeats 400000 in
theorem ZkE (l:List UInt8) (hl:l.length≤2000000) (B:Kn):Za1 (pj J) 36 [str l] B (.bool (Zcb l)):=by
 refine Zc 27 Tryz.func36 rfl rfl rfl (Nat.le_of_ble_eq_true rfl) ?_
 refine Za (xA (h:=ZX [(0,_),(2,_)] t2 (Za (xM (h:=Zn (Zsv rfl rfl Zxs rfl (Ztn _ hl 46 _) ?_))))))
 rintro _ s ⟨q,cp,rfl,hv⟩
 refine xA (h:=ZQ [(0,_),(2,_),(3,_)] [_] t3 rfl (Zm (Za (xA (h:=ZX [(0,_),(2,_),(3,_),(4,_)] t4 (Zr (Zkm (α:=Nat) (fun k=>[(0,str l),(3,.slice q (cut 46 l).length cp),(4,.int .i64 k)]) (fun k=>[s]) (fun k Bx=>Bx=B∧k≤(cut 46 l).length∧((cut 46 l).take k).all Zaj=true) (fun k=>(cut 46 l).length - k) 0 t3 rfl (⟨rfl,Nat.zero_le _,by simp⟩) (fun k B1 hle1 hI=>?_))))))))
 obtain ⟨rfl,hk,ha⟩:=hI
 have hcc:=Zln 46 l
 refine Zm (Za (xM (h:=xM (h:=xV Tryz.underlying78 (h:=Zai (h:=ZX [(0,_),(3,_),(4,_),(10,_)] t4 (Zd rfl (fun g1=>?_) (fun g1=>?_))))))))
 try simp only [sQ,ne_eq] at g1
 obtain ⟨y,hy⟩ :∃y,(cut 46 l)[k]? = some y:=⟨_,List.getElem?_eq_getElem oz⟩
 have hyl:=Zmy 46 l y (List.mem_of_getElem? hy)
 obtain ⟨a,rfl,hsp,hat⟩:=hv.at (B:=B1) (L:=[s]) (i:=k) (v:=str y) 0 rfl (by rw [List.getElem?_map,hy];rfl)
 refine Zi (Zf (Zm (Zr (Za (xM (h:=xM (h:=Zn (Za2 rfl rfl Tryz.underlying78 sz9 rfl rfl oz oz ?_))))))))
 refine Zn (Zl rfl rfl lk9 rfl (Zvf hat) (xR ZrZ rfl (ZbT _ oz _) (h:=?_)))
 refine xN (h:=ZX [(0,_),(3,_),(4,_),(10,_),(18,_)] t5 (Zd rfl (fun g2=>?_) (fun g2=>?_)))
 try simp only [sQ,ne_eq] at g2
 refine Za (xA (h:=ZX [(0,_),(2,_),(3,_),(4,_),(10,_),(18,_)] t6 (Zg (ZI (Zs (Zs3 (ZI (Zs ?_))))))))
 exact ZW .ret (.inl rfl) [_] t1 ⟨Zp (by simp [Zcb,Zlt hy g2]),rfl,rfl⟩
 try simp only [sQ,ne_eq] at g2
 refine Zi (Zz (Zf (Ze (xM (h:=Zn (Zeu rfl rfl rfl rfl (by first | exact ZaK oz oz | rfl) ?_))))))
 refine xA (h:=?_)
 exact ZnM (k+1) oz ⟨rfl,oz,ZiA hy g2 ha⟩ t3 rfl
 try simp only [sQ,ne_eq] at g1
 obtain hke:k=(cut 46 l).length:=by omega
 rw [hke,List.take_length] at ha
 refine ZY (Zal (ZnL (ZN (Zf (Za (xM (h:=xV Tryz.underlying78 (h:=ZcB (h:=xM (h:=Zt (d:=22) rfl (fun g3=>?_) (fun g3=>?_)))))))))))
 try simp only [sQ,ne_eq] at g3
 refine xM (h:=xVs Tryz.underlying9 (h:=ZcB (h:=xT (h:=xA (h:=ZX [(0,_),(2,_),(3,_),(4,_),(10,_)] t5 (Zg ?_))))))
 exact ZW .ret (.inl rfl) [_] t1 ⟨Zp (by rw [Bool.eq_iff_iff];simp [Zcb,ha];omega),rfl,rfl⟩
 try simp only [sQ,ne_eq] at g3
 refine xP (h:=xP (h:=xP (h:=xF (h:=xA (h:=ZX [(0,_),(2,_),(3,_),(4,_),(10,_)] t5 (Zg ?_))))))
 exact ZW .ret (.inl rfl) [_] t1 ⟨Zp (by rw [Bool.eq_iff_iff];simp [Zcb,ha];omega),rfl,rfl⟩

set_option maxHeartbeats 400000 in
theorem ZcS (q:Option Addr) (cp:Nat) (us:List DUser) (u:Str) (B:Kn) (hu:SlK B q cp 3 Zh us):Za1 (pj J) 41 [.slice q us.length cp,str u] B (.int .i64 (Zdw us u)):=by
 refine Zc 20 Tryz.func41 rfl rfl rfl (Nat.le_of_ble_eq_true rfl) ?_
 have hun:=hu.len
 refine Za (xA (h:=Zm (Za (xA (h:=Zr (ZU (α:=Nat) [0,1] (fun k=>[(5,.int .i64 k)]) [] (fun k=>[]) (fun k Bx=>Bx=B∧k≤us.length∧∀x,x∈us.take k→x.name≠u) (fun k=>us.length - k) 0 t1 rfl (⟨rfl,Nat.zero_le _,by simp⟩) (fun k B1 hle1 hI=>?_)))))))
 obtain ⟨rfl,hk,ha⟩:=hI
 refine ZQ [(0,_),(1,_),(5,_)] [] t3 rfl (Zm (Za (xM (h:=xM (h:=xV Tryz.underlying23 (h:=Zai (h:=Zd rfl (fun g1=>?_) (fun g1=>?_))))))))
 try simp only [sQ,ne_eq] at g1
 refine Zi (Zf (Zm (Zr (Za (xM (h:=xM (h:=?_)))))))
 obtain ⟨x,hx⟩:=Zax (xs:=us) (i:=k) om
 obtain ⟨bb3,oo3,rfl⟩:=hu.base hx
 obtain ⟨_,⟨rfl,hb4,hb4b⟩,hc4⟩:=hu.elem hx
 refine xIx Tryz.underlying23 ZeY (h:=xW Zc2 (h:=y1 lk9 hc4 0 (h:=xM (h:=ZdT (h:=Zd rfl (fun g2=>?_) (fun g2=>?_))))))
 try simp only [sQ,ne_eq] at g2
 refine Za (xM (h:=xA (h:=Zg (ZI (Zs (Z7 (ZI (Zs ?_))))))))
 exact ZW .ret (.inl rfl) [_] t1 ⟨ZaA (ZrH hx g2 ha).symm,rfl,rfl⟩
 try simp only [sQ,ne_eq] at g2
 refine Zi (Zz (Zf (Ze (xM (h:=xD (h:=xA (h:=?_)))))))
 exact ZE (k+1) [] so2 ⟨rfl,oz,Zbl hx ha g2⟩ t3 rfl
 try simp only [sQ,ne_eq] at g1
 refine ZY (Zal (Z6 (ZN (Zf (Za (xA (h:=Zg ?_)))))))
 exact ZW .ret (.inl rfl) [_] t1 ⟨ZaA (ZpP (ZbD oz ha)).symm,rfl,rfl⟩

set_option maxHeartbeats 400000 in
theorem Znc (q:Option Addr) (cp:Nat) (xs:List Str) (u:Str) (B:Kn) (ha:SlK B q cp 1 Za7 xs):Za1 (pj J) 158 [.slice q xs.length cp,str u] B (.bool (decide (u∈xs))):=by
 refine Zc 18 Tryz.func158 rfl rfl rfl (Nat.le_of_ble_eq_true rfl) ?_
 have han:=ha.len
 refine Za (xA (h:=Zm (Za (xA (h:=Zr (ZU (α:=Nat) [0,1] (fun k=>[(5,.int .i64 k)]) [] (fun k=>[]) (fun k Bx=>Bx=B∧k≤xs.length∧∀x,x∈xs.take k→x≠u) (fun k=>xs.length - k) 0 t1 rfl (⟨rfl,Nat.zero_le _,by simp⟩) (fun k B1 hle1 hI=>?_)))))))
 obtain ⟨rfl,hk,hn⟩:=hI
 refine ZQ [(0,_),(1,_),(5,_)] [] t3 rfl (Zm (Za (xM (h:=xM (h:=xV Tryz.underlying78 (h:=Zai (h:=Zd rfl (fun g1=>?_) (fun g1=>?_))))))))
 try simp only [sQ,ne_eq] at g1
 refine Zi (Zf (Zm (Zr (Za (xM (h:=xM (h:=?_)))))))
 obtain ⟨x,hx⟩:=Zax (xs:=xs) (i:=k) om
 obtain ⟨bb3,oo3,rfl⟩:=ha.base hx
 obtain ⟨_,⟨rfl,hb4⟩,hc4⟩:=ha.elem hx
 refine xIx Tryz.underlying78 sz9 (h:=y1 lk9 hc4 0 (h:=xM (h:=ZdT (h:=Zd rfl (fun g2=>?_) (fun g2=>?_)))))
 try simp only [sQ,ne_eq] at g2
 refine Za (xA (h:=Zg (ZI (Zs (Z7 (ZI (Zs ?_)))))))
 exact ZW .ret (.inl rfl) [_] t1 ⟨Zp (Zxi hx g2),rfl,rfl⟩
 try simp only [sQ,ne_eq] at g2
 refine Zi (Zz (Zf (Ze (xM (h:=xD (h:=xA (h:=?_)))))))
 exact ZE (k+1) [] so2 ⟨rfl,oz,Zbl hx hn g2⟩ t3 rfl
 try simp only [sQ,ne_eq] at g1
 refine ZY (Zal (Z6 (ZN (Zf (Za (xA (h:=Zg ?_)))))))
 exact ZW .ret (.inl rfl) [_] t1 ⟨Zp (Zxj (ZbD oz hn)),rfl,rfl⟩

set_option maxHeartbeats 400000 in
theorem Zoc (q:Option Addr) (cp:Nat) (xs:List Str) (B:Kn) (ha:SlK B q cp 1 Za7 xs):Za1 (pj J) 126 [.slice q xs.length cp] B (.bool (ZcE xs)):=by
 refine Zc 29 Tryz.func126 rfl rfl rfl (Nat.le_of_ble_eq_true rfl) ?_
 have han:=ha.len
 refine Za (xA (h:=Zm (Za (xA (h:=Zr (ZU (α:=Nat) [0] (fun k=>[(3,.int .i64 k)]) [] (fun k=>[]) (fun k Bx=>Bx=B∧k≤xs.length∧(xs.take k).all Zaj=true∧(xs.take k).Nodup) (fun k=>xs.length - k) 0 t1 rfl (⟨rfl,Nat.zero_le _,by simp,by simp⟩) (fun k B1 hle1 hI=>?_)))))))
 obtain ⟨rfl,hk,hv,hn⟩:=hI
 refine ZQ [(0,_),(3,_)] [] t2 rfl (Zm (Za (xM (h:=xM (h:=xV Tryz.underlying78 (h:=Zai (h:=Zd rfl (fun g1=>?_) (fun g1=>?_))))))))
 try simp only [sQ,ne_eq] at g1
 refine Zi (Zf (Zm (Zr (Zm (Z9 (same _ _) mo kr ⟨rfl,rfl⟩ (fun _ _=>?_))))))
 refine aM 0 rfl (h:=aM 1 rfl (h:=?_))
 obtain ⟨x,hx⟩:=Zax (xs:=xs) (i:=k) om
 obtain ⟨bb3,oo3,rfl⟩:=ha.base hx
 obtain ⟨_,⟨rfl,hb4⟩,hc4⟩:=ha.elem hx
 refine aIx 2 rfl Tryz.underlying78 sz9 (h:=aT 3 rfl (Zan fun D=>Zl rfl rfl lk9 rfl (hc4 _ 0 _ rfl) r4) (h:=aT 4 rfl (Zan fun D=>ZaR rfl rfl ZrZ rfl (ZbT _ om2 _) r4) (h:=?_)))
 refine aN 5 rfl (h:=aM 6 rfl (h:=ZaE (d:=16) rfl (fun g2=>?_) (fun g2=>?_)))
 try simp only [sQ,ne_eq] at g2
 refine aZ 7 rfl (h:=aZ 8 rfl (h:=aZ 9 rfl (h:=aZ 10 rfl (h:=aZ 11 rfl (h:=aZ 12 rfl (h:=aZ 13 rfl (h:=aZ 14 rfl (h:=aPT 15 rfl (h:=ZD kr kr ?_)))))))))
 refine Zf (Zd (t:=true) rfl (fun _=>Za (xA (h:=Zg (ZI (Zs (Z7 (ZI (Zs ?_)))))))) (fun h=>Bool.noConfusion h))
 exact ZW .ret (.inl rfl) [_] t1 ⟨Zp (ZgP hx g2),rfl,rfl⟩
 try simp only [sQ,ne_eq] at g2
 refine aM 7 rfl (h:=aM 8 rfl (h:=?_))
 obtain ⟨hq6,q6,cp6,hv6,hr6⟩:=ha.cutE 0 k om om
 have hr6n:=hr6.len
 refine aT 9 rfl (Zan fun D=>ZgH (a:=0) (b:=k) hv6 om hq6 rfl rfl Tryz.underlying78 sz9 rfl rfl ⟨_,_,rfl,by first | omega | (simp;done) | (simp;omega)⟩ r4) (h:=?_)
 refine aM 10 rfl (h:=aM 11 rfl (h:=aIx 12 rfl Tryz.underlying78 sz9 (h:=aT 13 rfl (Zan fun D=>Zl rfl rfl lk9 rfl (hc4 _ 0 _ rfl) r4) (h:=aT 14 rfl (Zan fun D=>ZaR rfl rfl Zu5 rfl (Znc _ _ _ _ _ hr6) r4) (h:=aPF 15 rfl (h:=ZD kr kr ?_))))))
 refine Zf (Zd rfl (fun g3=>?_) (fun g3=>?_))
 try simp only [sQ,ne_eq] at g3
 refine Za (xA (h:=Zg (ZI (Zs (Z7 (ZI (Zs ?_)))))))
 exact ZW .ret (.inl rfl) [_] t1 ⟨Zp (ZgO hx (by simpa using g3)),rfl,rfl⟩
 try simp only [sQ,ne_eq] at g3
 refine Zi (Zz (Zf (Ze (xM (h:=xD (h:=xA (h:=?_)))))))
 exact ZE (k+1) [] so2 ⟨rfl,oz,ZiA hx g2 hv,Zpw hx hn (by simpa using g3)⟩ t2 rfl
 try simp only [sQ,ne_eq] at g1
 refine ZY (Zal (Z6 (ZN (Zf (Za (xM (h:=xV Tryz.underlying78 (h:=ZcB (h:=xA (h:=Zg ?_))))))))))
 exact ZW .ret (.inl rfl) [_] t1 ⟨Zp (ZhN oz hv hn),rfl,rfl⟩

set_option maxHeartbeats 400000 in
theorem Zew (q:Option Addr) (cp:Nat) (x:DLetter) (B:Kn) (ha:SlK B q cp 1 Za7 x.to_) (h1:x.fr.length≤2000000) (h2:x.text.length≤2000000):Za1 (pj J) 79 [.agg #[str x.fr,.slice q x.to_.length cp,str x.text]] B (.bool (ZaL x)):=by
 refine Zc 23 Tryz.func79 rfl rfl rfl (Nat.le_of_ble_eq_true rfl) ?_
 refine Za (xBx [_,_,_] (h:=fun b1=>xA (h:=Zw [_] rfl (Za (xW Zih (h:=x1 lk9 0 (h:=xR ZrZ rfl (ZbT _ om2 _) (h:=?_))))))))
 refine xM (h:=Zt (d:=6) rfl (fun g1=>?_) (fun g1=>?_))
 try simp only [sQ,ne_eq] at g1
 refine xW Zig (h:=x1 Zhc 0 (h:=xR ZwI rfl (Zoc _ _ _ _ ha) (h:=xT (h:=xM (h:=Zt (d:=11) rfl (fun g2=>?_) (fun g2=>?_))))))
 try simp only [sQ,ne_eq] at g2
 refine xW Zig (h:=x1 Zhc 0 (h:=xV Tryz.underlying78 (h:=ZbA (h:=xT (h:=xM (h:=Zt (d:=17) rfl (fun g3=>?_) (fun g3=>?_)))))))
 try simp only [sQ,ne_eq] at g3
 refine xW Zmu (h:=x1 lk9 0 (h:=xVs Tryz.underlying9 (h:=ZcB (h:=xT (h:=xA (h:=Zg ?_))))))
 exact ZW .ret (.inl rfl) [_] t1 ⟨Zp (by rw [Bool.eq_iff_iff];simp [ZaL,g1,g2,g3];try omega),rfl,rfl⟩
 try simp only [sQ,ne_eq] at g3
 refine xP (h:=xP (h:=xP (h:=xP (h:=xF (h:=xA (h:=Zg ?_))))))
 exact ZW .ret (.inl rfl) [_] t1 ⟨Zp (by rw [Bool.eq_iff_iff];simp [ZaL,g1,g2,g3];try omega),rfl,rfl⟩
 try simp only [sQ,ne_eq] at g2
 refine xP (h:=xP (h:=xP (h:=xP (h:=xF (h:=xM (h:=xP (h:=xP (h:=xP (h:=xP (h:=xF (h:=xA (h:=Zg ?_))))))))))))
 exact ZW .ret (.inl rfl) [_] t1 ⟨Zp (by rw [Bool.eq_iff_iff];simp [ZaL,g1,g2];try omega),rfl,rfl⟩
 try simp only [sQ,ne_eq] at g1
 refine xP (h:=xP (h:=xP (h:=xF (h:=xM (h:=xP (h:=xP (h:=xP (h:=xP (h:=xF (h:=xM (h:=xP (h:=xP (h:=?_)))))))))))))
 refine xP (h:=xP (h:=xF (h:=xA (h:=Zg ?_))))
 exact ZW .ret (.inl rfl) [_] t1 ⟨Zp (by rw [Bool.eq_iff_iff];simp [ZaL,g1];try omega),rfl,rfl⟩

set_option maxHeartbeats 400000 in
theorem Ztt (q:Option Addr) (cp:Nat) (xs:List Str) (v:Str) (B:Kn) (ha:SlK B q cp 1 Za7 xs):Za1 (pj J) 165 [.slice q xs.length cp,str v] B (.int .i64 (Zv5 xs v)):=by
 refine Zc 19 Tryz.func165 rfl rfl rfl (Nat.le_of_ble_eq_true rfl) ?_
 have han:=ha.len
 refine Za (xA (h:=Zm (Za (xM (h:=xV Tryz.underlying78 (h:=xM (h:=Zr (ZU (α:=Nat) [0,1,7] (fun k=>[(8,.int .i64 k)]) [] (fun k=>[]) (fun k Bx=>Bx=B∧k≤xs.length∧∀x,x∈xs.take k→decide (x=v)=false) (fun k=>xs.length - k) 0 t1 rfl (⟨rfl,Nat.zero_le _,by simp⟩) (fun k B1 hle1 hI=>?_)))))))))
 obtain ⟨rfl,hk,hn⟩:=hI
 refine ZQ [(0,_),(1,_),(7,_),(8,_)] [] t4 rfl (Za (Zai (h:=Zm (Zd rfl (fun g1=>?_) (fun g1=>?_)))))
 try simp only [sQ,ne_eq] at g1
 refine Zi (Zf (Zm (Zr (Za (xM (h:=xA (h:=Za (xM (h:=xM (h:=xM (h:=?_)))))))))))
 obtain ⟨x,hx⟩:=Zax (xs:=xs) (i:=k) om
 obtain ⟨bb3,oo3,rfl⟩:=ha.base hx
 obtain ⟨_,⟨rfl,hb4⟩,hc4⟩:=ha.elem hx
 refine xIx Tryz.underlying78 sz9 (h:=y1 lk9 hc4 0 (h:=ZdT (h:=Zd rfl (fun g2=>?_) (fun g2=>?_))))
 try simp only [sQ,ne_eq] at g2
 refine Za (xM (h:=xA (h:=Zg (ZI (Zs (Z7 (ZI (Zs ?_))))))))
 exact ZW .ret (.inl rfl) [_] t1 ⟨ZaA (Zhf hx (by simp [g2]) hn).symm,rfl,rfl⟩
 try simp only [sQ,ne_eq] at g2
 refine Zi (Zz (Zf (Ze (xD (h:=xM (h:=?_))))))
 exact ZE (k+1) [] so2 ⟨rfl,oz,Zbl hx hn (by simp [Ne.symm g2])⟩ t4 rfl
 try simp only [sQ,ne_eq] at g1
 refine ZY (Zal (Z6 (ZN (Zf (Za (xA (h:=Zg ?_)))))))
 exact ZW .ret (.inl rfl) [_] t1 ⟨ZaA (ZeJ (ZbD oz hn)).symm,rfl,rfl⟩

set_option maxHeartbeats 400000 in
theorem Zow (q:Option Addr) (cp:Nat) (xs:List Str) (v:Str) (B:Kn) (ha:SlK B q cp 1 Za7 xs):Za1 (pj J) 145 [.slice q xs.length cp,str v] B (.bool (decide (v∈xs))):=by
 refine Zc 9 Tryz.func145 rfl rfl rfl (Nat.le_of_ble_eq_true rfl) ?_
 refine Za (xA (h:=Za (xM (h:=xM (h:=xR Zwn rfl (Ztt _ _ _ _ _ ha) (h:=ZdS (h:=xA (h:=Zg ?_))))))))
 exact ZW .ret (.inl rfl) [_] t1 ⟨Zp (by rw [Bool.eq_iff_iff];simp [ZrI]),rfl,rfl⟩

set_option maxHeartbeats 400000 in
theorem Zl4 (q:Option Addr) (cp:Nat) (xs:List Str) (B:Kn) (ha:SlK B q cp 1 Za7 xs):Za1 (pj J) 100 [.slice q xs.length cp] B (.bool (decide (1≤xs.length) && ZcE xs)):=by
 refine Zc 31 Tryz.func100 rfl rfl rfl (Nat.le_of_ble_eq_true rfl) ?_
 have han:=ha.len
 refine Za (xA (h:=Zm (Za (xM (h:=xV Tryz.underlying78 (h:=Zai (h:=xM (h:=Zt (d:=8) rfl (fun g1=>?_) (fun g1=>?_)))))))))
 try simp only [sQ,ne_eq] at g1
 refine xP (h:=xP (h:=xP (h:=xT (h:=Zd (t:=true) rfl (fun _=>Za (xA (h:=Zg (Zs ?_)))) (fun h=>Bool.noConfusion h)))))
 exact ZW .ret (.inl rfl) [_] t1 ⟨Zp (by simp;omega),rfl,rfl⟩
 try simp only [sQ,ne_eq] at g1
 refine xM (h:=xV Tryz.underlying78 (h:=ZbA (h:=xF (h:=Zd rfl (fun g2=>?_) (fun g2=>?_)))))
 try simp only [sQ,ne_eq] at g2
 refine Za (xA (h:=Zg (Zs ?_)))
 exact ZW .ret (.inl rfl) [_] t1 ⟨Zp (by simp [ZcE];omega),rfl,rfl⟩
 try simp only [sQ,ne_eq] at g2
 refine Zi (Zf (Zm (Za (xM (h:=xV Tryz.underlying78 (h:=xM (h:=Zr (ZU (α:=Nat) [0,12,13,14] (fun k=>[(15,.int .i64 k)]) [] (fun k=>[]) (fun k Bx=>Bx=B∧k≤xs.length∧(xs.take k).all Zaj=true∧(xs.take k).Nodup) (fun k=>xs.length - k) 0 t1 rfl (⟨rfl,Nat.zero_le _,by simp,by simp⟩) (fun k B1 hle1 hI=>?_)))))))))
 obtain ⟨rfl,hk,hv,hn⟩:=hI
 refine ZQ [(0,_),(12,_),(13,_),(14,_),(15,_)] [] t5 rfl (Za (Zai (h:=Zm (Zd rfl (fun g3=>?_) (fun g3=>?_)))))
 try simp only [sQ,ne_eq] at g3
 refine Zi (Zf (Zm (Zr (Za (xM (h:=?_))))))
 obtain ⟨x,hx⟩:=Zax (xs:=xs) (i:=k) om
 obtain ⟨bb3,oo3,rfl⟩:=ha.base hx
 obtain ⟨_,⟨rfl,hb4⟩,hc4⟩:=ha.elem hx
 refine xIx Tryz.underlying78 sz9 (h:=y1 lk9 hc4 0 (h:=xA (h:=xA (h:=Za (xM (h:=xR ZsH rfl (Zci _ om2 _) (h:=?_)))))))
 refine xN (h:=xM (h:=Zt (d:=23) rfl (fun g4=>?_) (fun g4=>?_)))
 try simp only [sQ,ne_eq] at g4
 refine xP (h:=xP (h:=xP (h:=xP (h:=xP (h:=xT (h:=Zd (t:=true) rfl (fun _=>Za (xA (h:=Zg (ZI (Zs (Z7 (ZI (Zs ?_)))))))) (fun h=>Bool.noConfusion h)))))))
 exact ZW .ret (.inl rfl) [_] t1 ⟨Zp (by rw [← ZgP hx g4,Bool.and_false]),rfl,rfl⟩
 try simp only [sQ,ne_eq] at g4
 refine xM (h:=xM (h:=?_))
 obtain ⟨hq6,q6,cp6,hv6,hr6⟩:=ha.cutE 0 k om om
 have hr6n:=hr6.len
 refine Zn (ZgH (a:=0) (b:=k) hv6 om hq6 rfl rfl Tryz.underlying78 sz9 rfl rfl ⟨_,_,rfl,by first | omega | (simp;done) | (simp;omega)⟩ ?_)
 refine xM (h:=xR Zwv rfl (Zow _ _ _ _ _ hr6) (h:=xF (h:=Zd rfl (fun g5=>?_) (fun g5=>?_))))
 try simp only [sQ,ne_eq] at g5
 refine Za (xA (h:=Zg (ZI (Zs (Z7 (ZI (Zs ?_)))))))
 exact ZW .ret (.inl rfl) [_] t1 ⟨Zp (by rw [← ZgO hx (by simpa using g5),Bool.and_false]),rfl,rfl⟩
 try simp only [sQ,ne_eq] at g5
 refine Zi (Zz (Zf (Ze (xD (h:=xM (h:=?_))))))
 exact ZE (k+1) [] so2 ⟨rfl,oz,ZiA hx g4 hv,Zpw hx hn (by simpa using g5)⟩ t5 rfl
 try simp only [sQ,ne_eq] at g3
 refine ZY (Zal (Z6 (ZN (Zf (Za (xA (h:=Zg ?_)))))))
 exact ZW .ret (.inl rfl) [_] t1 ⟨Zp (by rw [← ZhN oz hv hn];simp;omega),rfl,rfl⟩

set_option maxHeartbeats 400000 in
theorem Zk5 (q:Option Addr) (cp:Nat) (x:DLetter) (B:Kn) (ha:SlK B q cp 1 Za7 x.to_) (h1:x.fr.length≤2000000) (h2:x.text.length≤2000000):Za1 (pj J) 60 [.agg #[str x.fr,.slice q x.to_.length cp,str x.text]] B (.bool (ZaL x)):=by
 refine Zc 17 Tryz.func60 rfl rfl rfl (Nat.le_of_ble_eq_true rfl) ?_
 refine Za (xBx [_,_,_] (h:=fun b1=>xA (h:=Zw [_] rfl (Za (xW Zih (h:=x1 lk9 0 (h:=xR ZsH rfl (Zci _ om2 _) (h:=?_))))))))
 refine xM (h:=Zt (d:=6) rfl (fun g1=>?_) (fun g1=>?_))
 try simp only [sQ,ne_eq] at g1
 refine xW Zig (h:=x1 Zhc 0 (h:=xR ZwP rfl (Zl4 _ _ _ _ ha) (h:=xT (h:=xM (h:=Zt (d:=11) rfl (fun g2=>?_) (fun g2=>?_))))))
 try simp only [sQ,ne_eq] at g2
 refine xW Zmu (h:=x1 lk9 0 (h:=xVs Tryz.underlying9 (h:=ZcB (h:=xT (h:=xA (h:=Zg ?_))))))
 exact ZW .ret (.inl rfl) [_] t1 ⟨Zp (by rw [ZeF];simp [g1,g2]),rfl,rfl⟩
 try simp only [sQ,ne_eq] at g2
 refine xP (h:=xP (h:=xP (h:=xP (h:=xF (h:=xA (h:=Zg ?_))))))
 exact ZW .ret (.inl rfl) [_] t1 ⟨Zp (by rw [ZeF];simp [g1,g2]),rfl,rfl⟩
 try simp only [sQ,ne_eq] at g1
 refine xP (h:=xP (h:=xP (h:=xF (h:=xM (h:=xP (h:=xP (h:=xP (h:=xP (h:=xF (h:=xA (h:=Zg ?_)))))))))))
 exact ZW .ret (.inl rfl) [_] t1 ⟨Zp (by rw [ZeF];simp [g1]),rfl,rfl⟩

set_option maxHeartbeats 400000 in
theorem Zmf (b:Nat) (q:Option Addr) (m cp p:Nat) (hp:p≤900000000000) (hm:m≤2000) (B:Kn) (hbm:Zak B q m):Ex1 (pj J) 48 [ptr ⟨b,0,none⟩] B (rd b q m cp p) (fun v s=>∃x:Str,v=str x∧x.length≤40∧s=rd b q m cp (p+2)):=by
 refine Zc 12 Tryz.func48 rfl rfl rfl (Nat.le_of_ble_eq_true rfl) ?_
 refine Za (xA (h:=Zm (Za (xM (h:=xX 0 rfl Za0 rfl (ZL _ _ _ _ _ _ oz oz oz hm _ hbm) (h:=?_))))))
 rintro _ _ ⟨r1,rfl,r1a,r1b,rfl⟩
 refine ZF (h:=Zw [_] rfl (Zd rfl (fun g1=>?_) (fun g1=>?_)))
 try simp only [sQ,ne_eq] at g1
 refine Za (xM (h:=xBs [(0,_),(1,_),(2,_),(3,_),(4,_),(5,_),(6,_),(7,_),(8,_)] [_,_,_,_,_,_,_,_,_] Tryz.underlying78 sz9 zo9 (h:=fun b2=>Zn (Z8 [0,1] rfl rfl rfl rfl Zno rfl (Zpq _ _ _ _ _ _ ([[],[46],[97,46,46,98],[97,46,98,46,99,46,100],[97,46,98,46,99],[97,98,99,100,101,102,103,104,46,97,98,99,100,101,102,103,104,46,97,98,99],[97,98,99,100,101,102,103,104,46,97,98,99,100,101,102,103,104,46,97,98],[104,111,115,116,46],[72,111,115,116,46,111,114,103]]:List Str) oz (by decide) (by decide) hm _ hbm) ?_))))
 rintro _ B3 _ hle3 ⟨rfl,x3,hx3,rfl,rfl⟩
 replace hx3:=(show∀y∈( ([[],[46],[97,46,46,98],[97,46,98,46,99,46,100],[97,46,98,46,99],[97,98,99,100,101,102,103,104,46,97,98,99,100,101,102,103,104,46,97,98,99],[97,98,99,100,101,102,103,104,46,97,98,99,100,101,102,103,104,46,97,98],[104,111,115,116,46],[72,111,115,116,46,111,114,103]]:List Str):List Str),y.length≤40 from by decide) _ hx3
 refine xA (h:=Zw [_,_] rfl (Zg (Zs ?_)))
 exact ZfE .ret (.inl rfl) [_] 0 rfl t1 ⟨rfl,_,rfl,_,rfl,hx3,rfl⟩
 try simp only [sQ,ne_eq] at g1
 refine Zi (Zf (Za (xM (h:=xBs [(0,_),(1,_),(2,_),(3,_)] [_,_,_,_] Tryz.underlying78 sz9 zo9 (h:=fun b4=>Zn (Z8 [0,1] rfl rfl rfl rfl Zno rfl (Zpq _ _ _ _ _ _ ([[104,111,115,116,46,111,114,103],[104,111,115,116],[97,46,98,46,99],[111,116,104,101,114,46,110,101,116]]:List Str) oz (by decide) (by decide) hm _ hbm) ?_))))))
 rintro _ B5 _ hle5 ⟨rfl,x5,hx5,rfl,rfl⟩
 replace hx5:=(show∀y∈( ([[104,111,115,116,46,111,114,103],[104,111,115,116],[97,46,98,46,99],[111,116,104,101,114,46,110,101,116]]:List Str):List Str),y.length≤40 from by decide) _ hx5
 refine xA (h:=Zw [_,_] rfl (Zg ?_))
 exact ZfE .ret (.inl rfl) [_] 0 rfl t1 ⟨rfl,_,rfl,_,rfl,hx5,rfl⟩

set_option maxHeartbeats 400000 in
theorem Zfp (aq:Option Addr) (cq:Nat) (q:DQueue) (B:Kn) (hq:SlK B aq cq 4 Zj q.items):Za1 (pj J) 38 [.agg #[.int .i64 q.next,.slice aq q.items.length cq]] B (.bool (Zab q)):=by
 refine Zc 48 Tryz.func38 rfl rfl rfl (Nat.le_of_ble_eq_true rfl) ?_
 have hqn:=hq.len
 refine Za (xBx [_,_] (h:=fun b1=>xA (h:=Zw [_] rfl (Za (xA (h:=Zm (Za (xA (h:=Zr (ZU (α:=Nat × Int) [0,1] (fun p=>[(3,.int .i64 p.2),(4,.int .i64 p.1)]) [] (fun p=>[]) (fun p Bx=>Bx=B∧p.1≤q.items.length∧ZcO 0 q.items=ZcO p.2 (q.items.drop p.1)∧0≤p.2∧p.2≤99) (fun p=>q.items.length - p.1) (0,0) t2 rfl (⟨rfl,Nat.zero_le _,rfl,by decide,by decide⟩) (fun p B2 hle2 hI=>?_)))))))))))
 obtain ⟨rfl,hk,hs,hl0,hl1⟩:=hI
 refine ZQ [(0,_),(1,_),(3,_),(4,_)] [_] t4 rfl (Zm (Za (xM (h:=xW ZaI (h:=x1 Zfz 0 (h:=xV Tryz.underlying25 (h:=Zai (h:=Zd rfl (fun g1=>?_) (fun g1=>?_)))))))))
 try simp only [sQ,ne_eq] at g1
 refine Zi (Zf (Zm (Zr (Za (xW ZaI (h:=x1 Zfz 0 (h:=xM (h:=?_))))))))
 obtain ⟨x,hx⟩:=Zax (xs:=q.items) (i:=p.1) om
 obtain ⟨bb4,oo4,rfl⟩:=hq.base hx
 obtain ⟨_,⟨qi5,ci5,rfl,hi5,hb5,hb5b⟩,hc5⟩:=hq.elem hx
 have hi5n:=hi5.len
 refine xIx Tryz.underlying25 Zer (h:=?_)
 replace hs:=Zpk hs hx
 refine yL [_,_,_,_] ZlF hc5 0 (h:=xAl [_,_,_,_] ZiD (h:=fun b6=>xS [_,_,_,_] 1 [_,_,_,_] Zer (h:=Zw [_,_] rfl (Zm (Za (xW ZeM (h:=x1 lk3 1 (h:=xM (h:=xD (h:=xR Zjt rfl (Zch _ _ _ _) (h:=xN (h:=xM (h:=?_)))))))))))))
 refine Zt (d:=24) rfl (fun g2=>?_) (fun g2=>?_)
 try simp only [sQ,ne_eq] at g2
 refine xP (h:=xP (h:=xP (h:=xP (h:=xP (h:=xP (h:=xP (h:=xP (h:=xP (h:=xT (h:=Zd (t:=true) rfl (fun _=>Za (xA (h:=?_))) (fun h=>Bool.noConfusion h)))))))))))
 refine Zg (Zs (ZI (Zs (Z7 (ZI (Zs ?_))))))
 exact ZW .ret (.inl rfl) [_] t1 ⟨Zp (Zm2 (by rw [hs,if_neg];intro h;simp [h.1] at g2)),rfl,rfl⟩
 try simp only [sQ,ne_eq] at g2
 simp only [Bool.and_eq_true,decide_eq_true_eq] at g2
 refine xW Zni (h:=x1 lk9 1 (h:=xW ZbG (h:=x1 Zhc 1 (h:=xW Zp6 (h:=x1 lk9 1 (h:=xB [(0,_),(1,_),(2,_)] [_,_,_] [_,_,_] Zri Znz (h:=xR Zwd rfl (Zew _ _ ⟨x.fr,x.left,x.text⟩ _ hi5 oa oa) (h:=?_))))))))
 refine xN (h:=xF (h:=Zd rfl (fun g3=>?_) (fun g3=>?_)))
 try simp only [sQ,ne_eq] at g3
 refine Za (xA (h:=Zg (Zs (ZI (Zs (Z7 (ZI (Zs ?_))))))))
 exact ZW .ret (.inl rfl) [_] t1 ⟨Zp (Zm2 (by rw [hs,if_neg];intro h;rw [Zcw,g3] at h;cases h.2)),rfl,rfl⟩
 try simp only [sQ,ne_eq] at g3
 refine Zi (Zf (Ze (xW ZeM (h:=x1 lk3 1 (h:=xA (h:=Zz (Zf (Ze (xM (h:=xD (h:=xA (h:=?_))))))))))))
 exact ZE (p.1+1,x.id) [0] so2 ⟨rfl,so,by rw [hs,if_pos ⟨g2,g3⟩],so,so⟩ t4 rfl
 try simp only [sQ,ne_eq] at g1
 rw [Zqq oz,ZcO] at hs
 refine ZY (Zal (Z6 (ZN (Zf (Za (xW ZeN (h:=x1 lk3 0 (h:=xM (h:=xD (h:=xR Zjt rfl (Zch _ _ _ _) (h:=xM (h:=Zt (d:=42) rfl (fun g1=>?_) (fun g1=>?_)))))))))))))
 try simp only [sQ,ne_eq] at g1
 refine xW ZaI (h:=x1 Zfz 0 (h:=xV Tryz.underlying25 (h:=ZcB (h:=xT (h:=xA (h:=Zg ?_))))))
 exact ZW .ret (.inl rfl) [_] t1 ⟨Zp (by rw [← Zm1 hs,Bool.eq_iff_iff];simp [g1,g1];try omega),rfl,rfl⟩
 try simp only [sQ,ne_eq] at g1
 refine xP (h:=xP (h:=xP (h:=xP (h:=xF (h:=xA (h:=Zg ?_))))))
 exact ZW .ret (.inl rfl) [_] t1 ⟨Zp (by rw [← Zm1 hs,Bool.eq_iff_iff];simp [g1,g1];try omega),rfl,rfl⟩

set_option maxHeartbeats 400000 in
theorem ZrB (l:Str) (n:Nat) (hl:l.length*n≤100000) (hn:n≤100000) (hl2:l.length≤100000) (B:Kn):Za1 (pj J) 134 [str l,.int .i64 n] B (str (rep l n)):=by
 refine Zc 20 Tryz.func134 rfl rfl rfl (Nat.le_of_ble_eq_true rfl) ?_
 refine Za (xA (h:=Za (xA (h:=Zm (Zr (ZU (α:=Str × Str × Nat) [4] (fun p=>[(0,str p.1),(1,.int .i64 p.2.2),(5,str p.2.1)]) [] (fun p=>[]) (fun p Bx=>Bx=B∧rep l n=p.2.1 ++ rep p.1 p.2.2∧p.2.2≤n∧p.1.length≤200000∧p.2.1.length≤100000∧(0<p.2.2→p.1.length≤100000)) (fun p=>p.2.2) (l,[],n) t3 rfl (⟨rfl,rfl,Nat.le_refl _,so,by simp,fun _=>hl2⟩) (fun p B1 hle1 hI=>?_)))))))
 obtain ⟨rfl,hr,h1,h2,h3,h4⟩:=hI
 have hrl:=congrArg List.length hr
 rw [List.length_append,ZjK,ZjK,Nat.mul_comm] at hrl
 refine ZQ [(0,_),(1,_),(4,_),(5,_)] [] t4 rfl (Zm (Za (xM (h:=ZbA (h:=Zd rfl (fun g1=>?_) (fun g1=>?_))))))
 try simp only [sQ,ne_eq] at g1
 have hp0:0<p.2.2:=by omega
 replace h4:=h4 hp0
 have hm1:=Nat.le_mul_of_pos_left p.1.length hp0
 have e1:Int.tdiv (p.2.2:Int) 2=((p.2.2 / 2:Nat):Int):=by rw [Int.tdiv_eq_ediv_of_nonneg oz];omega
 have e2:Int.tmod (p.2.2:Int) 2=((p.2.2 % 2:Nat):Int):=by rw [Int.tmod_eq_emod_of_nonneg oz];omega
 refine Zi (Zf (Zr (Zm (Za (xM (h:=Zn (ZfN rfl rfl rfl rfl oz rfl ?_)))))))
 refine ZF (h:=Zd rfl (fun g2=>?_) (fun g2=>?_))
 try simp only [sQ,ne_eq] at g2
 rw [e2] at g2
 have hro:=Zs4 p.1 p.2.2 oz
 have hol:=ZjK (p.1 ++ p.1) (p.2.2 / 2)
 refine Ze (xM (h:=xM (h:=Zn (ZsU rfl rfl rfl rfl (by first | omega | (simp;omega)) ?_))))
 refine xA (h:=Zf (Za (xM (h:=xM (h:=Zn (ZsU rfl rfl rfl rfl (by first | omega | (simp;omega)) ?_))))))
 refine xA (h:=Ze (xM (h:=Zn (Zfj rfl rfl rfl rfl oz (by first | exact ZaK om om | rfl) ?_))))
 refine xA (h:=Zz ?_)
 exact ZE (p.1 ++ p.1,p.2.1 ++ p.1,p.2.2 / 2) [] so2 ⟨rfl,by rw [hr,hro,List.append_assoc],so,by simp only [List.length_append];omega,by simp only [List.length_append];omega,fun h=>by simp only [List.length_append] at h ⊢;have:=Nat.mul_le_mul_right p.1.length (show 2≤p.2.2 by omega);omega⟩ t4 rfl
 try simp only [sQ,ne_eq] at g2
 rw [e2] at g2
 have hro:=Zrb p.1 p.2.2 oz
 refine Zi (Zf (Za (xM (h:=xM (h:=Zn (ZsU rfl rfl rfl rfl (by first | omega | (simp;omega)) ?_))))))
 refine xA (h:=Ze (xM (h:=Zn (Zfj rfl rfl rfl rfl oz (by first | exact ZaK om om | rfl) ?_))))
 refine xA (h:=Zz ?_)
 exact ZE (p.1 ++ p.1,p.2.1,p.2.2 / 2) [] so2 ⟨rfl,by rw [hr,hro],so,by simp only [List.length_append];omega,h3,fun h=>by simp only [List.length_append] at h ⊢;have:=Nat.mul_le_mul_right p.1.length (show 2≤p.2.2 by omega);omega⟩ t4 rfl
 try simp only [sQ,ne_eq] at g1
 refine ZY (Zal (Z6 (ZN (Zf (Za (xM (h:=xA (h:=Zg ?_))))))))
 exact ZW .ret (.inl rfl) [_] t1 ⟨ZuC (by rw [hr,show p.2.2=0 from by omega];simp [rep]),rfl,rfl⟩

set_option maxHeartbeats 400000 in
theorem ZeG (b:Nat) (q:Option Addr) (m cp p:Nat) (hp:p≤900000000000) (hm:m≤2000) (B:Kn) (hbm:Zak B q m):Ex1 (pj J) 92 [ptr ⟨b,0,none⟩] B (rd b q m cp p) (fun v s=>∃x:Str,v=str x∧x.length≤40∧s=rd b q m cp (p+2)):=by
 refine Zc 13 Tryz.func92 rfl rfl rfl (Nat.le_of_ble_eq_true rfl) ?_
 refine Za (xA (h:=Zm (Za (xM (h:=xX 0 rfl Za0 rfl (ZL _ _ _ _ _ _ oz oz oz hm _ hbm) (h:=?_))))))
 rintro _ _ ⟨r1,rfl,r1a,r1b,rfl⟩
 refine ZF (h:=Zw [_] rfl (Zd rfl (fun g1=>?_) (fun g1=>?_)))
 try simp only [sQ,ne_eq] at g1
 refine Za (xM (h:=xX 0 rfl Za0 rfl (ZL _ _ _ _ _ _ oz oz oz hm _ hbm) (h:=?_)))
 rintro _ _ ⟨ra,rfl,raa,rab,rfl⟩
 refine xD (h:=?_)
 obtain ⟨n3,hn3⟩:=Int.eq_ofNat_of_zero_le (show 0≤19+ra by omega)
 rw [hn3]
 refine xR ZwF rfl (ZrB [120] n3 (by simp;omega) oz (by decide) _) (h:=?_)
 refine xA (h:=Zw [_] rfl (Zg (Zs ?_)))
 exact ZfE .ret (.inl rfl) [_] 0 rfl t1 ⟨rfl,_,rfl,_,rfl,by rw [ZjK];simp;omega,rfl⟩
 try simp only [sQ,ne_eq] at g1
 refine Zi (Zf (Za (xM (h:=xBs [(0,_),(1,_),(2,_),(3,_),(4,_),(5,_)] [_,_,_,_,_,_] Tryz.underlying78 sz9 zo9 (h:=fun b4=>Zn (Z8 [0,1] rfl rfl rfl rfl Zno rfl (Zpq _ _ _ _ _ _ ([[],[104,101,108,108,111],[97,109,121,32,97,110,100,32,98,111,98],[120],[98,111,120,49,32,111,114,32,120],[116,111,32,98,111,98]]:List Str) oz (by decide) (by decide) hm _ hbm) ?_))))))
 rintro _ B5 _ hle5 ⟨rfl,x5,hx5,rfl,rfl⟩
 replace hx5:=(show∀y∈( ([[],[104,101,108,108,111],[97,109,121,32,97,110,100,32,98,111,98],[120],[98,111,120,49,32,111,114,32,120],[116,111,32,98,111,98]]:List Str):List Str),y.length≤40 from by decide) _ hx5
 refine xA (h:=Zw [_,_] rfl (Zg ?_))
 exact ZfE .ret (.inl rfl) [_] 0 rfl t1 ⟨rfl,_,rfl,_,rfl,hx5,rfl⟩

set_option maxHeartbeats 400000 in
theorem Ztl (b:Nat) (q:Option Addr) (m cp p:Nat) (hp:p≤900000000000) (hm:m≤2000) (B:Kn) (hbm:Zak B q m):ZM (pj J) 135 [ptr ⟨b,0,none⟩] B [rd b q m cp p] (fun v B' Ls=>∃q' cp' xs p',v = .slice q' xs.length cp'∧SlK B' q' cp' 1 Za7 xs∧xs.length≤6∧p'≤p+6∧Ls=[rd b q m cp p']):=by
 refine Zc 53 Tryz.func135 rfl rfl rfl (Nat.le_of_ble_eq_true rfl) ?_
 refine Za (xA (h:=Za (xBs [] [] Tryz.underlying78 sz9 zo9 (h:=fun b1=>xA (h:=Zw [_,_] rfl (Za (xBs [(0,_),(1,_),(2,_),(3,_)] [_,_,_,_] Tryz.underlying78 sz9 zo9 (h:=fun b2=>xA (h:=Zw [_,_,_] rfl (ZdA 2 rfl (Z3.strs (ls:=([[97,109,121],[98,111,98],[99,121,100],[100,97,110]]:List Str)) (by first | decide | (simp;done) | (simp;omega))) Za7.mono om3 (fun B3 hle3 hr3=>?_)))))))))))
 replace hbm:=hbm.mono hle3
 have hr3n:=hr3.len
 refine Zm (Za (xA (h:=Zw [_,_,_] rfl (Zr (ZU (α:=Gh Str) [0,2,4] (fun x=>[(3,.slice x.a x.xs.length x.c),(5,.int .i64 x.k)]) [0,1] (fun x=>[rd b q m cp x.p,x.l]) (fun x Bx=>Bx=B3∧x.k≤3∧x.xs.length≤x.k∧x.p≤p+x.k∧Z3 Bx x.l x.a x.c 9 1 Za7 x.xs) (fun x=>3 - x.k) ⟨0,p,_,_,_,[]⟩ t2 rfl (⟨rfl,Nat.zero_le _,Nat.le_refl _,Nat.le_refl _,.lit0⟩) (fun x B4 hle4 hI=>?_))))))
 obtain ⟨rfl,hk,hxk,hxp,hv⟩:=hI
 refine ZQ [(0,_),(2,_),(3,_),(4,_),(5,_)] [_,_,_] t5 rfl (Zm (Za (xM (h:=Zai (h:=Zd rfl (fun g1=>?_) (fun g1=>?_))))))
 try simp only [sQ,ne_eq] at g1
 refine Zi (Zf (Zm (Zr (Za (xM (h:=xX 0 rfl Za0 rfl (ZL _ _ _ _ _ _ oz oz oz hm _ hbm) (h:=?_)))))))
 rintro _ _ ⟨r5,rfl,r5a,r5b,rfl⟩
 refine ZF (h:=Zw [_,_,_] rfl (Zd rfl (fun g2=>?_) (fun g2=>?_)))
 try simp only [sQ,ne_eq] at g2
 refine Ze (xM (h:=xM (h:=xM (h:=?_))))
 obtain ⟨y,hy⟩:=Zax (xs:=([[97,109,121],[98,111,98],[99,121,100],[100,97,110]]:List Str)) (i:=x.k) om
 obtain ⟨_,⟨rfl,hb7⟩,hc7⟩:=hr3.elem hy
 refine xIx Tryz.underlying78 sz9 (h:=y1 lk9 hc7 0 (h:=xBs [(0,_)] [_] Tryz.underlying78 sz9 zo9 (h:=fun b8=>Zn (Za8 (z:=y) (R:=Za7) 1 rfl hv rfl rfl rfl ZoJ ZoH rfl rfl (ZaV.box 3 rfl) rfl rfl (⟨rfl,by first | assumption | omega | (simp;done) | (simp;omega)⟩) om (fun l9 p9 c9 hv9=>?_)))))
 refine xA (h:=Zz (Zf (Ze (xM (h:=xD (h:=xA (h:=?_)))))))
 exact ZE ⟨x.k+1,(x.p+1),l9,p9,c9,(x.xs ++ [y])⟩ [0,1,2] so2 ⟨rfl,so,by simp;omega,so,hv9⟩ t5 rfl
 try simp only [sQ,ne_eq] at g2
 refine Zi (Zz (Zf (Ze (xM (h:=xD (h:=xA (h:=?_)))))))
 exact ZE ⟨x.k+1,(x.p+1),x.l,x.a,x.c,x.xs⟩ [0,1,2] so2 ⟨rfl,so,so,so,hv⟩ t5 rfl
 try simp only [sQ,ne_eq] at g1
 refine ZY (Zal (Z6 (ZN (Zf (Zm (Za (xM (h:=xV Tryz.underlying78 (h:=ZF (h:=Zd rfl (fun g3=>?_) (fun g3=>?_)))))))))))
 try simp only [sQ,ne_eq] at g3
 refine Ze (xM (h:=xM (h:=xM (h:=xX 0 rfl Za0 rfl (ZL _ _ _ _ _ _ oz oz oz hm _ hbm) (h:=?_)))))
 rintro _ _ ⟨r10,rfl,r10a,r10b,rfl⟩
 obtain ⟨z,hz⟩:=Zd7 (xs:=([[97,109,121],[98,111,98],[99,121,100],[100,97,110]]:List Str)) (i:=r10) om om
 obtain ⟨_,⟨rfl,hb12⟩,hc12⟩:=hr3.elem hz
 refine xIx Tryz.underlying78 sz9 (h:=y1 lk9 hc12 0 (h:=xBs [(0,_)] [_] Tryz.underlying78 sz9 zo9 (h:=fun b13=>Zn (Za8 (z:=z) (R:=Za7) 1 rfl hv rfl rfl rfl ZoJ ZoH rfl rfl (ZaV.box 3 rfl) rfl rfl (⟨rfl,by first | assumption | omega | (simp;done) | (simp;omega)⟩) om (fun l14 p14 c14 hv14=>?_)))))
 refine xA (h:=Zf (Zm (Za (xM (h:=xX 0 rfl Za0 rfl (ZL _ _ _ _ _ _ oz oz oz hm _ hbm) (h:=?_))))))
 rintro _ _ ⟨r15,rfl,r15a,r15b,rfl⟩
 refine Zw [_,_,_,_] rfl (Zr (Za (ZF (h:=xA (h:=Zd rfl (fun g4=>?_) (fun g4=>?_))))))
 try simp only [sQ,ne_eq] at g4
 refine Ze (xM (h:=xM (h:=?_)))
 obtain ⟨w,hw⟩:=Zax (xs:=(x.xs ++ [z])) (i:=0) om
 obtain ⟨bb17,_,hp17,⟨rfl,hb17⟩,hw17,hc17⟩:=hv14.row hw
 refine xIp hp17 Tryz.underlying78 sz9 (h:=Zn (Zl rfl rfl lk9 rfl (hc17 _ 1 rfl 0 _ rfl) (xBs [(0,_)] [_] Tryz.underlying78 sz9 zo9 (h:=fun b18=>Zn (Za8 (z:=w) (R:=Za7) 1 rfl hv14 rfl rfl rfl ZoJ ZoH rfl rfl (ZaV.box 4 rfl) rfl rfl (⟨rfl,by first | assumption | omega | (simp;done) | (simp;omega)⟩) om (fun l19 p19 c19 hv19=>?_))))))
 refine xA (h:=Zz (Zf (ZdA 1 rfl hv19 Za7.mono om3 (fun B20 hle20 hr20=>?_))))
 replace hr3:=hr3.mono Za7.mono hle20
 replace hbm:=hbm.mono hle20
 have hr20n:=hr20.len
 refine Za (xM (h:=xA (h:=Zw [_,_,_,_,_] rfl (Zg ?_))))
 exact Zaf .ret (.inl rfl) [_] [0] rfl t1 ⟨_,_,_,_,rfl,hr20,by first | omega | (simp;done) | (simp;omega),oz,rfl⟩
 try simp only [sQ,ne_eq] at g4
 refine Za (ZF (h:=xA (h:=Zd rfl (fun g5=>?_) (fun g5=>?_))))
 try simp only [sQ,ne_eq] at g5
 refine Ze (xM (h:=Zn (ZeX rfl rfl Tryz.underlying78 sz9 rfl (a:=0) (b:=0) rfl ⟨_,_,rfl,rfl⟩ oz oz ?_)))
 refine xA (h:=Zz (Zf (Za (xM (h:=xA (h:=Zg ?_))))))
 exact Zaf .ret (.inl rfl) [_] [0] rfl t1 ⟨_,_,[],_,rfl,SlK.nil,Nat.zero_le _,oz,rfl⟩
 try simp only [sQ,ne_eq] at g5
 refine Za (ZF (h:=xA (h:=Zd rfl (fun g6=>?_) (fun g6=>?_))))
 try simp only [sQ,ne_eq] at g6
 refine Ze (xM (h:=xBs [(0,_),(1,_)] [_,_] Tryz.underlying78 sz9 zo9 (h:=fun b21=>Zn (ZmP (rows:=(([[100,97,110],[101,118,101]]:List Str)).map fun x=>[str x]) (ys:=([[100,97,110],[101,118,101]]:List Str)) (R:=Za7) 1 rfl hv14 rfl rfl rfl ZoJ ZoH rfl rfl rfl (ZaV.box 4 rfl) rfl Zub (ZtZ (by decide)) om (fun l22 p22 c22 hv22=>?_)))))
 refine xA (h:=Zz (Zf (ZdA 1 rfl hv22 Za7.mono om3 (fun B23 hle23 hr23=>?_))))
 replace hr3:=hr3.mono Za7.mono hle23
 replace hbm:=hbm.mono hle23
 have hr23n:=hr23.len
 refine Za (xM (h:=xA (h:=Zw [_,_,_,_,_] rfl (Zg ?_))))
 exact Zaf .ret (.inl rfl) [_] [0] rfl t1 ⟨_,_,_,_,rfl,hr23,by first | omega | (simp;done) | (simp;omega),oz,rfl⟩
 try simp only [sQ,ne_eq] at g6
 refine Zi (Zz (Zf (ZdA 1 rfl hv14 Za7.mono om3 (fun B24 hle24 hr24=>?_))))
 replace hr3:=hr3.mono Za7.mono hle24
 replace hbm:=hbm.mono hle24
 have hr24n:=hr24.len
 refine Za (xM (h:=xA (h:=Zw [_,_,_,_] rfl (Zg ?_))))
 exact Zaf .ret (.inl rfl) [_] [0] rfl t1 ⟨_,_,_,_,rfl,hr24,by first | omega | (simp;done) | (simp;omega),oz,rfl⟩
 try simp only [sQ,ne_eq] at g3
 refine Zi (Zf (Zm (Za (xM (h:=xX 0 rfl Za0 rfl (ZL _ _ _ _ _ _ oz oz oz hm _ hbm) (h:=?_))))))
 rintro _ _ ⟨r25,rfl,r25a,r25b,rfl⟩
 refine Zw [_,_,_] rfl (Zr (Za (ZF (h:=xA (h:=Zd rfl (fun g4=>?_) (fun g4=>?_))))))
 try simp only [sQ,ne_eq] at g4
 refine Ze (xM (h:=xM (h:=?_)))
 obtain ⟨w,hw⟩:=Zax (xs:=x.xs) (i:=0) om
 obtain ⟨bb27,_,hp27,⟨rfl,hb27⟩,hw27,hc27⟩:=hv.row hw
 refine xIp hp27 Tryz.underlying78 sz9 (h:=Zn (Zl rfl rfl lk9 rfl (hc27 _ 1 rfl 0 _ rfl) (xBs [(0,_)] [_] Tryz.underlying78 sz9 zo9 (h:=fun b28=>Zn (Za8 (z:=w) (R:=Za7) 1 rfl hv rfl rfl rfl ZoJ ZoH rfl rfl (ZaV.box 3 rfl) rfl rfl (⟨rfl,by first | assumption | omega | (simp;done) | (simp;omega)⟩) om (fun l29 p29 c29 hv29=>?_))))))
 refine xA (h:=Zz (Zf (ZdA 1 rfl hv29 Za7.mono om3 (fun B30 hle30 hr30=>?_))))
 replace hr3:=hr3.mono Za7.mono hle30
 replace hbm:=hbm.mono hle30
 have hr30n:=hr30.len
 refine Za (xM (h:=xA (h:=Zw [_,_,_,_] rfl (Zg ?_))))
 exact Zaf .ret (.inl rfl) [_] [0] rfl t1 ⟨_,_,_,_,rfl,hr30,by first | omega | (simp;done) | (simp;omega),oz,rfl⟩
 try simp only [sQ,ne_eq] at g4
 refine Za (ZF (h:=xA (h:=Zd rfl (fun g5=>?_) (fun g5=>?_))))
 try simp only [sQ,ne_eq] at g5
 refine Ze (xM (h:=Zn (ZeX rfl rfl Tryz.underlying78 sz9 rfl (a:=0) (b:=0) rfl ⟨_,_,rfl,rfl⟩ oz oz ?_)))
 refine xA (h:=Zz (Zf (Za (xM (h:=xA (h:=Zg ?_))))))
 exact Zaf .ret (.inl rfl) [_] [0] rfl t1 ⟨_,_,[],_,rfl,SlK.nil,Nat.zero_le _,oz,rfl⟩
 try simp only [sQ,ne_eq] at g5
 refine Za (ZF (h:=xA (h:=Zd rfl (fun g6=>?_) (fun g6=>?_))))
 try simp only [sQ,ne_eq] at g6
 refine Ze (xM (h:=xBs [(0,_),(1,_)] [_,_] Tryz.underlying78 sz9 zo9 (h:=fun b31=>Zn (ZmP (rows:=(([[100,97,110],[101,118,101]]:List Str)).map fun x=>[str x]) (ys:=([[100,97,110],[101,118,101]]:List Str)) (R:=Za7) 1 rfl hv rfl rfl rfl ZoJ ZoH rfl rfl rfl (ZaV.box 3 rfl) rfl Zub (ZtZ (by decide)) om (fun l32 p32 c32 hv32=>?_)))))
 refine xA (h:=Zz (Zf (ZdA 1 rfl hv32 Za7.mono om3 (fun B33 hle33 hr33=>?_))))
 replace hr3:=hr3.mono Za7.mono hle33
 replace hbm:=hbm.mono hle33
 have hr33n:=hr33.len
 refine Za (xM (h:=xA (h:=Zw [_,_,_,_] rfl (Zg ?_))))
 exact Zaf .ret (.inl rfl) [_] [0] rfl t1 ⟨_,_,_,_,rfl,hr33,by first | omega | (simp;done) | (simp;omega),oz,rfl⟩
 try simp only [sQ,ne_eq] at g6
 refine Zi (Zz (Zf (ZdA 1 rfl hv Za7.mono om3 (fun B34 hle34 hr34=>?_))))
 replace hr3:=hr3.mono Za7.mono hle34
 replace hbm:=hbm.mono hle34
 have hr34n:=hr34.len
 refine Za (xM (h:=xA (h:=Zw [_,_,_] rfl (Zg ?_))))
 exact Zaf .ret (.inl rfl) [_] [0] rfl t1 ⟨_,_,_,_,rfl,hr34,by first | omega | (simp;done) | (simp;omega),oz,rfl⟩

set_option maxHeartbeats 400000 in
theorem Zat (aq:Option Addr) (cq:Nat) (q:DQueue) (B:Kn) (hq:SlK B aq cq 4 Zj q.items):ZM (pj J) 88 [.agg #[.int .i64 q.next,.slice aq q.items.length cq]] B [] (fun v B' Ls=>∃l a cp,Ls=[l]∧v = .agg #[.int .i64 q.next,.slice a q.items.length cp]∧Z3 (B'.less B) l a cp 80 4 Zj q.items):=by
 refine Zc 34 Tryz.func88 rfl rfl rfl (Nat.le_of_ble_eq_true rfl) ?_
 have hqn:=hq.len
 refine Za (xBx [_,_] (h:=fun b1=>xAl [_,_] ZiF (h:=fun b2=>Zw [_,_] rfl (Za (xW ZeN (h:=x1 lk3 0 (h:=xBs [] [] Tryz.underlying25 Zer ZiD (h:=fun b3=>xB [(0,_),(1,_)] [_,_] [_,_] Zs7 ZiF (h:=xAl [_,_] ZiF (h:=fun b4=>xS [_,_] 3 [_,_] ZfI (h:=Zw [_,_,_,_] rfl (Zm ?_))))))))))))
 refine Za (xA (h:=Zr (ZU (α:=Gh DItem) [0,1,2,3] (fun g=>[(4,.int .i64 g.k)]) [2,3] (fun g=>[g.l,ZaY b4 [.int .i64 q.next,.slice g.a g.xs.length g.c] 27]) (fun g Bx=>g.k≤q.items.length∧g.xs=q.items.take g.k∧Z3 (Bx.less B) g.l g.a g.c 80 4 Zj g.xs) (fun g=>q.items.length - g.k) ⟨0,0,_,_,_,[]⟩ t1 rfl (⟨Nat.zero_le _,rfl,.lit0⟩) (fun g B5 hle5 hI=>?_))))
 obtain ⟨hk,hxs,hv⟩:=hI
 have hxn:=congrArg List.length hxs
 rw [List.length_take] at hxn
 replace hq:=hq.mono Zj.mono hle5
 refine ZQ [(0,_),(1,_),(2,_),(3,_),(4,_)] [_,_,_,_] t5 rfl (Zm (Za (xM (h:=xW ZaI (h:=x1 Zfz 0 (h:=xV Tryz.underlying25 (h:=Zai (h:=Zd rfl (fun g1=>?_) (fun g1=>?_)))))))))
 try simp only [sQ,ne_eq] at g1
 refine Zi (Zf (Zm (Zr (Za (xW ZaI (h:=x1 Zfz 0 (h:=xM (h:=?_))))))))
 obtain ⟨x,hx⟩:=Zax (xs:=q.items) (i:=g.k) om
 obtain ⟨bb7,oo7,rfl⟩:=hq.base hx
 obtain ⟨_,⟨qi8,ci8,rfl,hi8,hb8,hb8b⟩,hc8⟩:=hq.elem hx
 have hi8n:=hi8.len
 refine xIx Tryz.underlying25 Zer (h:=yL [_,_,_,_] ZlF hc8 0 (h:=xAl [_,_,_,_] ZiD (h:=fun b9=>xS [_,_,_,_] 4 [_,_,_,_] Zer (h:=Zw [_,_,_,_,_] rfl (Za (xBs [] [] Tryz.underlying78 sz9 zo9 (h:=fun b10=>xW ZbG (h:=x1 Zhc 4 (h:=Zn (ZaS (R:=Za7) 5 rfl (Z3.lit0 (R:=Za7)) rfl rfl rfl ZoJ ZoH rfl rfl rfl hi8.rows Za7.one rfl om (fun l11 p11 c11 hv11=>?_)))))))))))
 refine xW ZbG (h:=xS [_] 4 [_,_,_,_] Zuu (h:=Zw [_,_,_,_,_,_] rfl (ZoO 5 rfl hv11 Za7.any om3 hle5 (fun B12 hle12 hr12f=>?_))))
 have hr12:=hr12f.mono Za7.mono Kn.less_le
 replace hq:=hq.mono Zj.mono hle12
 replace hv:=hv.mono Zj.mono (Kn.less_mono hle12)
 have hr12n:=hr12.len
 refine Ze (xW ZaI (h:=x1 Zfz 3 (h:=xL [_,_,_,_] ZlF 4 (h:=xBs [(0,_)] [_,_,_,_] Tryz.underlying25 Zer ZiD (h:=fun b13=>Zn (Za8 (z:=⟨x.id,x.fr,x.text,x.left⟩) (R:=Zj) 2 rfl hv rfl rfl rfl Zu1 ZuA rfl rfl (ZaV.box 6 rfl) rfl rfl (⟨_,_,rfl,hr12f,by first | assumption | omega | (simp;done) | (simp;omega),by first | assumption | omega | (simp;done) | (simp;omega)⟩) om (fun l14 p14 c14 hv14=>?_)))))))
 refine xW ZaI (h:=xS [_] 3 [_,_] Zux (h:=Zz (Zf (Ze (xM (h:=xD (h:=xA (h:=?_))))))))
 exact ZE ⟨g.k+1,0,l14,p14,c14,(g.xs ++ [⟨x.id,x.fr,x.text,x.left⟩])⟩ [0,1,2,3] so2 ⟨so,by simp only [];rw [Zay hx,hxs],hv14⟩ t5 rfl
 try simp only [sQ,ne_eq] at g1
 have hxe:g.xs=q.items:=by rw [hxs];exact List.take_of_length_le oz
 refine ZY (Zal (Z6 (ZN (Zf (Za (xL [_,_] Zee 3 (h:=xS [_,_] 1 [_,_] ZfI (h:=Zw [_,_,_,_] rfl (Zg ?_)))))))))
 exact Zaf .ret (.inl rfl) [_] [2] rfl ⟨⟨_,rfl,.inr ⟨[_,_],Zee,Zad 1 rfl rfl rfl,rfl⟩⟩,trivial⟩ ⟨_,_,_,rfl,by rw [← hxe];rfl,hxe ▸ hv⟩

set_option maxHeartbeats 400000 in
theorem ZfV (aq:Option Addr) (cq:Nat) (q:DQueue) (qx:Option Addr) (cx:Nat) (x:DLetter) (B:Kn) (hq:SlK B aq cq 4 Zj q.items) (hx:SlK B qx cx 1 Za7 x.to_) (h1:x.fr.length≤2000000) (h2:x.text.length≤2000000):ZM (pj J) 94 [.agg #[.int .i64 q.next,.slice aq q.items.length cq],.agg #[str x.fr,.slice qx x.to_.length cx,str x.text]] B [] (fun v B' Ls=>(∃l a cp,Ls=[l]∧v = .tuple #[.agg #[.int .i64 (Zhm q x).1.next,.slice a (Zhm q x).1.items.length cp],.bool (Zhm q x).2]∧Z3 (B'.less B) l a cp 80 4 Zj (Zhm q x).1.items)):=by
 refine Zc 49 Tryz.func94 rfl rfl rfl (Nat.le_of_ble_eq_true rfl) ?_
 have hqn:=hq.len
 have hxn:=hx.len
 refine Za (xBx [_,_] (h:=fun b1=>xBx [_,_,_] (h:=fun b2=>xAl [_,_] ZiF (h:=fun b3=>xA (h:=Zw [_,_,_] rfl (Zm (Za (xL [_,_] Zee 0 (h:=xR Zwe rfl (Zfp _ _ q _ hq) (h:=xN (h:=xM (h:=Zt (d:=10) rfl (fun g1=>?_) (fun g1=>?_)))))))))))))
 try simp only [sQ,ne_eq] at g1
 refine xP (h:=xP (h:=xP (h:=xT (h:=Zd (t:=true) rfl (fun _=>Za (xB [] [_,_] [_,_] Zs7 ZiF (h:=xS [_,_] 2 [_,_] ZfI (h:=xA (h:=Zw [_,_,_] rfl (Zg (Zs ?_))))))) (fun h=>Bool.noConfusion h)))))
 have he:=ZqK (x:=x) g1
 exact ZtL .ret (.inl rfl) [_,_] ⟨⟨_,rfl,.inr ⟨[_,_],Zee,Zad 2 rfl rfl rfl,rfl⟩⟩,rfl,trivial⟩ ⟨_,none,0,rfl,by rw [he];rfl,by rw [he];exact Z3.nil⟩
 try simp only [sQ,ne_eq] at g1
 refine xL [_,_,_] Zmd 1 (h:=xR Zwd rfl (Zew _ _ x _ hx oa oa) (h:=?_))
 refine xN (h:=xF (h:=Zd rfl (fun g2=>?_) (fun g2=>?_)))
 try simp only [sQ,ne_eq] at g2
 refine Za (xB [] [_,_] [_,_] Zs7 ZiF (h:=xS [_,_] 2 [_,_] ZfI (h:=xA (h:=Zw [_,_,_] rfl (Zg (Zs ?_))))))
 have he:=ZqJ (q:=q) g2
 exact ZtL .ret (.inl rfl) [_,_] ⟨⟨_,rfl,.inr ⟨[_,_],Zee,Zad 2 rfl rfl rfl,rfl⟩⟩,rfl,trivial⟩ ⟨_,none,0,rfl,by rw [he];rfl,by rw [he];exact Z3.nil⟩
 try simp only [sQ,ne_eq] at g2
 have hqb:=Zez g1
 refine Zi (Zf (Za (xL [_,_] Zee 0 (h:=Zn (Zac rfl rfl Zjs rfl (Zat _ _ q _ hq) ?_)))))
 rintro _ Bk _ hlek ⟨lk,ak,ck,rfl,rfl,hvk⟩
 replace hq:=hq.mono Zj.mono hlek
 replace hx:=hx.mono Za7.mono hlek
 replace hvk:=hvk.mono Zj.mono (Kn.less_up (Kn.le.refl _) (Kn.le.refl _))
 refine xAl [_,_] ZiF (h:=fun b7=>xS [_,_] 4 [_,_] ZfI (h:=Zw [_,_,_,_,_] rfl (Zm (Za (xW ZaI (h:=x1 Zfz 0 (h:=xV Tryz.underlying25 (h:=ZdS (h:=xM (h:=Zt (d:=22) rfl (fun g3=>?_) (fun g3=>?_)))))))))))
 try simp only [sQ,ne_eq] at g3
 refine xP (h:=xP (h:=xP (h:=xT (h:=Zd (t:=true) rfl (fun _=>Za (xL [_,_] Zee 4 (h:=xS [_,_] 2 [_,_] ZfI (h:=xA (h:=Zw [_,_,_,_,_] rfl (Zg (Zs ?_))))))) (fun h=>Bool.noConfusion h)))))
 have he:=Zlx g1 g2 (.inl oz)
 exact Zaf .ret (.inl rfl) [_,_] [3] rfl ⟨⟨_,rfl,.inr ⟨[_,_],Zee,Zad 2 rfl rfl rfl,rfl⟩⟩,rfl,trivial⟩ ⟨_,_,_,rfl,by rw [he];rfl,by rw [he];exact hvk⟩
 try simp only [sQ,ne_eq] at g3
 refine xW ZeN (h:=x1 lk3 0 (h:=ZbA (h:=xF (h:=Zd rfl (fun g4=>?_) (fun g4=>?_)))))
 try simp only [sQ,ne_eq] at g4
 refine Za (xL [_,_] Zee 4 (h:=xS [_,_] 2 [_,_] ZfI (h:=xA (h:=Zw [_,_,_,_,_] rfl (Zg (Zs ?_))))))
 have he:=Zlx g1 g2 (.inr oz)
 exact Zaf .ret (.inl rfl) [_,_] [3] rfl ⟨⟨_,rfl,.inr ⟨[_,_],Zee,Zad 2 rfl rfl rfl,rfl⟩⟩,rfl,trivial⟩ ⟨_,_,_,rfl,by rw [he];rfl,by rw [he];exact hvk⟩
 try simp only [sQ,ne_eq] at g4
 refine Zi (Zf (Zm (Z9 (keeps _ [0,1,4] _) mo kr ⟨Kn.le.refl _,Zar.refl _ _⟩ (fun _ _=>?_))))
 refine aW 0 rfl ZaI (h:=aT 1 rfl (ZK fun D B L hI=>Zl rfl rfl Zfz rfl (atL 4 (hI.2.2.2.1.trans rfl) rfl rfl) r4) (h:=aW 2 rfl ZeN (h:=aT 3 rfl (ZK fun D B L hI=>Zl rfl rfl lk3 rfl (atL 0 (hI.2.1.trans rfl) rfl rfl) r4) (h:=aW 4 rfl Zih (h:=aT 5 rfl (ZK fun D B L hI=>Zl rfl rfl lk9 rfl (atL 1 (hI.2.2.1.trans rfl) rfl rfl) r4) (h:=aW 6 rfl Zmu (h:=aT 7 rfl (ZK fun D B L hI=>Zl rfl rfl lk9 rfl (atL 1 (hI.2.2.1.trans rfl) rfl rfl) r4) (h:=aW 9 rfl Zig (h:=aT 10 rfl (ZK fun D B L hI=>Zl rfl rfl Zhc rfl (atL 1 (hI.2.2.1.trans rfl) rfl rfl) r4) (h:=Zv 8 kr rfl kr (Zy (parts:=[]) [] rfl rfl Tryz.underlying78 sz9 zo9 rfl rfl rfl rfl rfl (fun b8=>?_))))))))))))
 refine ⟨⟨Kn.le.refl _,t3⟩,(Zv 11 kr rfl kr (ZaS (R:=Za7) 5 rfl (Z3.lit0 (R:=Za7)) rfl rfl rfl ZoJ ZoH rfl rfl rfl hx.rows Za7.one rfl om (fun l9 p9 c9 hv9=>?_)))⟩
 refine ⟨⟨Kn.le.refl _,t3⟩,(Zvl 5 rfl hv9 Za7.any om3 hlek (fun B' hle'=>⟨hle',t3⟩) (fun B10 hle10 hr10f=>?_))⟩
 have hr10:=hr10f.mono Za7.mono Kn.less_le
 replace hq:=hq.mono Zj.mono hle10
 replace hx:=hx.mono Za7.mono hle10
 replace hvk:=hvk.mono Zj.mono (Kn.less_mono hle10)
 have hr10n:=hr10.len
 refine aT 12 rfl (ZK fun D B L hI=>ZaH (parts:=[(0,_),(1,_),(2,_),(3,_)]) [_,_,_,_] [_,_,_,_] rfl rfl Zxg ZiD rfl rfl rfl r4) (h:=Zv 13 kr rfl kr (Zy (parts:=[(0,_)]) [_,_,_,_] rfl rfl Tryz.underlying25 Zer ZiD rfl rfl rfl rfl rfl (fun b11=>?_)))
 refine ⟨⟨hle10,t3⟩,(Zv 14 kr rfl kr (Za8 (z:=⟨q.next,x.fr,x.text,x.to_⟩) (R:=Zj) 3 rfl hvk rfl rfl rfl Zu1 ZuA rfl rfl (ZaV.box 6 rfl) rfl rfl (⟨_,_,rfl,hr10f,by first | assumption | omega | (simp;done) | (simp;omega),by first | assumption | omega | (simp;done) | (simp;omega)⟩) om (fun l12 p12 c12 hv12=>?_)))⟩
 refine ⟨⟨hle10,t3⟩,(aW 15 rfl ZaI (h:=ZV 16 kr rfl kr kr kr (ZO [_] 4 [_,_] rfl rfl Zux rfl rfl rfl rfl rfl rfl rfl rfl ?_)))⟩
 refine Zf (Zw [_,_,_,_,_,_,_] rfl (Za (xW ZeN (h:=x1 lk3 0 (h:=xD (h:=xW ZeN (h:=xS [_] 4 [_,_] sz3 (h:=Zw [_,_,_,_,_,_,_] rfl (Za (xL [_,_] Zee 4 (h:=xS [_,_] 2 [_,_] ZfI (h:=xA (h:=?_)))))))))))))
 refine Zw [_,_,_,_,_,_,_] rfl (Zg ?_)
 have he:=Zt0 g1 g2 oz oz
 exact Zaf .ret (.inl rfl) [_,_] [3] rfl ⟨⟨_,rfl,.inr ⟨[_,_],Zee,Zad 2 rfl rfl rfl,rfl⟩⟩,rfl,trivial⟩ ⟨_,_,_,rfl,by rw [he];rfl,by rw [he];exact hv12⟩

set_option maxHeartbeats 400000 in
theorem Zk2 (q:Option Addr) (cp:Nat) (xs:List Str) (u:Str) (B:Kn) (ha:SlK B q cp 1 Za7 xs):ZM (pj J) 159 [.slice q xs.length cp,str u] B [] (fun v B' Ls=>Ls=[]∧∃a cp,v = .slice a (without xs u).length cp∧SlK (B'.less B) a cp 1 Za7 (without xs u)):=by
 refine Zc 28 Tryz.func159 rfl rfl rfl (Nat.le_of_ble_eq_true rfl) ?_
 have han:=ha.len
 refine Za (xA (h:=Za (xBs [] [] Tryz.underlying78 sz9 zo9 (h:=fun b1=>xA (h:=Zw [_] rfl (Zm (Za (xA (h:=Zr (ZU (α:=Gh Str) [0,1,4] (fun g=>[(5,.slice g.a g.xs.length g.c),(6,.int .i64 g.k)]) [0] (fun g=>[g.l]) (fun g Bx=>Bx=B∧g.k≤xs.length∧g.xs=without (xs.take g.k) u∧g.xs.length≤g.k∧Z3 Bx g.l g.a g.c 9 1 Za7 g.xs) (fun g=>xs.length - g.k) ⟨0,0,_,_,_,[]⟩ t2 rfl (⟨rfl,Nat.zero_le _,rfl,Nat.le_refl _,.lit0⟩) (fun g B2 hle2 hI=>?_)))))))))))
 obtain ⟨rfl,hk,hxs,hgl,hv⟩:=hI
 refine ZQ [(0,_),(1,_),(4,_),(5,_),(6,_)] [_] t5 rfl (Zm (Za (xM (h:=xM (h:=xV Tryz.underlying78 (h:=Zai (h:=Zd rfl (fun g1=>?_) (fun g1=>?_))))))))
 try simp only [sQ,ne_eq] at g1
 refine Zi (Zf (Zm (Zr (Za (xM (h:=xM (h:=?_)))))))
 obtain ⟨x,hx⟩:=Zax (xs:=xs) (i:=g.k) om
 obtain ⟨bb4,oo4,rfl⟩:=ha.base hx
 obtain ⟨_,⟨rfl,hb5⟩,hc5⟩:=ha.elem hx
 refine xIx Tryz.underlying78 sz9 (h:=y1 lk9 hc5 0 (h:=xM (h:=ZiT (h:=Zd rfl (fun g2=>?_) (fun g2=>?_)))))
 try simp only [sQ,ne_eq] at g2
 refine Ze (xM (h:=xM (h:=xM (h:=xIx Tryz.underlying78 sz9 (h:=y1 lk9 hc5 0 (h:=xBs [(0,_)] [_] Tryz.underlying78 sz9 zo9 (h:=fun b6=>Zn (Za8 (z:=x) (R:=Za7) 0 rfl hv rfl rfl rfl ZoJ ZoH rfl rfl (ZaV.box 1 rfl) rfl rfl (⟨rfl,by first | assumption | omega | (simp;done) | (simp;omega)⟩) om (fun l7 p7 c7 hv7=>?_)))))))))
 refine xA (h:=Zz (Zf (Ze (xM (h:=xD (h:=xA (h:=?_)))))))
 exact ZE ⟨g.k+1,0,l7,p7,c7,(g.xs ++ [x])⟩ [0] so2 ⟨rfl,so,by simp only [];rw [Zkj hx g2,hxs],by simp;omega,hv7⟩ t5 rfl
 try simp only [sQ,ne_eq] at g2
 refine Zi (Zz (Zf (Ze (xM (h:=xD (h:=xA (h:=?_)))))))
 exact ZE ⟨g.k+1,0,g.l,g.a,g.c,g.xs⟩ [0] so2 ⟨rfl,so,by simp only [];rw [Zki hx g2,hxs],so,hv⟩ t5 rfl
 try simp only [sQ,ne_eq] at g1
 have hxe:g.xs=without xs u:=by rw [hxs,List.take_of_length_le oz]
 refine ZY (Zal (Z6 (ZN (Zf (ZoO 0 rfl hv Za7.any om3 (Kn.le.refl _) (fun B8 hle8 hr8f=>?_))))))
 have hr8:=hr8f.mono Za7.mono Kn.less_le
 replace ha:=ha.mono Za7.mono hle8
 have hr8n:=hr8.len
 refine Za (xM (h:=xA (h:=Zw [_] rfl (Zg ?_))))
 exact Zaf .ret (.inl rfl) [_] [] rfl t1 ⟨rfl,_,_,by rw [← hxe];rfl,hxe ▸ hr8f⟩

set_option maxHeartbeats 400000 in
theorem Zk3 (aq:Option Addr) (cq:Nat) (q:DQueue) (id:Int) (u:Str) (B:Kn) (hq:SlK B aq cq 4 Zj q.items):ZM (pj J) 136 [.agg #[.int .i64 q.next,.slice aq q.items.length cq],.int .i64 id,str u] B [] (fun v B' Ls=>(∃l a cp,Ls=[l]∧v = .tuple #[.agg #[.int .i64 (Zb4 q id u).1.next,.slice a (Zb4 q id u).1.items.length cp],str (Zb4 q id u).2.1,.bool (Zb4 q id u).2.2]∧Z3 (B'.less B) l a cp 80 4 Zj (Zb4 q id u).1.items∧(Zb4 q id u).2.1.length≤2000000)):=by
 refine Zc 65 Tryz.func136 rfl rfl rfl (Nat.le_of_ble_eq_true rfl) ?_
 have hqn:=hq.len
 refine Za (xBx [_,_] (h:=fun b1=>xAl [_,_] ZiF (h:=fun b2=>xA (h:=xA (h:=Zw [_,_] rfl (Za (xW ZeN (h:=x1 lk3 0 (h:=xBs [] [] Tryz.underlying25 Zer ZiD (h:=fun b3=>xB [(0,_),(1,_)] [_,_] [_,_] Zs7 ZiF (h:=xAl [_,_] ZiF (h:=fun b4=>xS [_,_] 3 [_,_] ZfI (h:=?_)))))))))))))
 refine Zw [_,_,_,_] rfl (Za (xA (h:=Za (xA (h:=Zm (Za (xA (h:=Zr (ZU (α:=Gh2 DItem (Str × Bool)) [0,1,2,3,6,7,8,9] (fun g=>[(10,str g.e.1),(11,.bool g.e.2),(12,.int .i64 g.k)]) [2,3] (fun g=>[g.l,ZaY b4 [.int .i64 q.next,.slice g.a g.xs.length g.c] 27]) (fun g Bx=>g.k≤q.items.length∧g.e=Zfn id u (q.items.take g.k)∧g.e.1.length≤2000000∧g.xs=Zeq id u (q.items.take g.k)∧Z3 (Bx.less B) g.l g.a g.c 80 4 Zj g.xs) (fun g=>q.items.length - g.k) ⟨0,0,_,_,_,[],([],false)⟩ t3 rfl (⟨Nat.zero_le _,rfl,Nat.zero_le _,rfl,.lit0⟩) (fun g B5 hle5 hI=>?_))))))))))
 obtain ⟨hk,he,htl,hxs,hv⟩:=hI
 have hxn:g.xs.length≤g.k:=by rw [hxs];exact Nat.le_trans (Zhz _ _ _) (by rw [List.length_take];omega)
 replace hq:=hq.mono Zj.mono hle5
 refine ZQ [(0,_),(1,_),(2,_),(3,_),(6,_),(7,_),(8,_),(9,_),(10,_),(11,_),(12,_)] [_,_,_,_] t11 rfl (Zm (Za (xM (h:=xW ZaI (h:=x1 Zfz 0 (h:=xV Tryz.underlying25 (h:=Zai (h:=Zd rfl (fun g1=>?_) (fun g1=>?_)))))))))
 try simp only [sQ,ne_eq] at g1
 refine Zi (Zf (Zm (Zr (Za (xW ZaI (h:=x1 Zfz 0 (h:=xM (h:=?_))))))))
 obtain ⟨x,hx⟩:=Zax (xs:=q.items) (i:=g.k) om
 obtain ⟨bb7,oo7,rfl⟩:=hq.base hx
 obtain ⟨_,⟨qi8,ci8,rfl,hi8,hb8,hb8b⟩,hc8⟩:=hq.elem hx
 have hi8n:=hi8.len
 refine xIx Tryz.underlying25 Zer (h:=yL [_,_,_,_] ZlF hc8 0 (h:=xAl [_,_,_,_] ZiD (h:=fun b9=>xS [_,_,_,_] 4 [_,_,_,_] Zer (h:=Zw [_,_,_,_,_] rfl (Za (xBs [] [] Tryz.underlying78 sz9 zo9 (h:=fun b10=>xW ZbG (h:=x1 Zhc 4 (h:=Zn (ZaS (R:=Za7) 5 rfl (Z3.lit0 (R:=Za7)) rfl rfl rfl ZoJ ZoH rfl rfl rfl hi8.rows Za7.one rfl om (fun l11 p11 c11 hv11=>?_)))))))))))
 refine xW ZbG (h:=xS [_] 4 [_,_,_,_] Zuu (h:=Zw [_,_,_,_,_,_] rfl (Zm (ZoO 5 rfl hv11 Za7.any om3 hle5 (fun B12 hle12 hr12f=>?_)))))
 have hr12:=hr12f.mono Za7.mono Kn.less_le
 replace hq:=hq.mono Zj.mono hle12
 replace hv:=hv.mono Zj.mono (Kn.less_mono hle12)
 have hr12n:=hr12.len
 refine Za (xW ZeM (h:=x1 lk3 4 (h:=xM (h:=ZF (h:=xM (h:=Zt (d:=39) rfl (fun g2=>?_) (fun g2=>?_)))))))
 try simp only [sQ,ne_eq] at g2
 refine xW ZbG (h:=x1 Zhc 4 (h:=xM (h:=xR Zu5 rfl (Znc _ _ _ _ _ hr12) (h:=xT (h:=Zw [_,_,_,_,_,_] rfl (Zd rfl (fun g3=>?_) (fun g3=>?_)))))))
 try simp only [sQ,ne_eq] at g3
 have hwl:=Zhp x.left u
 refine Za (xA (h:=Za (xW Zp6 (h:=x1 lk9 4 (h:=xA (h:=Ze (xW ZbG (h:=x1 Zhc 4 (h:=xM (h:=Zn (Zav rfl rfl Zwo rfl (Zk2 _ _ _ _ _ hr12) ?_)))))))))))
 intro v14 B14 hle14
 rintro ⟨a14,c14,rfl,hw14f⟩
 replace hq:=hq.mono Zj.mono hle14
 replace hr12:=hr12.mono Za7.mono hle14
 replace hr12f:=hr12f.mono Za7.mono (Kn.less_mono hle14)
 replace hv:=hv.mono Zj.mono (Kn.less_mono hle14)
 replace hw14f:=hw14f.mono Za7.mono (Kn.less_up (hle5.trans hle12) (Kn.le.refl _))
 have hw14:=hw14f.mono Za7.mono Kn.less_le
 refine xW ZbG (h:=xS [_] 4 [_,_,_,_] Zuu (h:=Zf (Za (xW ZbG (h:=x1 Zhc 4 (h:=xV Tryz.underlying78 (h:=ZbA (h:=Zw [_,_,_,_,_,_] rfl (Zd rfl (fun g4=>?_) (fun g4=>?_))))))))))
 try simp only [sQ,ne_eq] at g4
 refine Ze (xW ZaI (h:=x1 Zfz 3 (h:=xL [_,_,_,_] ZlF 4 (h:=xBs [(0,_)] [_,_,_,_] Tryz.underlying25 Zer ZiD (h:=fun b15=>Zn (Za8 (z:=⟨x.id,x.fr,x.text,(without x.left u)⟩) (R:=Zj) 2 rfl hv rfl rfl rfl Zu1 ZuA rfl rfl (ZaV.box 6 rfl) rfl rfl (⟨_,_,rfl,hw14f,by first | assumption | omega | (simp;done) | (simp;omega),by first | assumption | omega | (simp;done) | (simp;omega)⟩) om (fun l16 p16 c16 hv16=>?_)))))))
 refine xW ZaI (h:=xS [_] 3 [_,_] Zux (h:=Zz (Zf (Ze (xM (h:=xD (h:=xA (h:=?_))))))))
 exact ZE ⟨g.k+1,0,l16,p16,c16,(g.xs ++ [⟨x.id,x.fr,x.text,(without x.left u)⟩]),(x.text,true)⟩ [0,1,2,3] so2 ⟨so,by simp only [];rw [ZkC hx g2 g3],by simp only [];first | assumption | omega,by simp only [];rw [hxs,ZhA hx (Zev g2 g3) (by simpa using g4)],hv16⟩ t11 rfl
 try simp only [sQ,ne_eq] at g4
 refine Zi (Zz (Zf (Ze (xM (h:=xD (h:=xA (h:=?_)))))))
 exact ZE ⟨g.k+1,0,g.l,g.a,g.c,g.xs,(x.text,true)⟩ [0,1,2,3] so2 ⟨so,by simp only [];rw [ZkC hx g2 g3],by simp only [];first | assumption | omega,by simp only [];rw [hxs,Zgh hx (Zev g2 g3) (by simpa using g4)],hv⟩ t11 rfl
 try simp only [sQ,ne_eq] at g3
 refine Zi (Zf (Za (xW ZbG (h:=x1 Zhc 4 (h:=xV Tryz.underlying78 (h:=ZbA (h:=Zd rfl (fun g4=>?_) (fun g4=>?_))))))))
 try simp only [sQ,ne_eq] at g4
 refine Ze (xW ZaI (h:=x1 Zfz 3 (h:=xL [_,_,_,_] ZlF 4 (h:=xBs [(0,_)] [_,_,_,_] Tryz.underlying25 Zer ZiD (h:=fun b17=>Zn (Za8 (z:=⟨x.id,x.fr,x.text,x.left⟩) (R:=Zj) 2 rfl hv rfl rfl rfl Zu1 ZuA rfl rfl (ZaV.box 6 rfl) rfl rfl (⟨_,_,rfl,hr12f,by first | assumption | omega | (simp;done) | (simp;omega),by first | assumption | omega | (simp;done) | (simp;omega)⟩) om (fun l18 p18 c18 hv18=>?_)))))))
 refine xW ZaI (h:=xS [_] 3 [_,_] Zux (h:=Zz (Zf (Ze (xM (h:=xD (h:=xA (h:=?_))))))))
 exact ZE ⟨g.k+1,0,l18,p18,c18,(g.xs ++ [⟨x.id,x.fr,x.text,x.left⟩]),g.e⟩ [0,1,2,3] so2 ⟨so,by simp only [];rw [ZkA hx g3];exact he,by simp only [];first | assumption | omega,by simp only [];rw [hxs,ZhA hx (ZgK g3) (by simpa using g4)],hv18⟩ t11 rfl
 try simp only [sQ,ne_eq] at g4
 refine Zi (Zz (Zf (Ze (xM (h:=xD (h:=xA (h:=?_)))))))
 exact ZE ⟨g.k+1,0,g.l,g.a,g.c,g.xs,g.e⟩ [0,1,2,3] so2 ⟨so,by simp only [];rw [ZkA hx g3];exact he,by simp only [];first | assumption | omega,by simp only [];rw [hxs,Zgh hx (ZgK g3) (by simpa using g4)],hv⟩ t11 rfl
 try simp only [sQ,ne_eq] at g2
 refine xP (h:=xP (h:=xP (h:=xP (h:=xF (h:=Zw [_,_,_,_,_,_] rfl (Zd (t:=false) rfl (fun h=>Bool.noConfusion h) (fun _=>Zi (Zf (Za (xW ZbG (h:=x1 Zhc 4 (h:=xV Tryz.underlying78 (h:=?_)))))))))))))
 refine ZbA (h:=Zd rfl (fun g3=>?_) (fun g3=>?_))
 try simp only [sQ,ne_eq] at g3
 refine Ze (xW ZaI (h:=x1 Zfz 3 (h:=xL [_,_,_,_] ZlF 4 (h:=xBs [(0,_)] [_,_,_,_] Tryz.underlying25 Zer ZiD (h:=fun b19=>Zn (Za8 (z:=⟨x.id,x.fr,x.text,x.left⟩) (R:=Zj) 2 rfl hv rfl rfl rfl Zu1 ZuA rfl rfl (ZaV.box 6 rfl) rfl rfl (⟨_,_,rfl,hr12f,by first | assumption | omega | (simp;done) | (simp;omega),by first | assumption | omega | (simp;done) | (simp;omega)⟩) om (fun l20 p20 c20 hv20=>?_)))))))
 refine xW ZaI (h:=xS [_] 3 [_,_] Zux (h:=Zz (Zf (Ze (xM (h:=xD (h:=xA (h:=?_))))))))
 exact ZE ⟨g.k+1,0,l20,p20,c20,(g.xs ++ [⟨x.id,x.fr,x.text,x.left⟩]),g.e⟩ [0,1,2,3] so2 ⟨so,by simp only [];rw [ZkB hx g2];exact he,by simp only [];first | assumption | omega,by simp only [];rw [hxs,ZhA hx (ZgL g2) (by simpa using g3)],hv20⟩ t11 rfl
 try simp only [sQ,ne_eq] at g3
 refine Zi (Zz (Zf (Ze (xM (h:=xD (h:=xA (h:=?_)))))))
 exact ZE ⟨g.k+1,0,g.l,g.a,g.c,g.xs,g.e⟩ [0,1,2,3] so2 ⟨so,by simp only [];rw [ZkB hx g2];exact he,by simp only [];first | assumption | omega,by simp only [];rw [hxs,Zgh hx (ZgL g2) (by simpa using g3)],hv⟩ t11 rfl
 try simp only [sQ,ne_eq] at g1
 have hkl:q.items.take g.k=q.items:=List.take_of_length_le oz
 rw [hkl] at he hxs
 refine ZY (Zal (Z6 (ZN (Zf (Za (xL [_,_] Zee 3 (h:=xM (h:=xM (h:=xS [_,_] 1 [_,_] ZfI (h:=xA (h:=xA (h:=Zw [_,_,_,_] rfl (Zg ?_)))))))))))))
 exact Zaf .ret (.inl rfl) [_,_,_] [2] rfl ⟨⟨_,rfl,.inr ⟨[_,_],Zee,Zad 1 rfl rfl rfl,rfl⟩⟩,rfl,rfl,trivial⟩ ⟨_,_,_,rfl,by simp only [Zb4,← he,← hxs];rfl,by simp only [Zb4,← hxs];exact hv,by simp only [Zb4,← he];exact htl⟩

set_option maxHeartbeats 400000 in
theorem Zi4 (aq:Option Addr) (cq:Nat) (q:DQueue) (id:Int) (u:Str) (B:Kn) (hq:SlK B aq cq 4 Zj q.items):ZM (pj J) 96 [.agg #[.int .i64 q.next,.slice aq q.items.length cq],.int .i64 id,str u] B [] (fun v B' Ls=>(∃l a cp,Ls=[l]∧v = .tuple #[.agg #[.int .i64 (ZcX q id u).1.next,.slice a (ZcX q id u).1.items.length cp],str (ZcX q id u).2.1,.bool (ZcX q id u).2.2]∧Z3 (B'.less B) l a cp 80 4 Zj (ZcX q id u).1.items∧(ZcX q id u).2.1.length≤2000000)):=by
 refine Zc 20 Tryz.func96 rfl rfl rfl (Nat.le_of_ble_eq_true rfl) ?_
 refine Za (xBx [_,_] (h:=fun b1=>xAl [_,_] ZiF (h:=fun b2=>xA (h:=xA (h:=Zw [_,_] rfl (Zm (Za (xL [_,_] Zee 0 (h:=xR Zwe rfl (Zfp _ _ q _ hq) (h:=xN (h:=Zd rfl (fun g1=>?_) (fun g1=>?_))))))))))))
 try simp only [sQ,ne_eq] at g1
 refine Za (xB [] [_,_] [_,_] Zs7 ZiF (h:=xS [_,_] 1 [_,_] ZfI (h:=xA (h:=xA (h:=Zw [_,_] rfl (Zg (Zs ?_)))))))
 have he:ZcX q id u=(⟨0,[]⟩,[],false):=by simp [ZcX,g1]
 exact ZtL .ret (.inl rfl) [_,_,_] ⟨⟨_,rfl,.inr ⟨[_,_],Zee,Zad 1 rfl rfl rfl,rfl⟩⟩,rfl,rfl,trivial⟩ ⟨_,none,0,rfl,by rw [he];rfl,by rw [he];exact Z3.nil,by rw [he];exact Nat.zero_le _⟩
 try simp only [sQ,ne_eq] at g1
 refine Zi (Zf (Za (xL [_,_] Zee 0 (h:=xM (h:=xM (h:=Zn (Zac rfl rfl Zu6 rfl (Zk3 _ _ q id u _ hq) ?_)))))))
 rintro _ Bk _ hlek ⟨lk,ak,ck,rfl,rfl,hvk,htk⟩
 replace hq:=hq.mono Zj.mono hlek
 replace hvk:=hvk.mono Zj.mono (Kn.less_up (Kn.le.refl _) (Kn.le.refl _))
 refine xE (h:=xE (h:=xE (h:=xS [_,_] 1 [_,_] ZfI (h:=xA (h:=xA (h:=Zw [_,_,_] rfl (Zg ?_)))))))
 have he:ZcX q id u=Zb4 q id u:=by simp [ZcX,g1]
 exact Zaf .ret (.inl rfl) [_,_,_] [2] rfl ⟨⟨_,rfl,.inr ⟨[_,_],Zee,Zad 1 rfl rfl rfl,rfl⟩⟩,rfl,rfl,trivial⟩ ⟨_,_,_,rfl,by rw [he];rfl,by rw [he];exact hvk,by rw [he];exact htk⟩

set_option maxHeartbeats 400000 in
theorem ZhS (b:Nat) (q:Option Addr) (m cp p:Nat) (hp:p≤850000000000) (hm:m≤2000) (B:Kn) (hbm:Zak B q m):ZM (pj J) 95 [ptr ⟨b,0,none⟩] B [rd b q m cp p] (fun v B' Ls=>∃(qx:Option Addr) (cx:Nat) (x:DLetter) (p':Nat),v = .agg #[str x.fr,.slice qx x.to_.length cx,str x.text]∧SlK B' qx cx 1 Za7 x.to_∧x.fr.length≤40∧x.text.length≤40∧x.to_.length≤6∧p'≤p+20∧Ls=[rd b q m cp p']):=by
 refine Zc 19 Tryz.func95 rfl rfl rfl (Nat.le_of_ble_eq_true rfl) ?_
 refine Za (xAl [_,_,_] Znz (h:=fun b1=>Zw [_,_] rfl (Za (xM (h:=xBs [(0,_),(1,_),(2,_)] [_,_,_] Tryz.underlying78 sz9 zo9 (h:=fun b2=>Zn (Z8 [0,2] rfl rfl rfl rfl Zno rfl (Zpq _ _ _ _ _ _ ([[97,109,121],[98,111,98],[99,121,100]]:List Str) oz (by decide) (by decide) hm _ hbm) ?_)))))))
 rintro _ B3 _ hle3 ⟨rfl,x3,hx3,rfl,rfl⟩
 replace hx3:=(show∀y∈( ([[97,109,121],[98,111,98],[99,121,100]]:List Str):List Str),y.length≤40 from by decide) _ hx3
 refine xM (h:=Zn (Z8 [0] rfl rfl rfl rfl ZwE rfl (Ztl _ _ _ _ _ oz hm _ hbm) ?_))
 rintro _ B4 _ hle4 ⟨q4,cp4,xs4,p4,rfl,ht4,htn4,hp4,rfl⟩
 replace hbm:=hbm.mono hle4
 refine xM (h:=xX 0 rfl Zu3 rfl (ZeG _ _ _ _ _ oz hm _ hbm) (h:=?_))
 rintro _ _ ⟨x5,rfl,hx5,rfl⟩
 refine xB [(0,_),(1,_),(2,_)] [_,_,_] [_,_,_] Zri Znz (h:=xAl [_,_,_] Znz (h:=fun b6=>xS [_,_,_] 3 [_,_,_] ZsY (h:=Zw [_,_,_,_] rfl (Zm (Za (xM (h:=xX 0 rfl Za0 rfl (ZL _ _ _ _ _ _ oz oz oz hm _ hbm) (h:=?_))))))))
 rintro _ _ ⟨r7,rfl,r7a,r7b,rfl⟩
 refine ZF (h:=Zw [_,_,_,_] rfl (Zd rfl (fun g1=>?_) (fun g1=>?_)))
 try simp only [sQ,ne_eq] at g1
 refine Ze (xM (h:=xX 0 rfl Zr0 rfl (Zcu _ _ _ _ _ oz hm _ hbm) (h:=?_)))
 rintro _ _ ⟨x8,rfl,hx8,rfl⟩
 refine xW Zih (h:=xS [_] 3 [_,_,_] sz9 (h:=Zf (Za (xL [_,_,_] Zmd 3 (h:=xS [_,_,_] 1 [_,_,_] ZsY (h:=Zw [_,_,_,_] rfl (Zg ?_)))))))
 exact Zaf .ret (.inl rfl) [_] [0] rfl ⟨⟨_,rfl,.inr ⟨[_,_,_],Zmd,Zad 1 rfl rfl rfl,rfl⟩⟩,trivial⟩ ⟨_,_,⟨x8,xs4,x5⟩,_,rfl,ht4,so2,so2,so2,oz,rfl⟩
 try simp only [sQ,ne_eq] at g1
 refine Zi (Zf (Za (xL [_,_,_] Zmd 3 (h:=xS [_,_,_] 1 [_,_,_] ZsY (h:=Zw [_,_,_,_] rfl (Zg ?_))))))
 exact Zaf .ret (.inl rfl) [_] [0] rfl ⟨⟨_,rfl,.inr ⟨[_,_,_],Zmd,Zad 1 rfl rfl rfl,rfl⟩⟩,trivial⟩ ⟨_,_,⟨x3,xs4,x5⟩,_,rfl,ht4,so2,so2,so2,oz,rfl⟩

set_option maxHeartbeats 400000 in
theorem Zn9 (b:Nat) (q:Option Addr) (m cp p:Nat) (hp:p≤800000000000) (hm:m≤2000) (B:Kn) (hbm:Zak B q m):ZM (pj J) 52 [ptr ⟨b,0,none⟩] B [rd b q m cp p] (fun v B' Ls=>∃(aq:Option Addr) (cq:Nat) (qq:DQueue) (p':Nat),v = .agg #[.int .i64 qq.next,.slice aq qq.items.length cq]∧SlK B' aq cq 4 Zj qq.items∧p'≤p+1000∧Ls=[rd b q m cp p']):=by
 refine Zc 84 Tryz.func52 rfl rfl rfl (Nat.le_of_ble_eq_true rfl) ?_
 refine Za (xAl [_,_] ZiF (h:=fun b1=>Zw [_,_] rfl (Za (xM (h:=xX 0 rfl Za0 rfl (ZL _ _ _ _ _ _ oz oz oz hm _ hbm) (h:=?_))))))
 rintro _ _ ⟨ra,rfl,raa,rab,rfl⟩
 refine xD (h:=xBs [] [] Tryz.underlying25 Zer ZiD (h:=fun b3=>xB [(0,_),(1,_)] [_,_] [_,_] Zs7 ZiF (h:=xAl [_,_] ZiF (h:=fun b4=>xS [_,_] 3 [_,_] ZfI (h:=Zw [_,_,_,_] rfl (Za (xM (h:=xX 0 rfl Za0 rfl (ZL _ _ _ _ _ _ oz oz oz hm _ hbm) (h:=?_)))))))))
 rintro _ _ ⟨rb,rfl,rba,rbb,rfl⟩
 refine xA (h:=Zw [_,_,_,_] rfl (Zm (Za (xA (h:=Zr (ZU (α:=GQ) [0,2,3,4] (fun g=>[(5,.int .i64 g.k)]) [0,2,3] (fun g=>[rd b q m cp g.p,g.l,ZaY b4 [.int .i64 g.q.next,.slice g.a g.q.items.length g.c] 27]) (fun g Bx=>g.k≤8∧g.p≤p+2+40*g.k∧g.q.items.length≤2000000 - 8+g.k∧Z3 Bx g.l g.a g.c 80 4 Zj g.q.items) (fun g=>8 - g.k) ⟨0,p+2,_,_,_,⟨_,[]⟩⟩ t1 rfl (⟨Nat.zero_le _,Nat.le_refl _,Nat.zero_le _,.lit0⟩) (fun g B6 hle6 hI=>?_)))))))
 obtain ⟨hk,hgp,hgn,hv⟩:=hI
 replace hbm:=hbm.mono hle6
 refine ZQ [(0,_),(2,_),(3,_),(4,_),(5,_)] [_,_,_,_] t5 rfl (Zm (Za (xM (h:=xM (h:=Zai (h:=Zd rfl (fun g1=>?_) (fun g1=>?_)))))))
 try simp only [sQ,ne_eq] at g1
 refine Zi (Zf (Zm (Zr (Zkl (α:=GM) [0,2,3,4,5,17] (fun h=>[(6,ptr ⟨h.b,0,none⟩),(7,.bool h.f)]) [0] (fun h=>[rd b q m cp h.p]) (fun h=>[ZaY h.b [.int .i64 h.q.next,.slice h.a h.q.items.length h.c] 27,h.l]) (fun h Bx=>h.p≤g.p+20∧h.q.items.length≤g.q.items.length+1∧Z3 Bx h.l h.a h.c 80 4 Zj h.q.items) ?_ (fun h B7 hle7 hF=>?_)))))
 refine Z9 (keeps _ [3] _) mo kr ⟨Kn.le.refl _,Zar.refl _ _⟩ (fun _ _=>?_)
 refine aT 0 rfl (ZK fun D B L hI=>Zag [_,_] rfl rfl Zee rfl (Zad 3 (hI.2.1.trans rfl) rfl rfl) r4) (h:=aM 1 rfl (h:=Zap [2,7] kr kr kr ⟨?_,?_⟩))
 refine (Z8 [0] rfl rfl rfl rfl ZwY rfl (ZhS _ _ _ _ _ oz hm _ hbm) ?_)
 rintro _ Bu _ hleu ⟨qxu,cxu,xu,pu,rfl,htu,hfu,hwu,htnu,hpu,rfl⟩
 replace hv:=hv.mono Zj.mono hleu
 replace hbm:=hbm.mono hleu
 refine ⟨⟨hleu,t1⟩,(Zap [3,7] kr kr kr ⟨?_,?_⟩)⟩
 refine (Z8 [2] rfl rfl rfl rfl Zvu rfl (ZM.borrow fun hmv=>ZfV _ _ g.q _ _ xu _ (hv.lend Zj.mono hmv om) (htu.mono Za7.mono (Kn.le_add _ _)) (by first | assumption | omega | (simp;omega)) (by first | assumption | omega | (simp;omega))) ?_)
 rintro _ Bv _ hlev ⟨BBv,_,rfl,hBv,_,hmv,_,lv,av,cv,rfl,rfl,hvv⟩
 replace htu:=htu.mono Za7.mono hlev
 replace hv:=hv.mono Zj.mono hlev
 replace hbm:=hbm.mono hlev
 replace hvv:=hvv.mono Zj.mono (Kn.less_minus' hmv hBv)
 refine ⟨⟨(hleu.trans hlev),t1⟩,(aM 4 rfl (h:=aE 5 rfl (h:=aE 6 rfl (h:=Zv 7 kr rfl kr (Zam (l:=[_,_]) rfl rfl ZiF rfl (fun b10=>?_))))))⟩
 refine ⟨⟨(hleu.trans hlev),t1⟩,(ZbC 8 kr rfl kr kr (ZO [_,_] 5 [_,_] rfl rfl ZfI rfl rfl rfl rfl rfl rfl rfl rfl ?_))⟩
 refine aA 9 rfl (h:=ZD kr kr ?_)
 exact ZH ⟨_,pu,lv,av,cv,(Zhm g.q xu).1,_⟩ [0,1,2,3,5,4] ⟨hpu,Zhl _ _,hvv⟩ t8 rfl
 refine (Zam (l:=[_,_]) rfl rfl ZiF rfl (fun b11=>⟨⟨hleu,t1⟩,(Zv 3 kr rfl kr (Z8 [2] rfl rfl rfl rfl Zvu rfl (ZM.borrow fun hmv=>ZfV _ _ g.q _ _ xu _ (hv.lend Zj.mono hmv om) (htu.mono Za7.mono (Kn.le_add _ _)) (by first | assumption | omega | (simp;omega)) (by first | assumption | omega | (simp;omega))) ?_))⟩))
 rintro _ Bv _ hlev ⟨BBv,_,rfl,hBv,_,hmv,_,lv,av,cv,rfl,rfl,hvv⟩
 replace htu:=htu.mono Za7.mono hlev
 replace hv:=hv.mono Zj.mono hlev
 replace hbm:=hbm.mono hlev
 replace hvv:=hvv.mono Zj.mono (Kn.less_minus' hmv hBv)
 refine ⟨⟨(hleu.trans hlev),t1⟩,(aM 4 rfl (h:=aE 5 rfl (h:=aE 6 rfl (h:=ZbC 8 kr rfl kr kr (ZO [_,_] 4 [_,_] rfl rfl ZfI rfl rfl rfl rfl rfl rfl rfl rfl ?_)))))⟩
 refine aA 9 rfl (h:=ZD kr kr ?_)
 exact ZH ⟨_,pu,lv,av,cv,(Zhm g.q xu).1,_⟩ [0,1,2,3,4,5] ⟨hpu,Zhl _ _,hvv⟩ t8 rfl
 refine (Zam (l:=[_,_]) rfl rfl ZiF rfl (fun b13=>⟨⟨Kn.le.refl _,t1⟩,(Zv 2 kr rfl kr (Z8 [0] rfl rfl rfl rfl ZwY rfl (ZhS _ _ _ _ _ oz hm _ hbm) ?_))⟩))
 rintro _ Bu _ hleu ⟨qxu,cxu,xu,pu,rfl,htu,hfu,hwu,htnu,hpu,rfl⟩
 replace hv:=hv.mono Zj.mono hleu
 replace hbm:=hbm.mono hleu
 refine ⟨⟨hleu,t1⟩,(Zv 3 kr rfl kr (Z8 [2] rfl rfl rfl rfl Zvu rfl (ZM.borrow fun hmv=>ZfV _ _ g.q _ _ xu _ (hv.lend Zj.mono hmv om) (htu.mono Za7.mono (Kn.le_add _ _)) (by first | assumption | omega | (simp;omega)) (by first | assumption | omega | (simp;omega))) ?_))⟩
 rintro _ Bv _ hlev ⟨BBv,_,rfl,hBv,_,hmv,_,lv,av,cv,rfl,rfl,hvv⟩
 replace htu:=htu.mono Za7.mono hlev
 replace hv:=hv.mono Zj.mono hlev
 replace hbm:=hbm.mono hlev
 replace hvv:=hvv.mono Zj.mono (Kn.less_minus' hmv hBv)
 refine ⟨⟨(hleu.trans hlev),t1⟩,(aM 4 rfl (h:=aE 5 rfl (h:=aE 6 rfl (h:=ZbC 8 kr rfl kr kr (ZO [_,_] 4 [_,_] rfl rfl ZfI rfl rfl rfl rfl rfl rfl rfl rfl ?_)))))⟩
 refine aA 9 rfl (h:=ZD kr kr ?_)
 exact ZH ⟨_,pu,lv,av,cv,(Zhm g.q xu).1,_⟩ [0,1,2,3,4,5] ⟨hpu,Zhl _ _,hvv⟩ t8 rfl
 obtain ⟨hhp,hhn,hw⟩:=hF
 replace hv:=hv.mono Zj.mono hle7
 replace hbm:=hbm.mono hle7
 refine ZQ [(0,_),(2,_),(3,_),(4,_),(5,_),(6,_),(7,_),(17,_)] [_,_,_,_,_,_] t8 rfl (ZoS (α:=GQ) [0,2,3,4,5,6,7,17] (fun o=>[]) (fun o=>[rd b q m cp o.p,ZaY b1 [.int .i64 0,.slice none 0 0] 27,o.l,ZaY b4 [.int .i64 o.q.next,.slice o.a o.q.items.length o.c] 27]) (fun o Bx=>o.p≤g.p+20∧o.q.items.length≤g.q.items.length+1∧Z3 Bx o.l o.a o.c 80 4 Zj o.q.items) ?_ (fun o B16 hle16 hF=>?_))
 refine Za (xM (h:=Zd rfl (fun g2=>?_) (fun g2=>?_)))
 try simp only [sQ,ne_eq] at g2
 refine Ze (xL [_,_] Zee 4 (h:=xS [_,_] 3 [_,_] ZfI (h:=?_)))
 exact ZH ⟨0,h.p,h.l,h.a,h.c,h.q⟩ [0,1,5,3] ⟨hhp,hhn,hw⟩ t8 rfl
 try simp only [sQ,ne_eq] at g2
 refine Zi ?_
 exact ZH ⟨0,h.p,g.l,g.a,g.c,g.q⟩ [0,1,2,3] ⟨hhp,so,hv⟩ t8 rfl
 clear hv
 obtain ⟨hop,hon,hv⟩:=hF
 replace hbm:=hbm.mono hle16
 refine ZQ [(0,_),(2,_),(3,_),(4,_),(5,_),(6,_),(7,_),(17,_)] [_,_,_,_] t8 rfl (Za (xW ZaI (h:=x1 Zfz 3 (h:=xV Tryz.underlying25 (h:=ZbA (h:=xM (h:=Zt (d:=33) rfl (fun g3=>?_) (fun g3=>?_))))))))
 try simp only [sQ,ne_eq] at g3
 refine xM (h:=xX 0 rfl Za0 rfl (ZL _ _ _ _ _ _ oz oz oz hm _ hbm) (h:=?_))
 rintro _ _ ⟨r17,rfl,r17a,r17b,rfl⟩
 refine ZF (h:=xT (h:=Zw [_,_,_,_] rfl (Zd rfl (fun g4=>?_) (fun g4=>?_))))
 try simp only [sQ,ne_eq] at g4
 refine Z9 (keeps _ [2,3] _) mo kr ⟨Kn.le.refl _,Zar.refl _ _⟩ (fun _ _=>?_)
 refine aT 0 rfl (ZK fun D B L hI=>Zag [_,_] rfl rfl Zee rfl (Zad 3 (hI.2.2.1.trans rfl) rfl rfl) r4) (h:=aW 1 rfl ZaI (h:=aT 2 rfl (ZK fun D B L hI=>Zl rfl rfl Zfz rfl (atL 3 (hI.2.2.1.trans rfl) rfl rfl) r4) (h:=aM 3 rfl (h:=aW 4 rfl ZaI (h:=aT 5 rfl (ZK fun D B L hI=>Zl rfl rfl Zfz rfl (atL 3 (hI.2.2.1.trans rfl) rfl rfl) r4) (h:=aV 6 rfl Tryz.underlying25 (h:=aM 11 rfl (h:=Zap [7,12] kr kr kr ⟨?_,?_⟩))))))))
 refine (Zcp 0 rfl rfl rfl Za0 rfl (ZL _ _ _ _ _ _ oz oz oz hm _ hbm) ?_)
 rintro _ _ ⟨r18,rfl,r18a,r18b,rfl⟩
 refine ⟨⟨Kn.le.refl _,t2⟩,?_⟩
 obtain ⟨z19,hz19⟩:=Zd7 (xs:=o.q.items) (i:=r18) om om
 obtain ⟨bb20,_,hp20,⟨qi20,ci20,rfl,hi20,hb20,hb20b⟩,hw20,hc20⟩:=hv.row hz19
 have hi20n:=hi20.len
 refine aT 8 rfl (ZK fun D B L hI=>ZfO hp20 rfl rfl Tryz.underlying25 Zer rfl rfl om om r4) (h:=?_)
 refine aW 9 rfl ZeM (h:=aT 10 rfl (ZK fun D B L hI=>Zl rfl rfl lk3 rfl (hc20 _ 2 (hI.2.1.trans rfl) 0 _ rfl) r4) (h:=Zv 12 kr rfl kr (Zy (parts:=[(0,_),(1,_),(2,_)]) [_,_,_] rfl rfl Tryz.underlying78 sz9 zo9 rfl rfl rfl rfl rfl (fun b21=>?_))))
 refine ⟨⟨Kn.le.refl _,t2⟩,(Zv 13 kr rfl kr (Z8 [0,4] rfl rfl rfl rfl Zno rfl (Zpq _ _ _ _ _ _ ([[97,109,121],[98,111,98],[99,121,100]]:List Str) oz (by decide) (by decide) hm _ hbm) ?_))⟩
 rintro _ Bw _ hlew ⟨rfl,xw,hxw,rfl,rfl⟩
 replace hxw:=(show∀y∈( ([[97,109,121],[98,111,98],[99,121,100]]:List Str):List Str),y.length≤40 from by decide) _ hxw
 refine ⟨⟨Kn.le.refl _,t2⟩,(Zv 14 kr rfl kr (Z8 [2] rfl rfl rfl rfl ZwX rfl (ZM.borrow fun hm23=>Zi4 _ _ o.q z19.id xw _ (hv.lend Zj.mono hm23 om)) ?_))⟩
 rintro _ B23 _ hle23 ⟨BB23,_,rfl,hB23,_,hm23,_,l23,a23,c23,rfl,rfl,hv23,ht23⟩
 replace hi20:=hi20.mono Za7.mono hle23
 replace hv:=hv.mono Zj.mono hle23
 replace hbm:=hbm.mono hle23
 replace hv23:=hv23.mono Zj.mono (Kn.less_minus' hm23 hB23)
 refine ⟨⟨hle23,t2⟩,(aM 15 rfl (h:=aE 16 rfl (h:=aE 17 rfl (h:=aE 18 rfl (h:=ZbC 19 kr rfl kr kr (ZO [_,_] 3 [_,_] rfl rfl ZfI rfl rfl rfl rfl rfl rfl rfl rfl ?_))))))⟩
 refine ZD kr kr ?_
 refine Zz (Zf (Ze (xM (h:=xD (h:=xA (h:=?_))))))
 exact ZE ⟨g.k+1,(((o.p+1)+1)+1),l23,a23,c23,((ZcX o.q z19.id xw).1)⟩ [0,1,5,3] so2 ⟨so,so,Nat.le_trans (ZkN _ _ _) (so),hv23⟩ t5 rfl
 refine (Zy (parts:=[(0,_),(1,_),(2,_)]) [_,_,_] rfl rfl Tryz.underlying78 sz9 zo9 rfl rfl rfl rfl rfl (fun b24=>⟨⟨Kn.le.refl _,t2⟩,(Zv 7 kr rfl kr (Zcp 0 rfl rfl rfl Za0 rfl (ZL _ _ _ _ _ _ oz oz oz hm _ hbm) ?_))⟩))
 rintro _ _ ⟨r25,rfl,r25a,r25b,rfl⟩
 refine ⟨⟨Kn.le.refl _,t2⟩,?_⟩
 obtain ⟨z26,hz26⟩:=Zd7 (xs:=o.q.items) (i:=r25) om om
 obtain ⟨bb27,_,hp27,⟨qi27,ci27,rfl,hi27,hb27,hb27b⟩,hw27,hc27⟩:=hv.row hz26
 have hi27n:=hi27.len
 refine aT 8 rfl (ZK fun D B L hI=>ZfO hp27 rfl rfl Tryz.underlying25 Zer rfl rfl om om r4) (h:=?_)
 refine aW 9 rfl ZeM (h:=aT 10 rfl (ZK fun D B L hI=>Zl rfl rfl lk3 rfl (hc27 _ 2 (hI.2.1.trans rfl) 0 _ rfl) r4) (h:=Zv 13 kr rfl kr (Z8 [0,4] rfl rfl rfl rfl Zno rfl (Zpq _ _ _ _ _ _ ([[97,109,121],[98,111,98],[99,121,100]]:List Str) oz (by decide) (by decide) hm _ hbm) ?_)))
 rintro _ Bw _ hlew ⟨rfl,xw,hxw,rfl,rfl⟩
 replace hxw:=(show∀y∈( ([[97,109,121],[98,111,98],[99,121,100]]:List Str):List Str),y.length≤40 from by decide) _ hxw
 refine ⟨⟨Kn.le.refl _,t2⟩,(Zv 14 kr rfl kr (Z8 [2] rfl rfl rfl rfl ZwX rfl (ZM.borrow fun hm29=>Zi4 _ _ o.q z26.id xw _ (hv.lend Zj.mono hm29 om)) ?_))⟩
 rintro _ B29 _ hle29 ⟨BB29,_,rfl,hB29,_,hm29,_,l29,a29,c29,rfl,rfl,hv29,ht29⟩
 replace hi27:=hi27.mono Za7.mono hle29
 replace hv:=hv.mono Zj.mono hle29
 replace hbm:=hbm.mono hle29
 replace hv29:=hv29.mono Zj.mono (Kn.less_minus' hm29 hB29)
 refine ⟨⟨hle29,t2⟩,(aM 15 rfl (h:=aE 16 rfl (h:=aE 17 rfl (h:=aE 18 rfl (h:=ZbC 19 kr rfl kr kr (ZO [_,_] 3 [_,_] rfl rfl ZfI rfl rfl rfl rfl rfl rfl rfl rfl ?_))))))⟩
 refine ZD kr kr ?_
 refine Zz (Zf (Ze (xM (h:=xD (h:=xA (h:=?_))))))
 exact ZE ⟨g.k+1,(((o.p+1)+1)+1),l29,a29,c29,((ZcX o.q z26.id xw).1)⟩ [0,1,5,3] so2 ⟨so,so,Nat.le_trans (ZkN _ _ _) (so),hv29⟩ t5 rfl
 try simp only [sQ,ne_eq] at g4
 refine Zi (Zz (Zf (Ze (xM (h:=xD (h:=xA (h:=?_)))))))
 exact ZE ⟨g.k+1,(o.p+1),o.l,o.a,o.c,o.q⟩ [0,1,2,3] so2 ⟨so,so,so,hv⟩ t5 rfl
 try simp only [sQ,ne_eq] at g3
 refine xP (h:=xP (h:=xP (h:=xF (h:=Zd (t:=false) rfl (fun h=>Bool.noConfusion h) (fun _=>Zi (Zz (Zf (Ze (xM (h:=xD (h:=xA (h:=?_))))))))))))
 exact ZE ⟨g.k+1,o.p,o.l,o.a,o.c,o.q⟩ [0,1,2,3] so2 ⟨so,so,so,hv⟩ t5 rfl
 try simp only [sQ,ne_eq] at g1
 refine ZY (Zal (Z6 (ZN (Zf (Zm (Za (xM (h:=xX 0 rfl Za0 rfl (ZL _ _ _ _ _ _ oz oz oz hm _ hbm) (h:=?_)))))))))
 rintro _ _ ⟨r30,rfl,r30a,r30b,rfl⟩
 refine Zw [_,_,_,_] rfl (Zr (Za (ZF (h:=xA (h:=Zd rfl (fun g2=>?_) (fun g2=>?_))))))
 try simp only [sQ,ne_eq] at g2
 refine Ze (xBs [(0,_),(1,_),(2,_),(3,_),(4,_)] [_,_,_,_,_] Tryz.underlying142 sz3 zo3 (h:=fun b31=>ZZ 4 rfl (Z3.ints (ls:=([0,1,99,100,101]:List Int))) Zbu.mono om3 (fun B32 hle32 hr32=>?_)))
 replace hv:=hv.mono Zj.mono hle32
 replace hbm:=hbm.mono hle32
 have hr32n:=hr32.len
 refine xM (h:=xX 0 rfl Za0 rfl (ZL _ _ _ _ _ _ oz oz oz hm _ hbm) (h:=?_))
 rintro _ _ ⟨r33,rfl,r33a,r33b,rfl⟩
 obtain ⟨z34,hz34⟩:=Zd7 (xs:=([0,1,99,100,101]:List Int)) (i:=r33) om om
 obtain ⟨_,rfl,hc35⟩:=hr32.elem hz34
 refine xIx Tryz.underlying142 sz3 (h:=y1 lk3 hc35 0 (h:=xW ZeN (h:=xS [_] 3 [_,_] sz3 (h:=Zz (Zf (ZdA 2 rfl hv Zj.mono om3 (fun B36 hle36 hr36=>?_)))))))
 replace hr32:=hr32.mono Zbu.mono hle36
 replace hc35:=hc35.mono hle36
 replace hbm:=hbm.mono hle36
 have hr36n:=hr36.len
 refine Za (xL [_,_] Zee 3 (h:=xS [_,_] 1 [_,_] ZfI (h:=Zw [_,_,_,_,_] rfl (Zg ?_))))
 exact Zaf .ret (.inl rfl) [_] [0] rfl ⟨⟨_,rfl,.inr ⟨[_,_],Zee,Zad 1 rfl rfl rfl,rfl⟩⟩,trivial⟩ ⟨_,_,⟨z34,g.q.items⟩,_,(ol),hr36,oz,rfl⟩
 try simp only [sQ,ne_eq] at g2
 refine Za (ZF (h:=xA (h:=Zd rfl (fun g3=>?_) (fun g3=>?_))))
 try simp only [sQ,ne_eq] at g3
 refine Za (xW ZaI (h:=x1 Zfz 3 (h:=xV Tryz.underlying25 (h:=ZbA (h:=Zd rfl (fun g4=>?_) (fun g4=>?_))))))
 try simp only [sQ,ne_eq] at g4
 refine Z9 (keeps _ [2,3] _) mo kr ⟨Kn.le.refl _,Zar.refl _ _⟩ (fun _ _=>?_)
 refine aW 0 rfl ZaI (h:=aT 1 rfl (ZK fun D B L hI=>Zl rfl rfl Zfz rfl (atL 3 (hI.2.2.1.trans rfl) rfl rfl) r4) (h:=aM 2 rfl (h:=aW 3 rfl ZaI (h:=aT 4 rfl (ZK fun D B L hI=>Zl rfl rfl Zfz rfl (atL 3 (hI.2.2.1.trans rfl) rfl rfl) r4) (h:=aV 5 rfl Tryz.underlying25 (h:=Zap [6,7] kr kr kr ⟨?_,?_⟩))))))
 refine (Zcp 0 rfl rfl rfl Za0 rfl (ZL _ _ _ _ _ _ oz oz oz hm _ hbm) ?_)
 rintro _ _ ⟨r37,rfl,r37a,r37b,rfl⟩
 refine ⟨⟨Kn.le.refl _,t2⟩,(Zv 7 kr rfl kr (Zy (parts:=[]) [] rfl rfl Tryz.underlying78 sz9 zo9 rfl rfl rfl rfl rfl (fun b38=>?_)))⟩
 refine ⟨⟨Kn.le.refl _,t2⟩,?_⟩
 obtain ⟨z39,hz39⟩:=Zd7 (xs:=g.q.items) (i:=r37) om om
 obtain ⟨bb40,_,hp40,⟨qi40,ci40,rfl,hi40,hb40,hb40b⟩,hw40,hc40⟩:=hv.row hz39
 have hi40n:=hi40.len
 refine aT 8 rfl (ZK fun D B L hI=>ZfO hp40 rfl rfl Tryz.underlying25 Zer rfl rfl om om r4) (h:=?_)
 refine aW 9 rfl ZbG (h:=ZV 10 kr rfl kr kr kr (Zd8 (k:=(r37).toNat) (off:=3) (⟨z39.id,z39.fr,z39.text,[]⟩) [_] 2 hv hp40 hz39 rfl rfl Zuu rfl rfl rfl rfl rfl rfl (by rintro _ ⟨_,_,rfl,_,e1,e2⟩;exact ⟨_,_,rfl,SlK.nil,e1,e2⟩) (fun l41 hv41=>?_)))
 refine Zz (Zf (ZdA 2 rfl hv41 Zj.mono om3 (fun B42 hle42 hr42=>?_)))
 replace hi40:=hi40.mono Za7.mono hle42
 replace hbm:=hbm.mono hle42
 have hr42n:=hr42.len
 refine Za (xL [_,_] Zee 3 (h:=xS [_,_] 1 [_,_] ZfI (h:=Zw [_,_,_,_,_] rfl (Zg ?_))))
 exact Zaf .ret (.inl rfl) [_] [0] rfl ⟨⟨_,rfl,.inr ⟨[_,_],Zee,Zad 1 rfl rfl rfl,rfl⟩⟩,trivial⟩ ⟨_,_,⟨g.q.next,(g.q.items.set ((r37).toNat) (⟨z39.id,z39.fr,z39.text,[]⟩))⟩,_,(ol),hr42,oz,rfl⟩
 refine (Zy (parts:=[]) [] rfl rfl Tryz.underlying78 sz9 zo9 rfl rfl rfl rfl rfl (fun b43=>⟨⟨Kn.le.refl _,t2⟩,(Zv 6 kr rfl kr (Zcp 0 rfl rfl rfl Za0 rfl (ZL _ _ _ _ _ _ oz oz oz hm _ hbm) ?_))⟩))
 rintro _ _ ⟨r44,rfl,r44a,r44b,rfl⟩
 refine ⟨⟨Kn.le.refl _,t2⟩,?_⟩
 obtain ⟨z45,hz45⟩:=Zd7 (xs:=g.q.items) (i:=r44) om om
 obtain ⟨bb46,_,hp46,⟨qi46,ci46,rfl,hi46,hb46,hb46b⟩,hw46,hc46⟩:=hv.row hz45
 have hi46n:=hi46.len
 refine aT 8 rfl (ZK fun D B L hI=>ZfO hp46 rfl rfl Tryz.underlying25 Zer rfl rfl om om r4) (h:=?_)
 refine aW 9 rfl ZbG (h:=ZV 10 kr rfl kr kr kr (Zd8 (k:=(r44).toNat) (off:=3) (⟨z45.id,z45.fr,z45.text,[]⟩) [_] 2 hv hp46 hz45 rfl rfl Zuu rfl rfl rfl rfl rfl rfl (by rintro _ ⟨_,_,rfl,_,e1,e2⟩;exact ⟨_,_,rfl,SlK.nil,e1,e2⟩) (fun l47 hv47=>?_)))
 refine Zz (Zf (ZdA 2 rfl hv47 Zj.mono om3 (fun B48 hle48 hr48=>?_)))
 replace hi46:=hi46.mono Za7.mono hle48
 replace hbm:=hbm.mono hle48
 have hr48n:=hr48.len
 refine Za (xL [_,_] Zee 3 (h:=xS [_,_] 1 [_,_] ZfI (h:=Zw [_,_,_,_,_] rfl (Zg ?_))))
 exact Zaf .ret (.inl rfl) [_] [0] rfl ⟨⟨_,rfl,.inr ⟨[_,_],Zee,Zad 1 rfl rfl rfl,rfl⟩⟩,trivial⟩ ⟨_,_,⟨g.q.next,(g.q.items.set ((r44).toNat) (⟨z45.id,z45.fr,z45.text,[]⟩))⟩,_,(ol),hr48,oz,rfl⟩
 try simp only [sQ,ne_eq] at g4
 refine Zi (Zz (Zf (ZdA 2 rfl hv Zj.mono om3 (fun B49 hle49 hr49=>?_))))
 replace hbm:=hbm.mono hle49
 have hr49n:=hr49.len
 refine Za (xL [_,_] Zee 3 (h:=xS [_,_] 1 [_,_] ZfI (h:=Zw [_,_,_,_] rfl (Zg ?_))))
 exact Zaf .ret (.inl rfl) [_] [0] rfl ⟨⟨_,rfl,.inr ⟨[_,_],Zee,Zad 1 rfl rfl rfl,rfl⟩⟩,trivial⟩ ⟨_,_,g.q,_,(ol),hr49,oz,rfl⟩
 try simp only [sQ,ne_eq] at g3
 refine Zi (Zz (Zf (ZdA 2 rfl hv Zj.mono om3 (fun B50 hle50 hr50=>?_))))
 replace hbm:=hbm.mono hle50
 have hr50n:=hr50.len
 refine Za (xL [_,_] Zee 3 (h:=xS [_,_] 1 [_,_] ZfI (h:=Zw [_,_,_,_] rfl (Zg ?_))))
 exact Zaf .ret (.inl rfl) [_] [0] rfl ⟨⟨_,rfl,.inr ⟨[_,_],Zee,Zad 1 rfl rfl rfl,rfl⟩⟩,trivial⟩ ⟨_,_,g.q,_,(ol),hr50,oz,rfl⟩

set_option maxHeartbeats 400000 in
theorem ZpS (q:Option Addr) (m cp:Nat) (B:Kn):Za1 (pj J) 188 [.slice q m cp] B (.int .i64 m):=by
 refine Zc 5 Tryz.func188 rfl rfl rfl (Nat.le_of_ble_eq_true rfl) ?_
 refine Za (xA (h:=Za (xM (h:=xV Tryz.underlying161 (h:=xA (h:=Zg ?_))))))
 exact ZW .ret (.inl rfl) [_] t1 ⟨rfl,rfl,rfl⟩

set_option maxHeartbeats 400000 in
theorem Zf5 (q:Option Addr) (cp:Nat) (xs:List Int) (i j:Nat) (a b:Int) (hi:xs[i]? = some a) (hj:xs[j]? = some b) (B:Kn) (hx:SlK B q cp 1 Zbu xs):Za1 (pj J) 189 [.slice q xs.length cp,.int .i64 i,.int .i64 j] B (.bool (decide (a<b))):=by
 refine Zc 16 Tryz.func189 rfl rfl rfl (Nat.le_of_ble_eq_true rfl) ?_
 have hil:=Zb6 hi
 have hjl:=Zb6 hj
 refine Za (xA (h:=Zm (Z9 (same _ _) mo kr ⟨rfl,rfl⟩ (fun _ _=>?_))))
 refine aM 0 rfl (h:=aM 1 rfl (h:=?_))
 obtain ⟨z,hz⟩:=Zax (xs:=xs) (i:=i) om
 obtain ⟨bb2,oo2,rfl⟩:=hx.base hz
 obtain ⟨_,rfl,hc3⟩:=hx.elem hz
 refine aIx 2 rfl Tryz.underlying142 sz3 (h:=aT 3 rfl (Zan fun D=>Zl rfl rfl lk3 rfl (hc3 _ 0 _ rfl) r4) (h:=aM 4 rfl (h:=aM 5 rfl (h:=?_))))
 obtain ⟨w,hw⟩:=Zax (xs:=xs) (i:=j) om
 obtain ⟨_,rfl,hc5⟩:=hx.elem hw
 refine aIx 6 rfl Tryz.underlying142 sz3 (h:=?_)
 rw [hi] at hz
 cases hz
 rw [hj] at hw
 cases hw
 refine aT 7 rfl (Zan fun D=>Zl rfl rfl lk3 rfl (hc5 _ 0 _ rfl) r4) (h:=ZqM 8 rfl (h:=aA 9 rfl (h:=ZD kr kr ?_)))
 refine Zf (Zg ?_)
 exact ZW .ret (.inl rfl) [_] t1 ⟨rfl,rfl,rfl⟩

set_option maxHeartbeats 400000 in
theorem ZrK (b:Nat) (q:Option Addr) (cp:Nat) (xs:List Int) (l:Cells) (z:Int) (hn:xs.length≤2000000) (B:Kn) (hv:Z3 B l q cp 3 1 Zbu xs):ZM (pj J) 191 [ptr ⟨b,0,none⟩,.iface 3 (.int .i64 z)] B [ZaY b [.slice q xs.length cp] 161,l] (fun v B' Ls=>B'=B∧∃q' c' l',Ls=[ZaY b [.slice q' (xs ++ [z]).length c'] 161,l']∧Z3 B l' q' c' 3 1 Zbu (xs ++ [z])):=by
 refine Zc 13 Tryz.func191 rfl rfl rfl (Nat.le_of_ble_eq_true rfl) ?_
 refine Z9 (keeps _ [0] _) mo kr ⟨Kn.le.refl _,Zar.refl _ _⟩ (fun _ _=>?_)
 refine aM 0 rfl (h:=aM 1 rfl (h:=aNc 2 rfl (h:=aT 3 rfl (ZK fun D B L hI=>Zl rfl rfl Ze6 rfl (atL 0 (hI.2.1.trans rfl) rfl rfl) r4) (h:=aM 4 rfl (h:=aT 5 rfl (ZK fun D B L hI=>Zko rfl rfl Tryz.underlying3 rfl rfl r4) (h:=Zv 6 kr rfl kr (Zy (parts:=[(0,_)]) [_] rfl rfl Tryz.underlying142 sz3 zo3 rfl rfl rfl rfl rfl (fun b1=>?_))))))))
 refine ⟨⟨Kn.le.refl _,t1⟩,(Zv 7 kr rfl kr (Za8 (z:=z) (R:=Zbu) 1 rfl hv rfl rfl rfl Zv9 ZvX rfl rfl (ZaV.box 2 rfl) rfl rfl (rfl) om (fun l2 p2 c2 hv2=>?_)))⟩
 refine ⟨⟨Kn.le.refl _,t1⟩,(aNc 8 rfl (h:=ZV 9 kr rfl kr kr kr (ZO [_] 0 [_] rfl rfl Zuy rfl rfl rfl rfl rfl rfl rfl rfl ?_)))⟩
 exact Zaf .normal (.inr rfl) [] [0,1] rfl trivial ⟨rfl,_,_,_,rfl,hv2⟩

set_option maxHeartbeats 400000 in
theorem Ztv (b:Nat) (q:Option Addr) (cp:Nat) (xs:List Int) (l:Cells) (z:Int) (hz:xs[xs.length - 1]? = some z) (hn:xs.length≤2000000) (B:Kn) (hv:Z3 B l q cp 3 1 Zbu xs):ZM (pj J) 190 [ptr ⟨b,0,none⟩] B [ZaY b [.slice q xs.length cp] 161,l] (fun v B' Ls=>B'=B∧v = .iface 3 (.int .i64 z)∧Ls=[ZaY b [.slice q (xs.length - 1) cp] 161,l]∧Z3 B l q cp 3 1 Zbu (xs.take (xs.length - 1))):=by
 refine Zc 25 Tryz.func190 rfl rfl rfl (Nat.le_of_ble_eq_true rfl) ?_
 have hl1:=Zb6 hz
 have hcp:=hv.cap
 have hv9:=hv.take (k:=xs.length - 1) oz
 have hs0:=hv.slice0 (sz:=1)
 refine Za (xA (h:=Za (xM (h:=xNc (h:=x1 Ze6 0 (h:=xV Tryz.underlying161 (h:=Zn (ZiH (r:=((xs.length - 1:Nat):Int)) rfl rfl rfl rfl (by rw [show ((xs.length:Int) - 1)=((xs.length - 1:Nat):Int) from by omega];exact ZaK oz oz) ?_))))))))
 refine xA (h:=Za (xM (h:=xNc (h:=x1 Ze6 0 (h:=xM (h:=?_))))))
 obtain ⟨w,hw⟩:=Zax (xs:=xs) (i:=(xs.length - 1)) om
 obtain ⟨bb2,_,hp2,rfl,hw2,hc2⟩:=hv.row hw
 refine xIp hp2 Tryz.underlying142 sz3 (h:=?_)
 rw [hz] at hw
 cases hw
 refine Zn (Zl rfl rfl lk3 rfl (hc2 _ 1 rfl 0 _ rfl) (xA (h:=Za (xM (h:=xM (h:=xNc (h:=x1 Ze6 0 (h:=xM (h:=Zn (ZeX rfl rfl Tryz.underlying142 sz3 rfl (a:=0) (b:=xs.length - 1) rfl ⟨_,_,rfl,rfl⟩ oz oz ?_))))))))))
 rw [hs0]
 refine xNc (h:=xS [_] 0 [_] Zuy (h:=Zw [_,_] rfl (Za (xM (h:=Zn (Zd9 rfl rfl Tryz.underlying3 rfl rfl (xA (h:=Zg ?_))))))))
 exact Zaf .ret (.inl rfl) [_] [0,1] rfl t1 ⟨rfl,rfl,rfl,hv9⟩

set_option maxHeartbeats 400000 in
theorem Zf4 (q:Option Addr) (cp:Nat) (xs:List Int) (l:Cells) (i j:Nat) (a b:Int) (hi:xs[i]? = some a) (hj:xs[j]? = some b) (hn:xs.length≤2000000) (B:Kn) (hv:Z3 B l q cp 3 1 Zbu xs):ZM (pj J) 192 [.slice q xs.length cp,.int .i64 i,.int .i64 j] B [l] (fun v B' Ls=>B'=B∧∃l',Ls=[l']∧Z3 B l' q cp 3 1 Zbu ((xs.set i b).set j a)):=by
 refine Zc 20 Tryz.func192 rfl rfl rfl (Nat.le_of_ble_eq_true rfl) ?_
 have hil:=Zb6 hi
 have hjl:=Zb6 hj
 refine Z9 (keeps _ [0] _) mo kr ⟨Kn.le.refl _,Zar.refl _ _⟩ (fun _ _=>?_)
 refine aM 0 rfl (h:=aM 1 rfl (h:=aM 2 rfl (h:=aM 3 rfl (h:=aM 4 rfl (h:=aM 5 rfl (h:=?_))))))
 obtain ⟨y,hy⟩:=Zax (xs:=xs) (i:=j) om
 obtain ⟨bb2,_,hp2,rfl,hw2,hc2⟩:=hv.row hy
 refine aT 6 rfl (ZK fun D B L hI=>ZfO hp2 rfl rfl Tryz.underlying142 sz3 rfl rfl om om r4) (h:=?_)
 refine aT 7 rfl (ZK fun D B L hI=>Zl rfl rfl lk3 rfl (hc2 _ 0 (hI.2.1.trans rfl) 0 _ rfl) r4) (h:=aM 8 rfl (h:=aM 9 rfl (h:=?_)))
 obtain ⟨x,hx⟩:=Zax (xs:=xs) (i:=i) om
 obtain ⟨bb4,_,hp4,rfl,hw4,hc4⟩:=hv.row hx
 refine aT 10 rfl (ZK fun D B L hI=>ZfO hp4 rfl rfl Tryz.underlying142 sz3 rfl rfl om om r4) (h:=?_)
 refine aT 11 rfl (ZK fun D B L hI=>Zl rfl rfl lk3 rfl (hc4 _ 0 (hI.2.1.trans rfl) 0 _ rfl) r4) (h:=?_)
 obtain ⟨bb5,_,hp5,rfl,hw5,hc5⟩:=hv.row hx
 refine aT 12 rfl (ZK fun D B L hI=>ZfO hp5 rfl rfl Tryz.underlying142 sz3 rfl rfl om om r4) (h:=?_)
 refine ZbC 13 kr rfl kr kr (Zd8 (k:=i) (off:=0) (y) [_] 0 hv hp5 hx rfl rfl sz3 rfl rfl rfl rfl rfl rfl ((fun row h=>by cases h;rfl)) (fun l6 hv6=>?_))
 obtain ⟨w,hw⟩:=Zax (xs:=(xs.set i (y))) (i:=j) om
 obtain ⟨bb8,_,hp8,rfl,hw8,hc8⟩:=hv6.row hw
 refine aT 14 rfl (ZK fun D B L hI=>ZfO hp8 rfl rfl Tryz.underlying142 sz3 rfl rfl om om r4) (h:=?_)
 refine ZV 15 kr rfl kr kr kr (Zd8 (k:=j) (off:=0) (x) [_] 0 hv6 hp8 hw rfl rfl sz3 rfl rfl rfl rfl rfl rfl ((fun row h=>by cases h;rfl)) (fun l9 hv9=>?_))
 rw [hi] at hx
 cases hx
 rw [hj] at hy
 cases hy
 exact Zaf .normal (.inr rfl) [] [0] rfl trivial ⟨rfl,_,rfl,hv9⟩

set_option maxHeartbeats 400000 in
theorem ZrN (b:Nat) (q:Option Addr) (cp:Nat) (xs:List Int) (l:Cells) (j:Nat) (hj:j<xs.length) (hn:xs.length≤2000000) (hh:ZfH xs j) (B:Kn) (hv:Z3 B l q cp 3 1 Zbu xs):ZM (pj J) 146 [.iface 160 (ptr ⟨b,0,none⟩),.int .i64 j] B [ZaY b [.slice q xs.length cp] 161,l] (fun v B' Ls=>B'=B∧∃ys l',Ls=[ZaY b [.slice q ys.length cp] 161,l']∧Z3 B l' q cp 3 1 Zbu ys∧ys.Perm xs∧Zdv ys):=by
 refine Zc 23 Tryz.func146 rfl rfl rfl (Nat.le_of_ble_eq_true rfl) ?_
 refine Zr (ZU (α:=Nat × List Int × Cells) [0] (fun g=>[(1,.int .i64 g.1)]) [0,1] (fun g=>[ZaY b [.slice q g.2.1.length cp] 161,g.2.2]) (fun g Bx=>Bx=B∧g.1<g.2.1.length∧g.2.1.Perm xs∧ZfH g.2.1 g.1∧Z3 B g.2.2 q cp 3 1 Zbu g.2.1) (fun g=>g.1) (j,xs,l) t1 rfl (⟨rfl,hj,.refl _,hh,hv⟩) (fun g B1 hle1 hI=>?_))
 obtain ⟨rfl,hk,hp,hb,hv⟩:=hI
 have hpl:=hp.length_eq
 refine ZQ [(0,_),(1,_)] [_,_] t2 rfl (Zr (Za (xM (h:=Zn (ZiH rfl rfl rfl rfl (ZaK oz oz) ?_)))))
 refine Zn (Zfj (r:=(((g.1 - 1) / 2:Nat):Int)) rfl rfl rfl rfl oz (by rw [show Int.tdiv ((g.1:Int) - 1) 2=(((g.1 - 1) / 2:Nat):Int) from ZvT g.1];exact ZaK oz oz) ?_)
 refine xA (h:=Zm (Za (xM (h:=xM (h:=ZF (h:=xM (h:=Zt (d:=11) rfl (fun g1=>?_) (fun g1=>?_))))))))
 try simp only [sQ,ne_eq] at g1
 refine xP (h:=xP (h:=xP (h:=xP (h:=xP (h:=xT (h:=Zd (t:=true) rfl (fun _=>ZY (Zal (Ze2 rfl (Z6 (ZN ?_))))) (fun h=>Bool.noConfusion h)))))))
 exact Zaf .normal (.inr rfl) [] [0,1] rfl trivial ⟨rfl,_,_,rfl,hv,hp,ZsV (by rw [show g.1=0 from by omega] at hb;exact hb)⟩
 try simp only [sQ,ne_eq] at g1
 refine xM (h:=xM (h:=xM (h:=Zn (Zfk 1 rfl rfl rfl Zqm rfl rfl (Zbx Zd0 Tryz.underlying160 Ze6 (atL 0 rfl rfl rfl)) (Za1.borrow fun hm2=>Zf5 _ _ _ _ _ _ _ (Za5 oz) (Za5 oz) _ (hv.lend Zbu.mono hm2 om)) ?_))))
 refine xN (h:=xF (h:=Zd rfl (fun g2=>?_) (fun g2=>?_)))
 try simp only [sQ,ne_eq] at g2
 refine ZY (Zal (Ze2 rfl (Z6 (ZN ?_))))
 exact Zaf .normal (.inr rfl) [] [0,1] rfl trivial ⟨rfl,_,_,rfl,hv,hp,ZsX hb (by simpa using g2)⟩
 try simp only [sQ,ne_eq] at g2
 refine Zi (Zf (Za (xM (h:=xM (h:=xM (h:=Zn (ZgG [1] rfl rfl rfl rfl Zql rfl rfl (Zbx ZdZ Tryz.underlying160 Ze6 (atL 0 rfl rfl rfl)) (Zf4 _ _ _ _ _ _ _ _ (Za5 oz) (Za5 oz) oz _ hv) ?_)))))))
 rintro _ B3 _ hle3 ⟨rfl,l3,rfl,hv3⟩
 refine Zw [_,_] rfl (Ze (xM (h:=xA (h:=Zz ?_))))
 rw [← Zdi g.2.1 ((g.1 - 1) / 2) g.1]
 exact ZE ((g.1 - 1) / 2,(swp g.2.1 ((g.1 - 1) / 2) g.1),l3) [0,1] (so) ⟨rfl,by have:=Zdi g.2.1 ((g.1 - 1) / 2) g.1;simp only [];omega,(ZfS oz oz).trans hp,ZsW oz oz hb (by simpa using g2),hv3⟩ t2 rfl

set_option maxHeartbeats 400000 in
theorem Zok (b:Nat) (q:Option Addr) (cp:Nat) (xs:List Int) (l:Cells) (z:Int) (hn:xs.length<2000000) (hh:Zdv xs) (B:Kn) (hv:Z3 B l q cp 3 1 Zbu xs):ZM (pj J) 101 [.iface 160 (ptr ⟨b,0,none⟩),.iface 3 (.int .i64 z)] B [ZaY b [.slice q xs.length cp] 161,l] (fun v B' Ls=>B'=B∧∃q' c' ys l',Ls=[ZaY b [.slice q' ys.length c'] 161,l']∧Z3 B l' q' c' 3 1 Zbu ys∧ys.Perm (xs ++ [z])∧Zdv ys):=by
 refine Zc 12 Tryz.func101 rfl rfl rfl (Nat.le_of_ble_eq_true rfl) ?_
 refine Za (xM (h:=xM (h:=Zn (ZgG [0,1] rfl rfl rfl rfl Zwh rfl rfl (Zld Zn4 Tryz.underlying160) (ZrK _ _ _ _ _ _ oz _ hv) ?_))))
 rintro _ B1 _ hle1 ⟨rfl,q1,c1,l1,rfl,hv1⟩
 refine Zw [_,_] rfl (Ze (xM (h:=xM (h:=Zn (Zfk 1 rfl rfl rfl Zu4 rfl rfl (Zbx ZkS Tryz.underlying160 Ze6 (atL 0 rfl rfl rfl)) (Za1.borrow fun hm2=>ZpS _ _ _ _) (Zn (ZiH (r:=((xs.length:Nat):Int)) rfl rfl rfl rfl ((congrArg _ (show _=((xs.length:Nat):Int) from by rw [List.length_append,List.length_singleton];omega)).trans (ZaK oz oz)) ?_)))))))
 refine Zn (Z8 [0,1] rfl rfl rfl rfl Zwu rfl (ZrN _ _ _ _ _ _ (by simp) (by simp;omega) (Zrd hh) _ hv1) ?_)
 rintro _ Bu _ hleu ⟨rfl,ysu,lu,rfl,hvu,hpu,hhu⟩
 exact Zaf .normal (.inr rfl) [] [0,1] rfl trivial ⟨rfl,_,_,_,_,rfl,hvu,hpu,hhu⟩

set_option maxHeartbeats 400000 in
theorem Zom (b:Nat) (q:Option Addr) (cp:Nat) (xs:List Int) (l:Cells) (m:Nat) (hm:m≤xs.length) (hm0:0<xs.length) (hn:xs.length≤2000000) (hh:ZeV xs m 0) (B:Kn) (hv:Z3 B l q cp 3 1 Zbu xs):ZM (pj J) 147 [.iface 160 (ptr ⟨b,0,none⟩),.int .i64 0,.int .i64 m] B [ZaY b [.slice q xs.length cp] 161,l] (fun v B' Ls=>B'=B∧∃ys l',Ls=[ZaY b [.slice q ys.length cp] 161,l']∧Z3 B l' q cp 3 1 Zbu ys∧ys.Perm xs∧Zsr ys m∧(∀k,m≤k→hat ys k=hat xs k)):=by
 refine Zc 48 Tryz.func147 rfl rfl rfl (Nat.le_of_ble_eq_true rfl) ?_
 refine Za (xA (h:=Za (xM (h:=xA (h:=Zm (Zr (ZU (α:=Nat × List Int × Cells) [0,1,2,6] (fun g=>[(7,.int .i64 g.1)]) [0,1] (fun g=>[ZaY b [.slice q g.2.1.length cp] 161,g.2.2]) (fun g Bx=>Bx=B∧g.1<g.2.1.length∧g.2.1.Perm xs∧ZeV g.2.1 m g.1∧(∀k,m≤k→hat g.2.1 k=hat xs k)∧Z3 B g.2.2 q cp 3 1 Zbu g.2.1) (fun g=>xs.length - g.1) (0,xs,l) t1 rfl (⟨rfl,hm0,.refl _,hh,fun _ _=>rfl,hv⟩) (fun g B1 hle1 hI=>?_))))))))
 obtain ⟨rfl,hk,hp,hb,hs,hv⟩:=hI
 have hpl:=hp.length_eq
 refine ZQ [(0,_),(1,_),(2,_),(6,_),(7,_)] [_,_] t5 rfl (Zr (Za (xM (h:=Zn (Zkk (r:=((2*g.1:Nat):Int)) rfl rfl rfl rfl ((congrArg _ (show _=((2*g.1:Nat):Int) from by omega)).trans (ZaK oz oz)) ?_)))))
 refine Zn (Zeu (r:=((2*g.1+1:Nat):Int)) rfl rfl rfl rfl ((congrArg _ (show _=((2*g.1+1:Nat):Int) from by omega)).trans (ZaK oz oz)) ?_)
 refine xA (h:=Zm (Za (xM (h:=xM (h:=ZdS (h:=xM (h:=Zt (d:=18) rfl (fun g1=>?_) (fun g1=>?_))))))))
 try simp only [sQ,ne_eq] at g1
 refine xP (h:=xP (h:=xT (h:=Zd (t:=true) rfl (fun _=>ZY (Zal (Ze2 rfl (Z6 (ZN (Zf (Za (xM (h:=xM (h:=ZbA (h:=xA (h:=Zg ?_)))))))))))) (fun h=>Bool.noConfusion h))))
 exact Zaf .ret (.inl rfl) [_] [0,1] rfl t1 ⟨rfl,_,_,rfl,hv,hp,Zqs hb oz,hs⟩
 try simp only [sQ,ne_eq] at g1
 refine xM (h:=Zai (h:=xF (h:=Zd rfl (fun g2=>by have:=of_decide_eq_true g2;omega) (fun g2=>?_))))
 try simp only [sQ,ne_eq] at g2
 refine Zi (Zf (Za (xM (h:=xA (h:=Zm (Za (xM (h:=Zn (Zeu (r:=((2*g.1+1+1:Nat):Int)) rfl rfl rfl rfl ((congrArg _ (show _=((2*g.1+1+1:Nat):Int) from by omega)).trans (ZaK oz oz)) ?_)))))))))
 refine xA (h:=Za (xM (h:=xM (h:=Zai (h:=xM (h:=Zt (d:=28) rfl (fun g3=>?_) (fun g3=>?_)))))))
 try simp only [sQ,ne_eq] at g3
 refine xM (h:=xM (h:=xM (h:=Zn (Zfk 1 rfl rfl rfl Zqm rfl rfl (Zbx Zd0 Tryz.underlying160 Ze6 (atL 0 rfl rfl rfl)) (Za1.borrow fun hm2=>Zf5 _ _ _ _ _ _ _ (Za5 oz) (Za5 oz) _ (hv.lend Zbu.mono hm2 om)) ?_))))
 refine xT (h:=Zd rfl (fun g4=>?_) (fun g4=>?_))
 try simp only [sQ,ne_eq] at g4
 refine Ze (xM (h:=xA (h:=Zf (Zm (Za (xM (h:=xM (h:=xM (h:=Zn (Zfk 1 rfl rfl rfl Zqm rfl rfl (Zbx Zd0 Tryz.underlying160 Ze6 (atL 0 rfl rfl rfl)) (Za1.borrow fun hm3=>Zf5 _ _ _ _ _ _ _ (Za5 oz) (Za5 oz) _ (hv.lend Zbu.mono hm3 om)) ?_))))))))))
 refine xN (h:=Zd rfl (fun g5=>?_) (fun g5=>?_))
 try simp only [sQ,ne_eq] at g5
 refine ZY (Zal (Ze2 rfl (Z6 (ZN (Zf (Za (xM (h:=xM (h:=ZbA (h:=xA (h:=Zg ?_)))))))))))
 exact Zaf .ret (.inl rfl) [_] [0,1] rfl t1 ⟨rfl,_,_,rfl,hv,hp,Zio hb (by intro k h0 hk he;(try simp only [decide_eq_true_eq,decide_eq_false_iff_not,Bool.not_eq_true',Bool.not_eq_false',Int.not_lt] at *);rcases (show k=2*g.1+1∨k=2*g.1+1+1 from by omega) with rfl | rfl <;> omega),hs⟩
 try simp only [sQ,ne_eq] at g5
 refine Zi (Zf (Za (xM (h:=xM (h:=xM (h:=Zn (ZgG [1] rfl rfl rfl rfl Zql rfl rfl (Zbx ZdZ Tryz.underlying160 Ze6 (atL 0 rfl rfl rfl)) (Zf4 _ _ _ _ _ _ _ _ (Za5 oz) (Za5 oz) oz _ hv) ?_)))))))
 rintro _ B4 _ hle4 ⟨rfl,l4,rfl,hv4⟩
 refine Zw [_,_] rfl (Ze (xM (h:=xA (h:=Zz ?_))))
 rw [← Zdi g.2.1 g.1 (2*g.1+1+1)]
 have h5:hat g.2.1 (2*g.1+1+1)<hat g.2.1 g.1:=by simpa using g5
 exact ZE (2*g.1+1+1,(swp g.2.1 g.1 (2*g.1+1+1)),l4) [0,1] (so) ⟨rfl,by have:=Zdi g.2.1 g.1 (2*g.1+1+1);simp only [];omega,(ZfS oz oz).trans hp,Zin oz oz oz oz hb (by intro k h0 hk he;(try simp only [decide_eq_true_eq,decide_eq_false_iff_not,Bool.not_eq_true',Bool.not_eq_false',Int.not_lt] at *);rcases (show k=2*g.1+1∨k=2*g.1+1+1 from by omega) with rfl | rfl <;> omega) h5,(fun k hk=>by rw [ZeK oz oz,if_neg oz,if_neg oz];exact hs k hk),hv4⟩ t5 rfl
 try simp only [sQ,ne_eq] at g4
 refine Zi (Zf (Zm (Za (xM (h:=xM (h:=xM (h:=Zn (Zfk 1 rfl rfl rfl Zqm rfl rfl (Zbx Zd0 Tryz.underlying160 Ze6 (atL 0 rfl rfl rfl)) (Za1.borrow fun hm5=>Zf5 _ _ _ _ _ _ _ (Za5 oz) (Za5 oz) _ (hv.lend Zbu.mono hm5 om)) ?_))))))))
 refine xN (h:=Zd rfl (fun g5=>?_) (fun g5=>?_))
 try simp only [sQ,ne_eq] at g5
 refine ZY (Zal (Ze2 rfl (Z6 (ZN (Zf (Za (xM (h:=xM (h:=ZbA (h:=xA (h:=Zg ?_)))))))))))
 exact Zaf .ret (.inl rfl) [_] [0,1] rfl t1 ⟨rfl,_,_,rfl,hv,hp,Zio hb (by intro k h0 hk he;(try simp only [decide_eq_true_eq,decide_eq_false_iff_not,Bool.not_eq_true',Bool.not_eq_false',Int.not_lt] at *);rcases (show k=2*g.1+1∨k=2*g.1+1+1 from by omega) with rfl | rfl <;> omega),hs⟩
 try simp only [sQ,ne_eq] at g5
 refine Zi (Zf (Za (xM (h:=xM (h:=xM (h:=Zn (ZgG [1] rfl rfl rfl rfl Zql rfl rfl (Zbx ZdZ Tryz.underlying160 Ze6 (atL 0 rfl rfl rfl)) (Zf4 _ _ _ _ _ _ _ _ (Za5 oz) (Za5 oz) oz _ hv) ?_)))))))
 rintro _ B6 _ hle6 ⟨rfl,l6,rfl,hv6⟩
 refine Zw [_,_] rfl (Ze (xM (h:=xA (h:=Zz ?_))))
 rw [← Zdi g.2.1 g.1 (2*g.1+1)]
 have h5:hat g.2.1 (2*g.1+1)<hat g.2.1 g.1:=by simpa using g5
 exact ZE (2*g.1+1,(swp g.2.1 g.1 (2*g.1+1)),l6) [0,1] (so) ⟨rfl,by have:=Zdi g.2.1 g.1 (2*g.1+1);simp only [];omega,(ZfS oz oz).trans hp,Zin oz oz oz oz hb (by intro k h0 hk he;(try simp only [decide_eq_true_eq,decide_eq_false_iff_not,Bool.not_eq_true',Bool.not_eq_false',Int.not_lt] at *);rcases (show k=2*g.1+1∨k=2*g.1+1+1 from by omega) with rfl | rfl <;> omega) h5,(fun k hk=>by rw [ZeK oz oz,if_neg oz,if_neg oz];exact hs k hk),hv6⟩ t5 rfl
 try simp only [sQ,ne_eq] at g3
 refine xP (h:=xP (h:=xP (h:=xP (h:=xF (h:=Zd (t:=false) rfl (fun h=>Bool.noConfusion h) (fun _=>Zi (Zf (Zm (Za (xM (h:=xM (h:=xM (h:=?_)))))))))))))
 refine Zn (Zfk 1 rfl rfl rfl Zqm rfl rfl (Zbx Zd0 Tryz.underlying160 Ze6 (atL 0 rfl rfl rfl)) (Za1.borrow fun hm7=>Zf5 _ _ _ _ _ _ _ (Za5 oz) (Za5 oz) _ (hv.lend Zbu.mono hm7 om)) ?_)
 refine xN (h:=Zd rfl (fun g5=>?_) (fun g5=>?_))
 try simp only [sQ,ne_eq] at g5
 refine ZY (Zal (Ze2 rfl (Z6 (ZN (Zf (Za (xM (h:=xM (h:=ZbA (h:=xA (h:=Zg ?_)))))))))))
 exact Zaf .ret (.inl rfl) [_] [0,1] rfl t1 ⟨rfl,_,_,rfl,hv,hp,Zio hb (by intro k h0 hk he;(try simp only [decide_eq_true_eq,decide_eq_false_iff_not,Bool.not_eq_true',Bool.not_eq_false',Int.not_lt] at *);rcases (show k=2*g.1+1∨k=2*g.1+1+1 from by omega) with rfl | rfl <;> omega),hs⟩
 try simp only [sQ,ne_eq] at g5
 refine Zi (Zf (Za (xM (h:=xM (h:=xM (h:=Zn (ZgG [1] rfl rfl rfl rfl Zql rfl rfl (Zbx ZdZ Tryz.underlying160 Ze6 (atL 0 rfl rfl rfl)) (Zf4 _ _ _ _ _ _ _ _ (Za5 oz) (Za5 oz) oz _ hv) ?_)))))))
 rintro _ B8 _ hle8 ⟨rfl,l8,rfl,hv8⟩
 refine Zw [_,_] rfl (Ze (xM (h:=xA (h:=Zz ?_))))
 rw [← Zdi g.2.1 g.1 (2*g.1+1)]
 have h5:hat g.2.1 (2*g.1+1)<hat g.2.1 g.1:=by simpa using g5
 exact ZE (2*g.1+1,(swp g.2.1 g.1 (2*g.1+1)),l8) [0,1] (so) ⟨rfl,by have:=Zdi g.2.1 g.1 (2*g.1+1);simp only [];omega,(ZfS oz oz).trans hp,Zin oz oz oz oz hb (by intro k h0 hk he;(try simp only [decide_eq_true_eq,decide_eq_false_iff_not,Bool.not_eq_true',Bool.not_eq_false',Int.not_lt] at *);rcases (show k=2*g.1+1∨k=2*g.1+1+1 from by omega) with rfl | rfl <;> omega) h5,(fun k hk=>by rw [ZeK oz oz,if_neg oz,if_neg oz];exact hs k hk),hv8⟩ t5 rfl

set_option maxHeartbeats 400000 in
theorem ZpT (b:Nat) (q:Option Addr) (cp:Nat) (xs:List Int) (l:Cells) (hm0:0<xs.length) (hn:xs.length≤2000000) (hh:Zdv xs) (B:Kn) (hv:Z3 B l q cp 3 1 Zbu xs):ZM (pj J) 102 [.iface 160 (ptr ⟨b,0,none⟩)] B [ZaY b [.slice q xs.length cp] 161,l] (fun v B' Ls=>B'=B∧v = .iface 3 (.int .i64 (hat xs 0))∧∃ys l',Ls=[ZaY b [.slice q ys.length cp] 161,l']∧Z3 B l' q cp 3 1 Zbu ys∧(hat xs 0 :: ys).Perm xs∧Zdv ys):=by
 refine Zc 15 Tryz.func102 rfl rfl rfl (Nat.le_of_ble_eq_true rfl) ?_
 refine Za (xA (h:=Za (xM (h:=Zn (Zfk 1 rfl rfl rfl Zu4 rfl rfl (Zbx ZkS Tryz.underlying160 Ze6 (atL 0 rfl rfl rfl)) (Za1.borrow fun hm1=>ZpS _ _ _ _) (Zn (ZiH (r:=((xs.length - 1:Nat):Int)) rfl rfl rfl rfl ((congrArg _ (show _=((xs.length - 1:Nat):Int) from by omega)).trans (ZaK oz oz)) ?_)))))))
 refine xA (h:=Za (xM (h:=xM (h:=Zn (ZgG [1] rfl rfl rfl rfl Zql rfl rfl (Zbx ZdZ Tryz.underlying160 Ze6 (atL 0 rfl rfl rfl)) (Zf4 _ _ _ _ _ _ _ _ (Za5 oz) (Za5 oz) oz _ hv) ?_)))))
 rintro _ Bs _ hles ⟨rfl,ls,rfl,hvs⟩
 refine Zw [_,_] rfl ?_
 obtain ⟨zs,hzs,hzl⟩ :∃zs,zs=swp xs 0 (xs.length - 1)∧zs.length=xs.length:=⟨_,rfl,Zdi _ _ _⟩
 have hzz:=hvs
 change Z3 _ _ _ _ _ _ _ (swp xs 0 (xs.length - 1)) at hzz
 rw [← hzs] at hzz
 have hdb:ZeV zs (zs.length - 1) 0:=by rw [hzl,hzs];exact Zs5 hh hm0
 have hlz:hat zs (zs.length - 1)=hat xs 0:=by rw [hzl,hzs];exact Zq5 hm0
 have hpz:zs.Perm xs:=hzs ▸ ZfS hm0 oz
 rw [← hzl]
 refine Za (xM (h:=xM (h:=Zn (Z8 [0,1] rfl rfl rfl rfl Zwt rfl (Zom _ _ _ _ _ _ oz oz oz hdb _ hzz) ?_))))
 rintro _ Bd _ hled ⟨rfl,ysd,ld,rfl,hvd,hpd,hhd,hsd⟩
 refine Zw [_,_] rfl ?_
 have hdl:=hpd.length_eq
 refine Za (xM (h:=Zn (ZgG [0,1] rfl rfl rfl rfl Zwi rfl rfl (Zld ZpB Tryz.underlying160) (Ztv _ _ _ _ _ _ (Za5 oz) oz _ hvd) ?_)))
 rintro _ Bo _ hleo ⟨rfl,rfl,rfl,hvo⟩
 refine xA (h:=Zw [_,_] rfl (Zg ?_))
 have hz9:hat ysd (ysd.length - 1)=hat xs 0:=by rw [hsd _ oz,hdl];exact hlz
 exact Zaf .ret (.inl rfl) [_] [0,1] rfl t1 ⟨rfl,by rw [hz9];rfl,_,_,by rw [show (ysd.take (ysd.length - 1)).length=ysd.length - 1 from by simp],hvo,Zrg oz (hpd.trans hpz) hz9,Zol (by rw [hdl];exact hhd) oz⟩

set_option maxHeartbeats 400000 in
theorem Zmn (q:Option Addr) (cp:Nat) (xs:List DItem) (last:Int) (B:Kn) (ha:SlK B q cp 4 Zj xs):Za1 (pj J) 61 [.slice q xs.length cp,.int .i64 last] B (.bool (asc 0 last (xs.map (·.id)))):=by
 refine Zc 53 Tryz.func61 rfl rfl rfl (Nat.le_of_ble_eq_true rfl) ?_
 have hxn:=ha.len
 refine Za (xA (h:=Za (xBs [] [] Tryz.underlying142 sz3 zo3 (h:=fun b1=>xBx [_] (h:=fun b2=>xA (h:=Zw [_,_] rfl (Zm (Za (xM (h:=xV Tryz.underlying25 (h:=xM (h:=Zr ?_))))))))))))
 refine ZU (α:=Gh Int) [0,1,4,5,14,15] (fun g=>[(16,.int .i64 g.k)]) [0,1] (fun g=>[g.l,ZaY b2 [.slice g.a g.xs.length g.c] 161]) (fun g Bx=>Bx=B∧g.k≤xs.length∧g.xs.Perm ((xs.take g.k).map (·.id))∧Zdv g.xs∧Z3 Bx g.l g.a g.c 3 1 Zbu g.xs) (fun g=>xs.length - g.k) ⟨0,0,_,_,_,[]⟩ t1 rfl (⟨rfl,Nat.zero_le _,.refl _,ZrL,.lit0⟩) (fun g B3 hle3 hI=>?_)
 obtain ⟨rfl,hk,hp,hh,hv⟩:=hI
 have hpl:=hp.length_eq
 rw [List.length_map,List.length_take] at hpl
 refine ZQ [(0,_),(1,_),(4,_),(5,_),(14,_),(15,_),(16,_)] [_,_] t7 rfl (Za (Zai (h:=Zm (Zd rfl (fun g1=>?_) (fun g1=>?_)))))
 try simp only [sQ,ne_eq] at g1
 refine Zi (Zf (Zm (Zr (Za ?_))))
 obtain ⟨x,hx⟩:=Zax (xs:=xs) (i:=g.k) om
 obtain ⟨bb5,oo5,rfl⟩:=ha.base hx
 obtain ⟨_,⟨qi6,ci6,rfl,hi6,hb6,hb6b⟩,hc6⟩:=ha.elem hx
 have hi6n:=hi6.len
 refine xIx Tryz.underlying25 Zer (h:=yL [_,_,_,_] ZlF hc6 0 (h:=xAl [_,_,_,_] ZiD (h:=fun b7=>xS [_,_,_,_] 2 [_,_,_,_] Zer (h:=Zw [_,_,_] rfl (Ze (xM (h:=Zn (Zd9 rfl rfl Tryz.underlying160 rfl rfl (xW ZeM (h:=x1 lk3 2 (h:=Zn (Zd9 rfl rfl Tryz.underlying3 rfl rfl (Zn (Z8 [1,0] rfl rfl rfl rfl ZwO rfl (Zok _ _ _ _ _ _ oz hh _ hv) ?_))))))))))))))
 rintro _ Bp _ hlep ⟨rfl,qp,cp,ysp,lp,rfl,hvp,hpp,hhp⟩
 refine Zz (Zf (Ze (xD (h:=xM (h:=?_)))))
 exact ZE ⟨g.k+1,0,lp,_,_,ysp⟩ [0,1] so2 ⟨rfl,so,by simp only [];rw [Zay hx,List.map_append];exact hpp.trans (hp.append_right _),hhp,hvp⟩ t7 rfl
 try simp only [sQ,ne_eq] at g1
 have hxe:xs.take g.k=xs:=List.take_of_length_le oz
 rw [hxe] at hp
 refine ZY (Zal (Z6 (ZN (Zf (Za (xA (h:=Zm (Za (xM (h:=xV Tryz.underlying25 (h:=xM (h:=Zr (ZU (α:=Gh2 Int Int) [0,1,5,14,15,16,17,27,28] (fun h=>[(8,.int .i64 h.e),(29,.int .i64 h.k)]) [0,1] (fun h=>[h.l,ZaY b2 [.slice h.a h.xs.length h.c] 161]) (fun h Bx=>Bx=B3∧h.k≤xs.length∧h.xs.Perm ((xs.drop h.k).map (·.id))∧Zdv h.xs∧asc 0 last (xs.map (·.id))=asc h.e last ((xs.drop h.k).map (·.id))∧Z3 Bx h.l h.a h.c 3 1 Zbu h.xs) (fun h=>xs.length - h.k) ⟨0,0,g.l,g.a,g.c,g.xs,0⟩ t2 rfl (⟨rfl,Nat.zero_le _,hp,hh,rfl,hv⟩) (fun h B9 hle9 hI=>?_))))))))))))))
 clear hv hp hpl hh
 obtain ⟨rfl,hk,hp,hh,hs,hv⟩:=hI
 have hpl:=hp.length_eq
 rw [List.length_map,List.length_drop] at hpl
 refine ZQ [(0,_),(1,_),(5,_),(8,_),(14,_),(15,_),(16,_),(17,_),(27,_),(28,_),(29,_)] [_,_] t11 rfl (Za (Zai (h:=Zm (Zd rfl (fun g2=>?_) (fun g2=>?_)))))
 try simp only [sQ,ne_eq] at g2
 refine Zi (Zf (Zm (Zr (Za ?_))))
 obtain ⟨x,hx⟩:=Zax (xs:=xs) (i:=h.k) om
 obtain ⟨bb11,oo11,rfl⟩:=ha.base hx
 obtain ⟨_,⟨qi12,ci12,rfl,hi12,hb12,hb12b⟩,hc12⟩:=ha.elem hx
 have hi12n:=hi12.len
 refine xIx Tryz.underlying25 Zer (h:=?_)
 rw [Zj6 hx,List.map_cons] at hp hs
 refine yL [_,_,_,_] ZlF hc12 0 (h:=xAl [_,_,_,_] ZiD (h:=fun b13=>xS [_,_,_,_] 2 [_,_,_,_] Zer (h:=Zw [_,_,_] rfl (Za (xM (h:=Zn (Zd9 rfl rfl Tryz.underlying160 rfl rfl (Zn (Z8 [1,0] rfl rfl rfl rfl ZwN rfl (ZpT _ _ _ _ _ oz oz hh _ hv) ?_)))))))))
 rintro _ Bo _ hleo ⟨rfl,rfl,yso,lo,rfl,hvo,hpo,hho⟩
 refine Zn (Zko rfl rfl Tryz.underlying3 rfl rfl (xA (h:=Zw [_,_,_] rfl (Zm (Za (xM (h:=xW ZeM (h:=x1 lk3 2 (h:=ZcZ (h:=xM (h:=Zt (d:=41) rfl (fun g3=>?_) (fun g3=>?_))))))))))))
 try simp only [sQ,ne_eq] at g3
 refine xP (h:=xP (h:=xP (h:=xT (h:=xM (h:=xP (h:=xP (h:=xP (h:=xT (h:=Zd (t:=true) rfl (fun _=>Za (xA (h:=Zg (Zs (ZI (Zs (Z7 (ZI (Zs ?_))))))))) (fun h=>Bool.noConfusion h))))))))))
 exact ZW .ret (.inl rfl) [_] t1 ⟨Zp (by rw [hs];exact Zsd hp hh (by simpa using g3)),rfl,rfl⟩
 try simp only [sQ,ne_eq] at g3
 refine xM (h:=xM (h:=ZcB (h:=xF (h:=xM (h:=Zt (d:=46) rfl (fun g4=>?_) (fun g4=>?_))))))
 try simp only [sQ,ne_eq] at g4
 refine xP (h:=xP (h:=xP (h:=xT (h:=Zd (t:=true) rfl (fun _=>Za (xA (h:=Zg (Zs (ZI (Zs (Z7 (ZI (Zs ?_))))))))) (fun h=>Bool.noConfusion h)))))
 exact ZW .ret (.inl rfl) [_] t1 ⟨Zp (by rw [hs];exact Zsc (by rw [← g3];simpa using g4)),rfl,rfl⟩
 try simp only [sQ,ne_eq] at g4
 refine xM (h:=xM (h:=ZbA (h:=xF (h:=Zd rfl (fun g5=>?_) (fun g5=>?_)))))
 try simp only [sQ,ne_eq] at g5
 refine Za (xA (h:=Zg (Zs (ZI (Zs (Z7 (ZI (Zs ?_))))))))
 exact ZW .ret (.inl rfl) [_] t1 ⟨Zp (by rw [hs];exact Zsb (by rw [← g3];simpa using g5)),rfl,rfl⟩
 try simp only [sQ,ne_eq] at g5
 refine Zi (Zf (Ze (xM (h:=xA (h:=Zz (Zf (Ze (xD (h:=xM (h:=?_))))))))))
 exact ZE ⟨h.k+1,0,lo,_,_,yso,hat h.xs 0⟩ [0,1] so2 ⟨rfl,so,List.Perm.cons_inv ((show (x.id :: yso).Perm (hat h.xs 0 :: yso) from by rw [g3]).trans (hpo.trans hp)),hho,by simp only [];rw [hs,g3];exact Zvg (by rw [← g3];simpa using g4) (by rw [← g3];simpa using g5),hvo⟩ t11 rfl
 try simp only [sQ,ne_eq] at g2
 rw [Zqq oz,List.map_nil,asc] at hs
 refine ZY (Zal (Z6 (ZN (Zf (Za (xA (h:=Zg ?_)))))))
 exact ZW .ret (.inl rfl) [_] t1 ⟨Zp hs.symm,rfl,rfl⟩

end Go.Proofs.YtnfoidafdcgdbaaGreatDoor
