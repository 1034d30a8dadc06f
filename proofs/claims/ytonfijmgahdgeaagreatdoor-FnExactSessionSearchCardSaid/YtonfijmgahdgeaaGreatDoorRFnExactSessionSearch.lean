/-
  LAWS THAT RETURN TRUE FOR EVERY ARGUMENT, with goroutines started and awaited on the way, and the arguments read behind the call as they read before. Conditions: none beyond the given rows.
-/
import Derived.Test.YtonfijmgahdgeaaGreatDoorC
import Derived.Test.YtonfijmgahdgeaaGreatDoorCards
import Derived.Test.YtonfijmgahdgeaaGreatDoorTie
import Derived.Lay
import Derived.Conc.Holds
import Derived.Conc.LeavingOf
import Derived.KernelRfl
namespace Go.Proofs.YtonfijmgahdgeaaGreatDoor
open Go.BL
open Go.ChangeShapes Go.WideShapes Go.ChangeAt Go.RowKit
set_option linter.unusedVariables false
theorem own : ownKnob Tryz.prog.godebug = none := by kernel_rfl
theorem Zor {H : Type} {enc : TypeId × Value → H} (W : World) : Zbb enc Tryz.prog W 9 ZiJ := Zrz Tryz.underlying9
theorem ZrB {H : Type} {enc : TypeId × Value → H} (W : World) : Zbb enc Tryz.prog W 3 Z9 := ZrA Tryz.underlying3
theorem Zxx {H : Type} {enc : TypeId × Value → H} (W : World) : Zbb enc Tryz.prog W 119 ZmB := (ZbT Tryz.underlying119 [(fun cs => ∃ x, ZiJ (Zas W) cs x), (fun cs => ∃ x, ZiJ (Zas W) cs x), (fun cs => ∃ x, Z9 (Zas W) cs x)] (by kernel_rfl) ⟨Zor W, Zor W, ZrB W, trivial⟩).mono (by
  rintro cs ⟨_, _, rfl, ⟨x0, rfl, h0⟩, _, _, rfl, ⟨x1, rfl, h1⟩, _, _, rfl, ⟨x2, rfl⟩, rfl⟩
  exact ⟨⟨x0, x1, x2⟩, rfl, h0, h1⟩)
theorem ZuH {H : Type} {enc : TypeId × Value → H} (W : World) : Zbb enc Tryz.prog W 22 (Zcg 3 ZmB) := Zb4 Tryz.underlying22 (by kernel_rfl) (of_decide_eq_true (by kernel_rfl)) (by decide) (Zxx W)
theorem ZuM {H : Type} {enc : TypeId × Value → H} (W : World) : Zbb enc Tryz.prog W 242 ZiM := (ZbT Tryz.underlying242 [(fun cs => ∃ x, ZiJ (Zas W) cs x), (fun cs => ∃ x, Z9 (Zas W) cs x)] (by kernel_rfl) ⟨Zor W, ZrB W, trivial⟩).mono (by
  rintro cs ⟨_, _, rfl, ⟨x0, rfl, h0⟩, _, _, rfl, ⟨x1, rfl⟩, rfl⟩
  exact ⟨⟨x0, x1⟩, rfl, h0⟩)
theorem ZrC {H : Type} {enc : TypeId × Value → H} (W : World) : Zbb enc Tryz.prog W 121 (Zcg 2 ZiM) := Zb4 Tryz.underlying121 (by kernel_rfl) (of_decide_eq_true (by kernel_rfl)) (by decide) (ZuM W)
theorem Zxz {H : Type} {enc : TypeId × Value → H} (W : World) : Zbb enc Tryz.prog W 279 ZiV := (ZbT Tryz.underlying279 [(fun cs => ∃ x, Z9 (Zas W) cs x), (fun cs => ∃ x, Z9 (Zas W) cs x), (fun cs => ∃ x, ZiJ (Zas W) cs x)] (by kernel_rfl) ⟨ZrB W, ZrB W, Zor W, trivial⟩).mono (by
  rintro cs ⟨_, _, rfl, ⟨x0, rfl⟩, _, _, rfl, ⟨x1, rfl⟩, _, _, rfl, ⟨x2, rfl, h2⟩, rfl⟩
  exact ⟨⟨x0, x1, x2⟩, rfl, h2⟩)
theorem ZuK {H : Type} {enc : TypeId × Value → H} (W : World) : Zbb enc Tryz.prog W 122 (Zcg 3 ZiV) := Zb4 Tryz.underlying122 (by kernel_rfl) (of_decide_eq_true (by kernel_rfl)) (by decide) (Zxz W)
theorem ZzN {H : Type} {enc : TypeId × Value → H} (W : World) : ZbM enc Tryz.prog W 124 (fun cs => ∃ n xs q cp, cs = [.int .i64 n, .slice q xs.length cp] ∧ SlB (Zas W) q cp 3 ZiV xs) := (ZbT Tryz.underlying124 [(fun cs => ∃ x, Z9 (Zas W) cs x), (fun cs => ∃ x, Zcg 3 ZiV (Zas W) cs x)] (by kernel_rfl) ⟨ZrB W, ZuK W, trivial⟩).mono (by
  rintro cs ⟨_, _, rfl, ⟨x0, rfl⟩, _, _, rfl, ⟨x1, q1, c1, rfl, h1⟩, rfl⟩
  exact ⟨x0, x1, q1, c1, rfl, h1⟩)
theorem ZrD {H : Type} {enc : TypeId × Value → H} (W : World) : Zbb enc Tryz.prog W 126 Zfa := (ZbT Tryz.underlying126 [(fun cs => ∃ x, ZiJ (Zas W) cs x), (fun cs => ∃ x, ZiJ (Zas W) cs x), (fun cs => ∃ x, Zcg 2 ZiM (Zas W) cs x), (fun cs => ∃ n xs q cp, cs = [.int .i64 n, .slice q xs.length cp] ∧ SlB (Zas W) q cp 3 ZiV xs)] (by kernel_rfl) ⟨Zor W, Zor W, ZrC W, ZzN W, trivial⟩).mono (by
  rintro cs ⟨_, _, rfl, ⟨x0, rfl, h0⟩, _, _, rfl, ⟨x1, rfl, h1⟩, _, _, rfl, ⟨x2, q2, c2, rfl, h2⟩, _, _, rfl, ⟨n3, x3, q3, c3, rfl, h3⟩, rfl⟩
  exact ⟨⟨x0, x1, x2, n3, x3⟩, q2, c2, q3, c3, rfl, h2, h3, h0, h1⟩)
theorem Zpw {H : Type} {enc : TypeId × Value → H} (W : World) : Zbb enc Tryz.prog W 23 (Zcg 5 Zfa) := Zb4 Tryz.underlying23 (by kernel_rfl) (of_decide_eq_true (by kernel_rfl)) (by decide) (ZrD W)
theorem ZBW {H : Type} {enc : TypeId × Value → H} (W : World) : Zbb enc Tryz.prog W 134 (Zcg 1 ZiJ) := Zb4 Tryz.underlying134 (by kernel_rfl) (of_decide_eq_true (by kernel_rfl)) (by decide) (Zor W)
theorem ZxA {H : Type} {enc : TypeId × Value → H} (W : World) : Zbb enc Tryz.prog W 197 ZiK := (ZbT Tryz.underlying197 [(fun cs => ∃ x, Z9 (Zas W) cs x), (fun cs => ∃ x, ZiJ (Zas W) cs x), (fun cs => ∃ x, ZiJ (Zas W) cs x), (fun cs => ∃ x, Zcg 1 ZiJ (Zas W) cs x)] (by kernel_rfl) ⟨ZrB W, Zor W, Zor W, ZBW W, trivial⟩).mono (by
  rintro cs ⟨_, _, rfl, ⟨x0, rfl⟩, _, _, rfl, ⟨x1, rfl, h1⟩, _, _, rfl, ⟨x2, rfl, h2⟩, _, _, rfl, ⟨x3, q3, c3, rfl, h3⟩, rfl⟩
  exact ⟨⟨x0, x1, x2, x3⟩, q3, c3, rfl, h3, h1, h2⟩)
theorem ZuL {H : Type} {enc : TypeId × Value → H} (W : World) : Zbb enc Tryz.prog W 24 (Zcg 4 ZiK) := Zb4 Tryz.underlying24 (by kernel_rfl) (of_decide_eq_true (by kernel_rfl)) (by decide) (ZxA W)
theorem ZuJ {H : Type} {enc : TypeId × Value → H} (W : World) : ZbM enc Tryz.prog W 26 (fun cs => ∃ n xs q cp, cs = [.int .i64 n, .slice q xs.length cp] ∧ SlB (Zas W) q cp 4 ZiK xs) := (ZbT Tryz.underlying26 [(fun cs => ∃ x, Z9 (Zas W) cs x), (fun cs => ∃ x, Zcg 4 ZiK (Zas W) cs x)] (by kernel_rfl) ⟨ZrB W, ZuL W, trivial⟩).mono (by
  rintro cs ⟨_, _, rfl, ⟨x0, rfl⟩, _, _, rfl, ⟨x1, q1, c1, rfl, h1⟩, rfl⟩
  exact ⟨x0, x1, q1, c1, rfl, h1⟩)
theorem ZxB {H : Type} {enc : TypeId × Value → H} (W : World) : ZbM enc Tryz.prog W 28 (fun cs => ∃ (x : DHost) (q1 q2 q3 : Option Addr) (c1 c2 c3 : Nat), cs = [str x.domain, .slice q1 x.users.length c1, .slice q2 x.folders.length c2, .int .i64 x.queue.next, .slice q3 x.queue.items.length c3] ∧ x.domain.length ≤ 140737488355328 ∧ SlB (Zas W) q1 c1 3 ZmB x.users ∧ SlB (Zas W) q2 c2 5 Zfa x.folders ∧ SlB (Zas W) q3 c3 4 ZiK x.queue.items) := (ZbT Tryz.underlying28 [(fun cs => ∃ x, ZiJ (Zas W) cs x), (fun cs => ∃ x, Zcg 3 ZmB (Zas W) cs x), (fun cs => ∃ x, Zcg 5 Zfa (Zas W) cs x), (fun cs => ∃ n xs q cp, cs = [.int .i64 n, .slice q xs.length cp] ∧ SlB (Zas W) q cp 4 ZiK xs)] (by kernel_rfl) ⟨Zor W, ZuH W, Zpw W, ZuJ W, trivial⟩).mono (by
  rintro cs ⟨_, _, rfl, ⟨x0, rfl, h0⟩, _, _, rfl, ⟨x1, q1, c1, rfl, h1⟩, _, _, rfl, ⟨x2, q2, c2, rfl, h2⟩, _, _, rfl, ⟨n3, x3, q3, c3, rfl, h3⟩, rfl⟩
  exact ⟨⟨x0, x1, x2, ⟨n3, x3⟩⟩, q1, q2, q3, c1, c2, c3, rfl, h0, h1, h2, h3⟩)
theorem Zpv {H : Type} {enc : TypeId × Value → H} (W : World) : ZbM enc Tryz.prog W 30 (fun cs => ∃ (u y z : Str), cs = [str u, str y, str z] ∧ u.length ≤ 140737488355328 ∧ y.length ≤ 140737488355328 ∧ z.length ≤ 140737488355328) := (ZbT Tryz.underlying30 [(fun cs => ∃ x, ZiJ (Zas W) cs x), (fun cs => ∃ x, ZiJ (Zas W) cs x), (fun cs => ∃ x, ZiJ (Zas W) cs x)] (by kernel_rfl) ⟨Zor W, Zor W, Zor W, trivial⟩).mono (by
  rintro cs ⟨_, _, rfl, ⟨x0, rfl, h0⟩, _, _, rfl, ⟨x1, rfl, h1⟩, _, _, rfl, ⟨x2, rfl, h2⟩, rfl⟩
  exact ⟨x0, x1, x2, rfl, h0, h1, h2⟩)
theorem Zxy {H : Type} {enc : TypeId × Value → H} (W : World) : Zbb enc Tryz.prog W 95 ZN := (ZbT Tryz.underlying95 [(fun cs => ∃ x, Z9 (Zas W) cs x), (fun cs => ∃ x, Z9 (Zas W) cs x)] (by kernel_rfl) ⟨ZrB W, ZrB W, trivial⟩).mono (by
  rintro cs ⟨_, _, rfl, ⟨x0, rfl⟩, _, _, rfl, ⟨x1, rfl⟩, rfl⟩
  exact ⟨⟨x0, x1⟩, rfl⟩)
theorem ZuI {H : Type} {enc : TypeId × Value → H} (W : World) : Zbb enc Tryz.prog W 31 (Zcg 2 ZN) := Zb4 Tryz.underlying31 (by kernel_rfl) (of_decide_eq_true (by kernel_rfl)) (by decide) (Zxy W)
theorem ZzM {H : Type} {enc : TypeId × Value → H} (W : World) : ZbM enc Tryz.prog W 56 (fun cs => ∃ (n : Nat) (x : DKey) (q q' : Option Addr) (c c' : Nat), cs = [.int .i64 x.kind, .int .i64 x.flag, str x.text, .slice q x.set.length c, .slice q' x.keys.length c'] ∧ SlB (Zas W) q c 2 ZN x.set ∧ SlB (Zas W) q' c' 5 (ZkP n) x.keys ∧ x.text.length ≤ 140737488355328) := Zpu Tryz.underlying56 Tryz.underlying54 (by kernel_rfl) (of_decide_eq_true (by kernel_rfl)) (by kernel_rfl) _ _ _ _ _ rfl (ZrB W) (ZrB W) (Zor W) (ZuI W) rfl
theorem ZsV : "*" ++ "errors.errorString" = "*errors.errorString" := by decide
theorem ZAl (u : TypeId) (h : Tryz.prog.typeName? 3 u = some "*errors.errorString") : u = 392 :=
  typeName_ptr_named (nm := "errors.errorString") (by rw [ZsV]; kernel_rfl) (by kernel_rfl) (by decide) u (by rw [ZsV]; exact h)

set_option maxRecDepth 100000 in
theorem Zee (os : Os) (args : Array Value) : laidMetH Tryz.prog Rows.fnExactSessionSearchRow.laid ((World.laidAll Tryz.prog os Rows.fnExactSessionSearchRow.laid).forCall (fun _ _ => 0) ⟨#[], args, []⟩).memory := by
  rw [MakeChecks.laidMetH_plain _ _ _ (by kernel_rfl)]
  exact laidMet_laidAll args (by kernel_rfl) (by kernel_rfl)
set_option maxRecDepth 100000 in
set_option maxHeartbeats 1600000 in
theorem fnExactSessionSearch_lifted (os : Os) (started : os.Started) (H : Type) (enc : TypeId × Value → H) :
    ReturnsInLeavingWide { calm := true } Tryz.checked os 4 .any (fun w args => (Rows.fnExactSessionSearchSpec.pre enc Tryz.prog Tryz.f4 Rows.fnExactSessionSearchRow.domain false w args ∧ laidMetH Tryz.prog Rows.fnExactSessionSearchRow.laid w) ∧ sizedMet enc Tryz.prog Tryz.f4 (OpenSpec.ofChange Rows.fnExactSessionSearchSpec) false w args) (Rows.fnExactSessionSearchSpec.post enc Tryz.prog Tryz.f4 false true false false) := by
  refine ZjR (C := Tryz.checked) own started Tryz.func4 (ZtY (enc := enc) (C := Tryz.checked) (os := os) (X := fun w _ => laidMetH Tryz.prog Rows.fnExactSessionSearchRow.laid w) (World.laidAll Tryz.prog os Rows.fnExactSessionSearchRow.laid) #[.agg #[.string ⟨#[]⟩, .slice none 0 0, .slice none 0 0, .int .i64 0, .slice none 0 0], .agg #[.string ⟨#[]⟩, .string ⟨#[]⟩, .string ⟨#[]⟩], .agg #[.int .i64 0, .int .i64 0, .string ⟨#[]⟩, .slice none 0 0, .slice none 0 0]] 8 (World.laidAll_os _ _ _) (World.shaped_of_ZipB (by kernel_rfl) (by kernel_rfl)) (by kernel_rfl) (by kernel_rfl) (by kernel_rfl) (Zee os _)) ?_
  intro W base args ds gs before hval hW hwt hL hsh
  have hW' := hW
  obtain ⟨p, q, hA0, hV, rfl, hfz, hnd⟩ := hW
  have hA : DataW.TrodAll enc Tryz.prog W 0 (fun _ => true) true Tryz.f4.params.toList args.toList ds p := hA0
  replace hval : ∀ (j : Nat) t v, Tryz.f4.params[j]? = some t → args[j]? = some v → Value.okWide Tryz.prog W .any base t v := hval
  replace hwt : (DataW.weightsEach Tryz.prog (Tryz.f4.params.toList ++ Rows.fnExactSessionSearchSpec.plain.varTypes Tryz.prog) (ds ++ gs)).all (· ≤ reachBytes) = true := hwt
  rw [Tryz.params4] at hA hval hwt
  obtain ⟨v0, vs0, d0, ds0, p0, qq0, hargs, rfl, rfl, h0, r0⟩ := trodAll_cons hA
  obtain ⟨v1, vs1, d1, ds1, p1, qq1, rfl, rfl, rfl, h1, r1⟩ := trodAll_cons r0
  obtain ⟨v2, vs2, d2, ds2, p2, qq2, rfl, rfl, rfl, h2, r2⟩ := trodAll_cons r1
  obtain ⟨rfl, rfl, rfl⟩ := trodAll_nil r2
  obtain rfl : args = #[v0, v1, v2] := by cases args; simp_all
  have e0 := ZjW h0 (ZxB W) (weigh hwt (i := 0) rfl rfl)
  obtain ⟨cs0, rfl, _⟩ := okWide_struct Tryz.underlying28 (hval 0 28 v0 rfl rfl)
  obtain ⟨x0, q01, q02, q03, c01, c02, c03, e0, hd0, hu0, hf0, hi0⟩ := e0
  obtain rfl : cs0 = #[str x0.domain, .slice q01 x0.users.length c01, .slice q02 x0.folders.length c02, .int .i64 x0.queue.next, .slice q03 x0.queue.items.length c03] := Array.ext' e0
  have e1 := ZjW h1 (Zpv W) (weigh hwt (i := 1) rfl rfl)
  obtain ⟨cs1, rfl, _⟩ := okWide_struct Tryz.underlying30 (hval 1 30 v1 rfl rfl)
  obtain ⟨u1, y1, z1, e1, hs1a, hs1b, hs1c⟩ := e1
  obtain rfl : cs1 = #[str u1, str y1, str z1] := Array.ext' e1
  have e2 := ZjW h2 (ZzM W) (weigh hwt (i := 2) rfl rfl)
  obtain ⟨cs2, rfl, _⟩ := okWide_struct Tryz.underlying56 (hval 2 56 v2 rfl rfl)
  obtain ⟨n2, x2, q2, k2, c2, b2, e2, hs2, hk2, g2⟩ := e2
  obtain rfl : cs2 = #[.int .i64 x2.kind, .int .i64 x2.flag, str x2.text, .slice q2 x2.set.length c2, .slice k2 x2.keys.length b2] := Array.ext' e2
  rw [MakeChecks.laidMetH_plain _ _ _ (by kernel_rfl)] at hL
  obtain ⟨a, hE⟩ := ZsU (Zeb (hL)) (by kernel_rfl) (by kernel_rfl) (by kernel_rfl) (by kernel_rfl) (by kernel_rfl) (by kernel_rfl) (by kernel_rfl) (by kernel_rfl) Tryz.underlying100 ZAl Tryz.underlying392 Tryz.underlying414 rfl rfl Tryz.underlying9 (by kernel_rfl) (by kernel_rfl)
  have hwd := ZpI (ws := Zdv) (Zeb (Zeb (Zeb (Zeb (Zeb (hL)))))) (g := 4) (t := 338) (ts := 9) (by kernel_rfl) (by kernel_rfl) Tryz.underlying338 Tryz.underlying9 (by kernel_rfl) (by kernel_rfl)
  obtain ⟨M, hM⟩ := Go.Proofs.cell_of_shapedOpen_int (g := 5) (t := 3) (zero := #[.int .i64 0]) hsh (of_decide_eq_true (by kernel_rfl)) (by kernel_rfl) rfl (by kernel_rfl) (by kernel_rfl) Tryz.underlying3
  have hG : GlobB 4 5 (Zas W) M := ⟨hwd, ZuU hM⟩
  obtain ⟨code, hb, h⟩ := ZnG q01 q02 q03 c01 c02 c03 x0 hd0 u1 y1 z1 hs1a hs1b hs1c n2 q2 k2 c2 b2 x2 g2 M (Zas W) a hE hG hu0 hf0 hi0 hs2 hk2
  obtain ⟨MM, last, o, w', t', r1, r2, r3, r4⟩ := Zxo 132 Tryz.func4 hb rfl rfl (by kernel_rfl) (Nat.le_of_ble_eq_true rfl) h
  exact ⟨MM, last, o, w', t', r1, r2, r3, Conc.Good.mono r4 fun v ⟨hk, _, _, _, hv⟩ => by
    subst hv
    exact ZpH (tb := 4) (by kernel_rfl) (by kernel_rfl) rfl Tryz.underlying4 (ZqM (by kernel_rfl)) hW' (fun ds' gs' hg hl => by
      match ds', gs', hl, hg with
      | [_, _, _], [_, _, _, _, _], _, _ => rfl) hk⟩
set_option maxRecDepth 100000 in
set_option maxHeartbeats 0 in
theorem fnExactSessionSearch_closed : joinedFacts Tryz.checked.prog 4 Tryz.f4 Rows.fnExactSessionSearchSpec Rows.fnExactSessionSearchRow = true := by
  unfold joinedFacts
  simp only [Bool.and_eq_true]
  repeat' apply And.intro
  all_goals (as_aux_lemma => kernel_rfl)
set_option maxRecDepth 100000 in
theorem fnExactSessionSearch_named : Tryz.checked.prog.funcNamed Rows.fnExactSessionSearchRow.func = some 4 := by kernel_rfl
set_option maxRecDepth 100000 in
theorem ZdX : Rows.FnExactSessionSearchSaid :=
  OpenClaim.holds_of_wide_leaving_time 4 Tryz.f4 rfl rfl rfl rfl rfl rfl rfl ⟨rfl, rfl, rfl, rfl, rfl⟩ rfl rfl rfl rfl rfl fnExactSessionSearch_named Tryz.func4 fnExactSessionSearch_closed
    (of_decide_eq_true (by kernel_rfl)) (by unfold Func.isWrapper; first | (rw [if_pos (by decide +kernel)]; kernel_rfl) | (rw [if_neg (by decide +kernel)]; exact ⟨rfl, rfl⟩))
    (fun os started H enc _ _ => Znp (fnExactSessionSearch_lifted os started H enc))
set_option maxRecDepth 100000 in
theorem fnExactSessionSearch_proved : Rows.FnExactSessionSearchCardSaid :=
  Zti .later [.data, .sentinel, .sentinel, .sentinel, .sentinel, .data, .pinned, .pinned] true (true, "eb6a91292704ca8ad598b7df4fb4e3ffa97b294d7f6d22fe3d93e58134193928") true ZdX (by kernel_rfl) fnExactSessionSearch_row_tie rfl ⟨rfl, rfl⟩ (by kernel_rfl) rfl
    (fun f fn hf hfn => by
      obtain rfl : f = 4 := Option.some.inj (fnExactSessionSearch_named.symm.trans hf) |>.symm
      obtain rfl : fn = Tryz.f4 := (Option.some.inj (Tryz.func4.symm.trans hfn)).symm
      exact ⟨by kernel_rfl, fun j t ht => Zun (by kernel_rfl) ht⟩)
    (by kernel_rfl)

end Go.Proofs.YtonfijmgahdgeaaGreatDoor
