/-
  LAWS THAT RETURN TRUE FOR EVERY ARGUMENT, with goroutines started and awaited on the way, and the arguments read behind the call as they read before. Conditions: none beyond the given rows.
-/
import Derived.Test.YtonfijmgahdgeaaGreatDoorC
import Derived.Test.YtonfijmgahdgeaaGreatDoorCards
import Derived.Test.YtonfijmgahdgeaaGreatDoorTie
import Derived.Conc.Holds
import Derived.Conc.LeavingOf
import Derived.KernelRfl
namespace Go.Proofs.YtonfijmgahdgeaaGreatDoor
open Go.BL
open Go.ChangeShapes Go.WideShapes Go.ChangeAt Go.RowKit
set_option linter.unusedVariables false
theorem own : ownKnob Tryz.prog.godebug = none := by kernel_rfl
theorem Zou {H : Type} {enc : TypeId × Value → H} (W : World) : Zcx enc Tryz.prog W 9 Zji := Zp6 Tryz.underlying9
theorem ZsX {H : Type} {enc : TypeId × Value → H} (W : World) : Zcx enc Tryz.prog W 3 ZbU := Zp7 Tryz.underlying3
theorem Zu7 {H : Type} {enc : TypeId × Value → H} (W : World) : Zcx enc Tryz.prog W 119 ZlP := (ZbQ Tryz.underlying119 [(fun cs => ∃ x, Zji (Za2 W) cs x), (fun cs => ∃ x, Zji (Za2 W) cs x), (fun cs => ∃ x, ZbU (Za2 W) cs x)] (by kernel_rfl) ⟨Zou W, Zou W, ZsX W, trivial⟩).mono (by
  rintro cs ⟨_, _, rfl, ⟨x0, rfl, h0⟩, _, _, rfl, ⟨x1, rfl, h1⟩, _, _, rfl, ⟨x2, rfl⟩, rfl⟩
  exact ⟨⟨x0, x1, x2⟩, rfl, h0, h1⟩)
theorem ZsS {H : Type} {enc : TypeId × Value → H} (W : World) : Zcx enc Tryz.prog W 22 (ZdQ 3 ZlP) := Zb4 Tryz.underlying22 (by kernel_rfl) (of_decide_eq_true (by kernel_rfl)) (by decide) (Zu7 W)
theorem ZsY {H : Type} {enc : TypeId × Value → H} (W : World) : Zcx enc Tryz.prog W 242 Ziw := (ZbQ Tryz.underlying242 [(fun cs => ∃ x, Zji (Za2 W) cs x), (fun cs => ∃ x, ZbU (Za2 W) cs x)] (by kernel_rfl) ⟨Zou W, ZsX W, trivial⟩).mono (by
  rintro cs ⟨_, _, rfl, ⟨x0, rfl, h0⟩, _, _, rfl, ⟨x1, rfl⟩, rfl⟩
  exact ⟨⟨x0, x1⟩, rfl, h0⟩)
theorem Zp8 {H : Type} {enc : TypeId × Value → H} (W : World) : Zcx enc Tryz.prog W 121 (ZdQ 2 Ziw) := Zb4 Tryz.underlying121 (by kernel_rfl) (of_decide_eq_true (by kernel_rfl)) (by decide) (ZsY W)
theorem Zu9 {H : Type} {enc : TypeId × Value → H} (W : World) : Zcx enc Tryz.prog W 279 ZiE := (ZbQ Tryz.underlying279 [(fun cs => ∃ x, ZbU (Za2 W) cs x), (fun cs => ∃ x, ZbU (Za2 W) cs x), (fun cs => ∃ x, Zji (Za2 W) cs x)] (by kernel_rfl) ⟨ZsX W, ZsX W, Zou W, trivial⟩).mono (by
  rintro cs ⟨_, _, rfl, ⟨x0, rfl⟩, _, _, rfl, ⟨x1, rfl⟩, _, _, rfl, ⟨x2, rfl, h2⟩, rfl⟩
  exact ⟨⟨x0, x1, x2⟩, rfl, h2⟩)
theorem ZsV {H : Type} {enc : TypeId × Value → H} (W : World) : Zcx enc Tryz.prog W 122 (ZdQ 3 ZiE) := Zb4 Tryz.underlying122 (by kernel_rfl) (of_decide_eq_true (by kernel_rfl)) (by decide) (Zu9 W)
theorem Zw2 {H : Type} {enc : TypeId × Value → H} (W : World) : ZdR enc Tryz.prog W 124 (fun cs => ∃ n xs q cp, cs = [.int .i64 n, .slice q xs.length cp] ∧ SlB (Za2 W) q cp 3 ZiE xs) := (ZbQ Tryz.underlying124 [(fun cs => ∃ x, ZbU (Za2 W) cs x), (fun cs => ∃ x, ZdQ 3 ZiE (Za2 W) cs x)] (by kernel_rfl) ⟨ZsX W, ZsV W, trivial⟩).mono (by
  rintro cs ⟨_, _, rfl, ⟨x0, rfl⟩, _, _, rfl, ⟨x1, q1, c1, rfl, h1⟩, rfl⟩
  exact ⟨x0, x1, q1, c1, rfl, h1⟩)
theorem Zp9 {H : Type} {enc : TypeId × Value → H} (W : World) : Zcx enc Tryz.prog W 126 Zff := (ZbQ Tryz.underlying126 [(fun cs => ∃ x, Zji (Za2 W) cs x), (fun cs => ∃ x, Zji (Za2 W) cs x), (fun cs => ∃ x, ZdQ 2 Ziw (Za2 W) cs x), (fun cs => ∃ n xs q cp, cs = [.int .i64 n, .slice q xs.length cp] ∧ SlB (Za2 W) q cp 3 ZiE xs)] (by kernel_rfl) ⟨Zou W, Zou W, Zp8 W, Zw2 W, trivial⟩).mono (by
  rintro cs ⟨_, _, rfl, ⟨x0, rfl, h0⟩, _, _, rfl, ⟨x1, rfl, h1⟩, _, _, rfl, ⟨x2, q2, c2, rfl, h2⟩, _, _, rfl, ⟨n3, x3, q3, c3, rfl, h3⟩, rfl⟩
  exact ⟨⟨x0, x1, x2, n3, x3⟩, q2, c2, q3, c3, rfl, h2, h3, h0, h1⟩)
theorem Zov {H : Type} {enc : TypeId × Value → H} (W : World) : Zcx enc Tryz.prog W 23 (ZdQ 5 Zff) := Zb4 Tryz.underlying23 (by kernel_rfl) (of_decide_eq_true (by kernel_rfl)) (by decide) (Zp9 W)
theorem ZyK {H : Type} {enc : TypeId × Value → H} (W : World) : Zcx enc Tryz.prog W 134 (ZdQ 1 Zji) := Zb4 Tryz.underlying134 (by kernel_rfl) (of_decide_eq_true (by kernel_rfl)) (by decide) (Zou W)
theorem Zva {H : Type} {enc : TypeId × Value → H} (W : World) : Zcx enc Tryz.prog W 197 Ziv := (ZbQ Tryz.underlying197 [(fun cs => ∃ x, ZbU (Za2 W) cs x), (fun cs => ∃ x, Zji (Za2 W) cs x), (fun cs => ∃ x, Zji (Za2 W) cs x), (fun cs => ∃ x, ZdQ 1 Zji (Za2 W) cs x)] (by kernel_rfl) ⟨ZsX W, Zou W, Zou W, ZyK W, trivial⟩).mono (by
  rintro cs ⟨_, _, rfl, ⟨x0, rfl⟩, _, _, rfl, ⟨x1, rfl, h1⟩, _, _, rfl, ⟨x2, rfl, h2⟩, _, _, rfl, ⟨x3, q3, c3, rfl, h3⟩, rfl⟩
  exact ⟨⟨x0, x1, x2, x3⟩, q3, c3, rfl, h3, h1, h2⟩)
theorem ZsW {H : Type} {enc : TypeId × Value → H} (W : World) : Zcx enc Tryz.prog W 24 (ZdQ 4 Ziv) := Zb4 Tryz.underlying24 (by kernel_rfl) (of_decide_eq_true (by kernel_rfl)) (by decide) (Zva W)
theorem ZsU {H : Type} {enc : TypeId × Value → H} (W : World) : ZdR enc Tryz.prog W 26 (fun cs => ∃ n xs q cp, cs = [.int .i64 n, .slice q xs.length cp] ∧ SlB (Za2 W) q cp 4 Ziv xs) := (ZbQ Tryz.underlying26 [(fun cs => ∃ x, ZbU (Za2 W) cs x), (fun cs => ∃ x, ZdQ 4 Ziv (Za2 W) cs x)] (by kernel_rfl) ⟨ZsX W, ZsW W, trivial⟩).mono (by
  rintro cs ⟨_, _, rfl, ⟨x0, rfl⟩, _, _, rfl, ⟨x1, q1, c1, rfl, h1⟩, rfl⟩
  exact ⟨x0, x1, q1, c1, rfl, h1⟩)
theorem Zvb {H : Type} {enc : TypeId × Value → H} (W : World) : ZdR enc Tryz.prog W 28 (fun cs => ∃ (x : DHost) (q1 q2 q3 : Option Addr) (c1 c2 c3 : Nat), cs = [str x.domain, .slice q1 x.users.length c1, .slice q2 x.folders.length c2, .int .i64 x.queue.next, .slice q3 x.queue.items.length c3] ∧ x.domain.length ≤ 140737488355328 ∧ SlB (Za2 W) q1 c1 3 ZlP x.users ∧ SlB (Za2 W) q2 c2 5 Zff x.folders ∧ SlB (Za2 W) q3 c3 4 Ziv x.queue.items) := (ZbQ Tryz.underlying28 [(fun cs => ∃ x, Zji (Za2 W) cs x), (fun cs => ∃ x, ZdQ 3 ZlP (Za2 W) cs x), (fun cs => ∃ x, ZdQ 5 Zff (Za2 W) cs x), (fun cs => ∃ n xs q cp, cs = [.int .i64 n, .slice q xs.length cp] ∧ SlB (Za2 W) q cp 4 Ziv xs)] (by kernel_rfl) ⟨Zou W, ZsS W, Zov W, ZsU W, trivial⟩).mono (by
  rintro cs ⟨_, _, rfl, ⟨x0, rfl, h0⟩, _, _, rfl, ⟨x1, q1, c1, rfl, h1⟩, _, _, rfl, ⟨x2, q2, c2, rfl, h2⟩, _, _, rfl, ⟨n3, x3, q3, c3, rfl, h3⟩, rfl⟩
  exact ⟨⟨x0, x1, x2, ⟨n3, x3⟩⟩, q1, q2, q3, c1, c2, c3, rfl, h0, h1, h2, h3⟩)
theorem Zot {H : Type} {enc : TypeId × Value → H} (W : World) : ZdR enc Tryz.prog W 30 (fun cs => ∃ (u y z : Str), cs = [str u, str y, str z] ∧ u.length ≤ 140737488355328 ∧ y.length ≤ 140737488355328 ∧ z.length ≤ 140737488355328) := (ZbQ Tryz.underlying30 [(fun cs => ∃ x, Zji (Za2 W) cs x), (fun cs => ∃ x, Zji (Za2 W) cs x), (fun cs => ∃ x, Zji (Za2 W) cs x)] (by kernel_rfl) ⟨Zou W, Zou W, Zou W, trivial⟩).mono (by
  rintro cs ⟨_, _, rfl, ⟨x0, rfl, h0⟩, _, _, rfl, ⟨x1, rfl, h1⟩, _, _, rfl, ⟨x2, rfl, h2⟩, rfl⟩
  exact ⟨x0, x1, x2, rfl, h0, h1, h2⟩)
theorem Zu8 {H : Type} {enc : TypeId × Value → H} (W : World) : Zcx enc Tryz.prog W 95 Z0 := (ZbQ Tryz.underlying95 [(fun cs => ∃ x, ZbU (Za2 W) cs x), (fun cs => ∃ x, ZbU (Za2 W) cs x)] (by kernel_rfl) ⟨ZsX W, ZsX W, trivial⟩).mono (by
  rintro cs ⟨_, _, rfl, ⟨x0, rfl⟩, _, _, rfl, ⟨x1, rfl⟩, rfl⟩
  exact ⟨⟨x0, x1⟩, rfl⟩)
theorem ZsT {H : Type} {enc : TypeId × Value → H} (W : World) : Zcx enc Tryz.prog W 31 (ZdQ 2 Z0) := Zb4 Tryz.underlying31 (by kernel_rfl) (of_decide_eq_true (by kernel_rfl)) (by decide) (Zu8 W)
theorem Zri : "*" ++ "errors.errorString" = "*errors.errorString" := by decide
theorem Zxs (u : TypeId) (h : Tryz.prog.typeName? 3 u = some "*errors.errorString") : u = 392 :=
  typeName_ptr_named (nm := "errors.errorString") (by rw [Zri]; kernel_rfl) (by kernel_rfl) (by decide) u (by rw [Zri]; exact h)

theorem ZeC (os : Os) (args : Array Value) : laidMetH Tryz.prog Rows.fnExactSessionStoreRow.laid ((World.doorLaid Tryz.prog 100 os).forCall (fun _ _ => 0) ⟨#[], args, []⟩).memory :=
  laidMetH_of_parts3 (fuel := 8) (laidMet_of_run' 8 (by kernel_rfl) (by kernel_rfl)) (by kernel_rfl) (by kernel_rfl)
set_option maxRecDepth 100000 in
set_option maxHeartbeats 1600000 in
theorem fnExactSessionStore_lifted (os : Os) (started : os.Started) (H : Type) (enc : TypeId × Value → H) :
    ReturnsInLeavingWide { calm := true } Tryz.checked os 3 .any (fun w args => (Rows.fnExactSessionStoreSpec.pre enc Tryz.prog Tryz.f3 Rows.fnExactSessionStoreRow.domain false w args ∧ laidMetH Tryz.prog Rows.fnExactSessionStoreRow.laid w) ∧ sizedMet enc Tryz.prog Tryz.f3 (OpenSpec.ofChange Rows.fnExactSessionStoreSpec) false w args) (Rows.fnExactSessionStoreSpec.post enc Tryz.prog Tryz.f3 false true false false) := by
  refine ZkJ (C := Tryz.checked) own started Tryz.func3 (Zsg (enc := enc) (C := Tryz.checked) (os := os) (X := fun w _ => laidMetH Tryz.prog Rows.fnExactSessionStoreRow.laid w) (World.doorLaid Tryz.prog 100 os) #[.agg #[.string ⟨#[]⟩, .slice none 0 0, .slice none 0 0, .int .i64 0, .slice none 0 0], .agg #[.string ⟨#[]⟩, .string ⟨#[]⟩, .string ⟨#[]⟩], .slice none 0 0, .int .i64 0, .int .i64 0] 8 rfl (World.shaped_of_RefB (by kernel_rfl) (by kernel_rfl)) (by kernel_rfl) (by kernel_rfl) (by kernel_rfl) (ZeC os _)) ?_
  intro W base args ds gs before hval hW hwt hL
  have hW' := hW
  obtain ⟨p, q, hA0, hV, rfl, hfz, hnd⟩ := hW
  have hA : DataW.TrodAll enc Tryz.prog W 0 (fun _ => true) true Tryz.f3.params.toList args.toList ds p := hA0
  replace hval : ∀ (j : Nat) t v, Tryz.f3.params[j]? = some t → args[j]? = some v → Value.okWide Tryz.prog W .any base t v := hval
  replace hwt : (DataW.weightsEach Tryz.prog (Tryz.f3.params.toList ++ Rows.fnExactSessionStoreSpec.plain.varTypes Tryz.prog) (ds ++ gs)).all (· ≤ reachBytes) = true := hwt
  rw [Tryz.params3] at hA hval hwt
  obtain ⟨v0, vs0, d0, ds0, p0, qq0, hargs, rfl, rfl, h0, r0⟩ := trodAll_cons hA
  obtain ⟨v1, vs1, d1, ds1, p1, qq1, rfl, rfl, rfl, h1, r1⟩ := trodAll_cons r0
  obtain ⟨v2, vs2, d2, ds2, p2, qq2, rfl, rfl, rfl, h2, r2⟩ := trodAll_cons r1
  obtain ⟨v3, vs3, d3, ds3, p3, qq3, rfl, rfl, rfl, h3, r3⟩ := trodAll_cons r2
  obtain ⟨v4, vs4, d4, ds4, p4, qq4, rfl, rfl, rfl, h4, r4⟩ := trodAll_cons r3
  obtain ⟨rfl, rfl, rfl⟩ := trodAll_nil r4
  obtain rfl : args = #[v0, v1, v2, v3, v4] := by cases args; simp_all
  have e0 := Zjw h0 (Zvb W) (weigh hwt (i := 0) rfl rfl)
  obtain ⟨cs0, rfl, _⟩ := okWide_struct Tryz.underlying28 (hval 0 28 v0 rfl rfl)
  obtain ⟨x0, q01, q02, q03, c01, c02, c03, e0, hd0, hu0, hf0, hi0⟩ := e0
  obtain rfl : cs0 = #[str x0.domain, .slice q01 x0.users.length c01, .slice q02 x0.folders.length c02, .int .i64 x0.queue.next, .slice q03 x0.queue.items.length c03] := Array.ext' e0
  have e1 := Zjw h1 (Zot W) (weigh hwt (i := 1) rfl rfl)
  obtain ⟨cs1, rfl, _⟩ := okWide_struct Tryz.underlying30 (hval 1 30 v1 rfl rfl)
  obtain ⟨u1, y1, z1, e1, hs1a, hs1b, hs1c⟩ := e1
  obtain rfl : cs1 = #[str u1, str y1, str z1] := Array.ext' e1
  have e2 := Zjw h2 (ZsT W) (weigh hwt (i := 2) rfl rfl)
  obtain ⟨aa2, ll2, cc2, rfl⟩ := okWide_slice Tryz.underlying31 (hval 2 31 v2 rfl rfl)
  obtain ⟨x2, q2, c2, e2, hs2⟩ := e2
  obtain ⟨rfl, rfl, rfl⟩ := Value.slice.inj (List.cons.inj e2).1
  obtain ⟨x3, rfl⟩ := okWide_int Tryz.underlying3 (hval 3 3 v3 rfl rfl)
  obtain ⟨x4, rfl⟩ := okWide_int Tryz.underlying3 (hval 4 3 v4 rfl rfl)
  rw [MakeChecks.laidMetH_plain _ _ _ (by kernel_rfl)] at hL
  obtain ⟨a, hE⟩ := Zrh hL (by kernel_rfl) (by kernel_rfl) (by kernel_rfl) (by kernel_rfl) (by kernel_rfl) (by kernel_rfl) (by kernel_rfl) (by kernel_rfl) Tryz.underlying100 Zxs Tryz.underlying392 Tryz.underlying414 rfl rfl Tryz.underlying9 (by kernel_rfl) (by kernel_rfl)
  obtain ⟨code, hb, h⟩ := ZmV q01 q02 q03 c01 c02 c03 x0 hd0 u1 y1 z1 hs1a hs1b hs1c _ _ x2 x3 x4 (Za2 W) a hE hu0 hf0 hi0 hs2
  obtain ⟨M, last, o, w', t', r1, r2, r3, r4⟩ := Zu0 142 Tryz.func3 hb rfl rfl (by kernel_rfl) (Nat.le_of_ble_eq_true rfl) h
  exact ⟨M, last, o, w', t', r1, r2, r3, Conc.Good.mono r4 fun v ⟨hk, _, _, _, hv⟩ => by
    subst hv
    exact Zqu (tb := 4) (by kernel_rfl) (by kernel_rfl) rfl Tryz.underlying4 (ZlX (by kernel_rfl)) hW' (fun ds' gs' hg hl => by
      match ds', gs', hl, hg with
      | [_, _, _, _, _], [_, _, _, _], _, _ => rfl) hk⟩
set_option maxRecDepth 100000 in
set_option maxHeartbeats 0 in
theorem fnExactSessionStore_closed : joinedFacts Tryz.checked.prog 3 Tryz.f3 Rows.fnExactSessionStoreSpec Rows.fnExactSessionStoreRow = true := by
  unfold joinedFacts
  simp only [Bool.and_eq_true]
  repeat' apply And.intro
  all_goals (as_aux_lemma => kernel_rfl)
set_option maxRecDepth 100000 in
theorem fnExactSessionStore_named : Tryz.checked.prog.funcNamed Rows.fnExactSessionStoreRow.func = some 3 := by kernel_rfl
set_option maxRecDepth 100000 in
theorem Zeb : Rows.FnExactSessionStoreSaid :=
  OpenClaim.holds_of_wide_leaving_time 3 Tryz.f3 rfl rfl rfl rfl rfl rfl rfl ⟨rfl, rfl, rfl, rfl, rfl⟩ rfl rfl rfl rfl rfl fnExactSessionStore_named Tryz.func3 fnExactSessionStore_closed
    (of_decide_eq_true (by kernel_rfl)) (by unfold Func.isWrapper; first | (rw [if_pos (by decide +kernel)]; kernel_rfl) | (rw [if_neg (by decide +kernel)]; exact ⟨rfl, rfl⟩))
    (fun os started H enc _ _ => Zmz (fnExactSessionStore_lifted os started H enc))
set_option maxRecDepth 100000 in
theorem fnExactSessionStore_proved : Rows.FnExactSessionStoreCardSaid :=
  ZrJ .later [.sentinel, .sentinel, .sentinel, .sentinel] true (true, "eb6a91292704ca8ad598b7df4fb4e3ffa97b294d7f6d22fe3d93e58134193928") true Zeb (by kernel_rfl) fnExactSessionStore_row_tie rfl ⟨rfl, rfl⟩ (by kernel_rfl) rfl
    (fun f fn hf hfn => by
      obtain rfl : f = 3 := Option.some.inj (fnExactSessionStore_named.symm.trans hf) |>.symm
      obtain rfl : fn = Tryz.f3 := (Option.some.inj (Tryz.func3.symm.trans hfn)).symm
      exact ⟨by kernel_rfl, fun j t ht => ZsC (by kernel_rfl) ht⟩)
    (by kernel_rfl)

end Go.Proofs.YtonfijmgahdgeaaGreatDoor
