/-
  LAWS THAT RETURN TRUE FOR EVERY ARGUMENT, with goroutines started and awaited on the way, and the arguments read behind the call as they read before. Conditions: none beyond the given rows.
-/
import Derived.Test.YtgbaglnnkikkgaaGreatDoorC
import Derived.Test.YtgbaglnnkikkgaaGreatDoorCards
import Derived.Test.YtgbaglnnkikkgaaGreatDoorTie
import Derived.Conc.Holds
import Derived.Conc.LeavingOf
import Derived.KernelRfl
namespace Go.Proofs.YtgbaglnnkikkgaaGreatDoor
open Go.BL
open Go.ChangeShapes Go.WideShapes Go.ChangeAt Go.RowKit
set_option linter.unusedVariables false
theorem own : ownKnob Tryz.prog.godebug = none := by kernel_rfl
theorem Zmk {H : Type} {enc : TypeId × Value → H} (W : World) : Zcw enc Tryz.prog W 9 ZkH := ZoM Tryz.underlying9
theorem Zta {H : Type} {enc : TypeId × Value → H} (W : World) : Zcw enc Tryz.prog W 3 Zea := ZoN Tryz.underlying3
theorem Zs7 {H : Type} {enc : TypeId × Value → H} (W : World) : Zcw enc Tryz.prog W 86 ZkG := (Zct Tryz.underlying86 [(fun cs => ∃ x, ZkH (Za4 W) cs x), (fun cs => ∃ x, ZkH (Za4 W) cs x), (fun cs => ∃ x, Zea (Za4 W) cs x)] (by kernel_rfl) ⟨Zmk W, Zmk W, Zta W, trivial⟩).mono (by
  rintro cs ⟨_, _, rfl, ⟨x0, rfl, h0⟩, _, _, rfl, ⟨x1, rfl, h1⟩, _, _, rfl, ⟨x2, rfl⟩, rfl⟩
  exact ⟨⟨x0, x1, x2⟩, rfl, h0, h1⟩)
theorem Zq0 {H : Type} {enc : TypeId × Value → H} (W : World) : Zcw enc Tryz.prog W 22 (ZdN 3 ZkG) := Zcf Tryz.underlying22 (by kernel_rfl) (of_decide_eq_true (by kernel_rfl)) (by decide) (Zs7 W)
theorem Zq4 {H : Type} {enc : TypeId × Value → H} (W : World) : Zcw enc Tryz.prog W 169 ZhP := (Zct Tryz.underlying169 [(fun cs => ∃ x, ZkH (Za4 W) cs x), (fun cs => ∃ x, Zea (Za4 W) cs x)] (by kernel_rfl) ⟨Zmk W, Zta W, trivial⟩).mono (by
  rintro cs ⟨_, _, rfl, ⟨x0, rfl, h0⟩, _, _, rfl, ⟨x1, rfl⟩, rfl⟩
  exact ⟨⟨x0, x1⟩, rfl, h0⟩)
theorem ZoO {H : Type} {enc : TypeId × Value → H} (W : World) : Zcw enc Tryz.prog W 88 (ZdN 2 ZhP) := Zcf Tryz.underlying88 (by kernel_rfl) (of_decide_eq_true (by kernel_rfl)) (by decide) (Zq4 W)
theorem Zs8 {H : Type} {enc : TypeId × Value → H} (W : World) : Zcw enc Tryz.prog W 205 ZhV := (Zct Tryz.underlying205 [(fun cs => ∃ x, Zea (Za4 W) cs x), (fun cs => ∃ x, Zea (Za4 W) cs x), (fun cs => ∃ x, ZkH (Za4 W) cs x)] (by kernel_rfl) ⟨Zta W, Zta W, Zmk W, trivial⟩).mono (by
  rintro cs ⟨_, _, rfl, ⟨x0, rfl⟩, _, _, rfl, ⟨x1, rfl⟩, _, _, rfl, ⟨x2, rfl, h2⟩, rfl⟩
  exact ⟨⟨x0, x1, x2⟩, rfl, h2⟩)
theorem Zq2 {H : Type} {enc : TypeId × Value → H} (W : World) : Zcw enc Tryz.prog W 89 (ZdN 3 ZhV) := Zcf Tryz.underlying89 (by kernel_rfl) (of_decide_eq_true (by kernel_rfl)) (by decide) (Zs8 W)
theorem ZuM {H : Type} {enc : TypeId × Value → H} (W : World) : ZdO enc Tryz.prog W 91 (fun cs => ∃ n xs q cp, cs = [.int .i64 n, .slice q xs.length cp] ∧ SlB (Za4 W) q cp 3 ZhV xs) := (Zct Tryz.underlying91 [(fun cs => ∃ x, Zea (Za4 W) cs x), (fun cs => ∃ x, ZdN 3 ZhV (Za4 W) cs x)] (by kernel_rfl) ⟨Zta W, Zq2 W, trivial⟩).mono (by
  rintro cs ⟨_, _, rfl, ⟨x0, rfl⟩, _, _, rfl, ⟨x1, q1, c1, rfl, h1⟩, rfl⟩
  exact ⟨x0, x1, q1, c1, rfl, h1⟩)
theorem ZoP {H : Type} {enc : TypeId × Value → H} (W : World) : Zcw enc Tryz.prog W 93 ZeD := (Zct Tryz.underlying93 [(fun cs => ∃ x, ZkH (Za4 W) cs x), (fun cs => ∃ x, ZkH (Za4 W) cs x), (fun cs => ∃ x, ZdN 2 ZhP (Za4 W) cs x), (fun cs => ∃ n xs q cp, cs = [.int .i64 n, .slice q xs.length cp] ∧ SlB (Za4 W) q cp 3 ZhV xs)] (by kernel_rfl) ⟨Zmk W, Zmk W, ZoO W, ZuM W, trivial⟩).mono (by
  rintro cs ⟨_, _, rfl, ⟨x0, rfl, h0⟩, _, _, rfl, ⟨x1, rfl, h1⟩, _, _, rfl, ⟨x2, q2, c2, rfl, h2⟩, _, _, rfl, ⟨n3, x3, q3, c3, rfl, h3⟩, rfl⟩
  exact ⟨⟨x0, x1, x2, n3, x3⟩, q2, c2, q3, c3, rfl, h2, h3, h0, h1⟩)
theorem Znd {H : Type} {enc : TypeId × Value → H} (W : World) : Zcw enc Tryz.prog W 23 (ZdN 5 ZeD) := Zcf Tryz.underlying23 (by kernel_rfl) (of_decide_eq_true (by kernel_rfl)) (by decide) (ZoP W)
theorem Zv4 {H : Type} {enc : TypeId × Value → H} (W : World) : Zcw enc Tryz.prog W 99 (ZdN 1 ZkH) := Zcf Tryz.underlying99 (by kernel_rfl) (of_decide_eq_true (by kernel_rfl)) (by decide) (Zmk W)
theorem Zs9 {H : Type} {enc : TypeId × Value → H} (W : World) : Zcw enc Tryz.prog W 138 ZhO := (Zct Tryz.underlying138 [(fun cs => ∃ x, Zea (Za4 W) cs x), (fun cs => ∃ x, ZkH (Za4 W) cs x), (fun cs => ∃ x, ZkH (Za4 W) cs x), (fun cs => ∃ x, ZdN 1 ZkH (Za4 W) cs x)] (by kernel_rfl) ⟨Zta W, Zmk W, Zmk W, Zv4 W, trivial⟩).mono (by
  rintro cs ⟨_, _, rfl, ⟨x0, rfl⟩, _, _, rfl, ⟨x1, rfl, h1⟩, _, _, rfl, ⟨x2, rfl, h2⟩, _, _, rfl, ⟨x3, q3, c3, rfl, h3⟩, rfl⟩
  exact ⟨⟨x0, x1, x2, x3⟩, q3, c3, rfl, h3, h1, h2⟩)
theorem Zq3 {H : Type} {enc : TypeId × Value → H} (W : World) : Zcw enc Tryz.prog W 24 (ZdN 4 ZhO) := Zcf Tryz.underlying24 (by kernel_rfl) (of_decide_eq_true (by kernel_rfl)) (by decide) (Zs9 W)
theorem Zq1 {H : Type} {enc : TypeId × Value → H} (W : World) : ZdO enc Tryz.prog W 26 (fun cs => ∃ n xs q cp, cs = [.int .i64 n, .slice q xs.length cp] ∧ SlB (Za4 W) q cp 4 ZhO xs) := (Zct Tryz.underlying26 [(fun cs => ∃ x, Zea (Za4 W) cs x), (fun cs => ∃ x, ZdN 4 ZhO (Za4 W) cs x)] (by kernel_rfl) ⟨Zta W, Zq3 W, trivial⟩).mono (by
  rintro cs ⟨_, _, rfl, ⟨x0, rfl⟩, _, _, rfl, ⟨x1, q1, c1, rfl, h1⟩, rfl⟩
  exact ⟨x0, x1, q1, c1, rfl, h1⟩)
theorem Ztb {H : Type} {enc : TypeId × Value → H} (W : World) : ZdO enc Tryz.prog W 28 (fun cs => ∃ (x : DHost) (q1 q2 q3 : Option Addr) (c1 c2 c3 : Nat), cs = [str x.domain, .slice q1 x.users.length c1, .slice q2 x.folders.length c2, .int .i64 x.queue.next, .slice q3 x.queue.items.length c3] ∧ x.domain.length ≤ 140737488355328 ∧ SlB (Za4 W) q1 c1 3 ZkG x.users ∧ SlB (Za4 W) q2 c2 5 ZeD x.folders ∧ SlB (Za4 W) q3 c3 4 ZhO x.queue.items) := (Zct Tryz.underlying28 [(fun cs => ∃ x, ZkH (Za4 W) cs x), (fun cs => ∃ x, ZdN 3 ZkG (Za4 W) cs x), (fun cs => ∃ x, ZdN 5 ZeD (Za4 W) cs x), (fun cs => ∃ n xs q cp, cs = [.int .i64 n, .slice q xs.length cp] ∧ SlB (Za4 W) q cp 4 ZhO xs)] (by kernel_rfl) ⟨Zmk W, Zq0 W, Znd W, Zq1 W, trivial⟩).mono (by
  rintro cs ⟨_, _, rfl, ⟨x0, rfl, h0⟩, _, _, rfl, ⟨x1, q1, c1, rfl, h1⟩, _, _, rfl, ⟨x2, q2, c2, rfl, h2⟩, _, _, rfl, ⟨n3, x3, q3, c3, rfl, h3⟩, rfl⟩
  exact ⟨⟨x0, x1, x2, ⟨n3, x3⟩⟩, q1, q2, q3, c1, c2, c3, rfl, h0, h1, h2, h3⟩)
theorem ZpI : "*" ++ "errors.errorString" = "*errors.errorString" := by decide
theorem Zu7 (u : TypeId) (h : Tryz.prog.typeName? 3 u = some "*errors.errorString") : u = 288 :=
  typeName_ptr_named (nm := "errors.errorString") (by rw [ZpI]; kernel_rfl) (by kernel_rfl) (by decide) u (by rw [ZpI]; exact h)

theorem ZeX (os : Os) (args : Array Value) : laidMetH Tryz.prog Rows.fnExactHostGrantRow.laid ((World.doorLaid Tryz.prog 85 os).forCall (fun _ _ => 0) ⟨#[], args, []⟩).memory :=
  laidMetH_of_parts3 (fuel := 8) (laidMet_of_run' 8 (by kernel_rfl) (by kernel_rfl)) (by kernel_rfl) (by kernel_rfl)
set_option maxRecDepth 100000 in
set_option maxHeartbeats 1600000 in
theorem fnExactHostGrant_lifted (os : Os) (started : os.Started) (H : Type) (enc : TypeId × Value → H) :
    ReturnsInLeavingWide {} Tryz.checked os 3 .any (fun w args => (Rows.fnExactHostGrantSpec.pre enc Tryz.prog Tryz.f3 Rows.fnExactHostGrantRow.domain false w args ∧ laidMetH Tryz.prog Rows.fnExactHostGrantRow.laid w) ∧ sizedMet enc Tryz.prog Tryz.f3 (OpenSpec.ofChange Rows.fnExactHostGrantSpec) false w args) (Rows.fnExactHostGrantSpec.post enc Tryz.prog Tryz.f3 false true false false) := by
  refine ZjR (C := Tryz.checked) own started Tryz.func3 (ChangeSpec.witness_shaped (enc := enc) (C := Tryz.checked) (os := os) (X := fun w _ => laidMetH Tryz.prog Rows.fnExactHostGrantRow.laid w) false (World.doorLaid Tryz.prog 85 os) #[.agg #[.string ⟨#[]⟩, .slice none 0 0, .slice none 0 0, .int .i64 0, .slice none 0 0], .string ⟨#[]⟩, .string ⟨#[]⟩, .string ⟨#[]⟩, .string ⟨#[]⟩, .int .i64 0] 8 rfl (World.shaped_of_RefB (by kernel_rfl) (by kernel_rfl)) (by kernel_rfl) (by kernel_rfl) (by kernel_rfl) (ZeX os _)) ?_
  intro W base args ds gs before hval hW hwt hL
  have hW' := hW
  obtain ⟨p, q, hA0, hV, rfl, hfz, hnd⟩ := hW
  have hA : DataW.TrodAll enc Tryz.prog W 0 (fun _ => true) true Tryz.f3.params.toList args.toList ds p := hA0
  replace hval : ∀ (j : Nat) t v, Tryz.f3.params[j]? = some t → args[j]? = some v → Value.okWide Tryz.prog W .any base t v := hval
  replace hwt : (DataW.weightsEach Tryz.prog (Tryz.f3.params.toList ++ Rows.fnExactHostGrantSpec.plain.varTypes Tryz.prog) (ds ++ gs)).all (· ≤ reachBytes) = true := hwt
  rw [Tryz.params3] at hA hval hwt
  obtain ⟨v0, vs0, d0, ds0, p0, qq0, hargs, rfl, rfl, h0, r0⟩ := trodAll_cons hA
  obtain ⟨v1, vs1, d1, ds1, p1, qq1, rfl, rfl, rfl, h1, r1⟩ := trodAll_cons r0
  obtain ⟨v2, vs2, d2, ds2, p2, qq2, rfl, rfl, rfl, h2, r2⟩ := trodAll_cons r1
  obtain ⟨v3, vs3, d3, ds3, p3, qq3, rfl, rfl, rfl, h3, r3⟩ := trodAll_cons r2
  obtain ⟨v4, vs4, d4, ds4, p4, qq4, rfl, rfl, rfl, h4, r4⟩ := trodAll_cons r3
  obtain ⟨v5, vs5, d5, ds5, p5, qq5, rfl, rfl, rfl, h5, r5⟩ := trodAll_cons r4
  obtain ⟨rfl, rfl, rfl⟩ := trodAll_nil r5
  obtain rfl : args = #[v0, v1, v2, v3, v4, v5] := by cases args; simp_all
  have e0 := ZfP h0 (Ztb W) (weigh hwt (i := 0) rfl rfl)
  obtain ⟨cs0, rfl, _⟩ := okWide_struct Tryz.underlying28 (hval 0 28 v0 rfl rfl)
  obtain ⟨x0, q01, q02, q03, c01, c02, c03, e0, hd0, hu0, hf0, hi0⟩ := e0
  obtain rfl : cs0 = #[str x0.domain, .slice q01 x0.users.length c01, .slice q02 x0.folders.length c02, .int .i64 x0.queue.next, .slice q03 x0.queue.items.length c03] := Array.ext' e0
  have e1 := ZfP h1 (Zmk W) (weigh hwt (i := 1) rfl rfl)
  obtain ⟨s1, rfl⟩ := okWide_string Tryz.underlying9 (hval 1 9 v1 rfl rfl)
  obtain ⟨x1, e1, g1⟩ := e1
  obtain rfl : s1 = ⟨x1.toArray⟩ := Value.string.inj (List.cons.inj e1).1
  have e2 := ZfP h2 (Zmk W) (weigh hwt (i := 2) rfl rfl)
  obtain ⟨s2, rfl⟩ := okWide_string Tryz.underlying9 (hval 2 9 v2 rfl rfl)
  obtain ⟨x2, e2, g2⟩ := e2
  obtain rfl : s2 = ⟨x2.toArray⟩ := Value.string.inj (List.cons.inj e2).1
  have e3 := ZfP h3 (Zmk W) (weigh hwt (i := 3) rfl rfl)
  obtain ⟨s3, rfl⟩ := okWide_string Tryz.underlying9 (hval 3 9 v3 rfl rfl)
  obtain ⟨x3, e3, g3⟩ := e3
  obtain rfl : s3 = ⟨x3.toArray⟩ := Value.string.inj (List.cons.inj e3).1
  have e4 := ZfP h4 (Zmk W) (weigh hwt (i := 4) rfl rfl)
  obtain ⟨s4, rfl⟩ := okWide_string Tryz.underlying9 (hval 4 9 v4 rfl rfl)
  obtain ⟨x4, e4, g4⟩ := e4
  obtain rfl : s4 = ⟨x4.toArray⟩ := Value.string.inj (List.cons.inj e4).1
  obtain ⟨x5, rfl⟩ := okWide_int Tryz.underlying3 (hval 5 3 v5 rfl rfl)
  rw [MakeChecks.laidMetH_plain _ _ _ (by kernel_rfl)] at hL
  obtain ⟨a, hE⟩ := ZpH hL (by kernel_rfl) (by kernel_rfl) (by kernel_rfl) (by kernel_rfl) (by kernel_rfl) (by kernel_rfl) (by kernel_rfl) (by kernel_rfl) Tryz.underlying68 Zu7 Tryz.underlying288 Tryz.underlying312 rfl rfl Tryz.underlying9 (by kernel_rfl) (by kernel_rfl)
  obtain ⟨code, hb, h⟩ := ZlC q01 q02 q03 c01 c02 c03 x0 hd0 x1 x2 x3 x4 x5 g1 g2 g3 g4 a (Za4 W) hE hu0 hf0 hi0
  obtain ⟨M, last, o, w', t', r1, r2, r3, r4⟩ := Zs0 133 Tryz.func3 hb rfl rfl (by kernel_rfl) (Nat.le_of_ble_eq_true rfl) h
  exact ⟨M, last, o, w', t', r1, r2, r3, Conc.Good.mono r4 fun v ⟨hk, _, _, _, hv⟩ => by
    subst hv
    exact Zo4 (tb := 4) (by kernel_rfl) (by kernel_rfl) rfl Tryz.underlying4 (ZkP (by kernel_rfl)) hW' (fun ds' gs' hg hl => by
      match ds', gs', hl, hg with
      | [_, _, _, _, _, _], [_, _, _, _], _, _ => rfl) hk⟩
set_option maxRecDepth 100000 in
set_option maxHeartbeats 0 in
theorem fnExactHostGrant_closed : joinedFacts Tryz.checked.prog 3 Tryz.f3 Rows.fnExactHostGrantSpec Rows.fnExactHostGrantRow = true := by
  unfold joinedFacts
  simp only [Bool.and_eq_true]
  repeat' apply And.intro
  all_goals (as_aux_lemma => kernel_rfl)
set_option maxRecDepth 100000 in
theorem fnExactHostGrant_named : Tryz.checked.prog.funcNamed Rows.fnExactHostGrantRow.func = some 3 := by kernel_rfl
set_option maxRecDepth 100000 in
theorem Zey : Rows.FnExactHostGrantSaid :=
  OpenClaim.holds_of_wide_leaving 3 Tryz.f3 rfl rfl rfl rfl rfl rfl rfl ⟨rfl, rfl, rfl, rfl, rfl⟩ rfl rfl rfl rfl rfl fnExactHostGrant_named Tryz.func3 fnExactHostGrant_closed
    (of_decide_eq_true (by kernel_rfl)) (by unfold Func.isWrapper; first | (rw [if_pos (by decide +kernel)]; kernel_rfl) | (rw [if_neg (by decide +kernel)]; exact ⟨rfl, rfl⟩))
    (fun os started H enc _ => fnExactHostGrant_lifted os started H enc)
set_option maxRecDepth 100000 in
theorem fnExactHostGrant_proved : Rows.FnExactHostGrantCardSaid :=
  Zp5 .later [.sentinel, .sentinel, .sentinel, .sentinel] true (true, "af8aee3d0bfad04d1e4c5ceabd9a248ec23b3164c197eb02df8e145c331f2c75") true Zey (by kernel_rfl) fnExactHostGrant_row_tie rfl ⟨rfl, rfl⟩ (by kernel_rfl) rfl
    (fun f fn hf hfn => by
      obtain rfl : f = 3 := Option.some.inj (fnExactHostGrant_named.symm.trans hf) |>.symm
      obtain rfl : fn = Tryz.f3 := (Option.some.inj (Tryz.func3.symm.trans hfn)).symm
      exact ⟨by kernel_rfl, fun j t ht => ZqK (by kernel_rfl) ht⟩)
    (by kernel_rfl)

end Go.Proofs.YtgbaglnnkikkgaaGreatDoor
