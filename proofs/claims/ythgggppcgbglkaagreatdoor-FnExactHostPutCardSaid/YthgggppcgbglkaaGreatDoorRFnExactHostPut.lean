/-
  LAWS THAT RETURN TRUE FOR EVERY ARGUMENT, with goroutines started and awaited on the way, and the arguments read behind the call as they read before. Conditions: none beyond the given rows.
-/
import Derived.Test.YthgggppcgbglkaaGreatDoorC
import Derived.Test.YthgggppcgbglkaaGreatDoorCards
import Derived.Test.YthgggppcgbglkaaGreatDoorTie
import Derived.Conc.Holds
import Derived.Conc.LeavingOf
import Derived.KernelRfl
namespace Go.Proofs.YthgggppcgbglkaaGreatDoor
open Go.BL
open Go.ChangeShapes Go.WideShapes Go.ChangeAt Go.RowKit
set_option linter.unusedVariables false
theorem own : ownKnob Tryz.prog.godebug = none := by kernel_rfl
theorem ZlO {H : Type} {enc : TypeId × Value → H} (W : World) : Zcp enc Tryz.prog W 9 Zid := Zob Tryz.underlying9
theorem Zsl {H : Type} {enc : TypeId × Value → H} (W : World) : Zcp enc Tryz.prog W 3 Zdo := Zoc Tryz.underlying3
theorem Zsi {H : Type} {enc : TypeId × Value → H} (W : World) : Zcp enc Tryz.prog W 112 ZhF := (Zcn Tryz.underlying112 [(fun cs => ∃ x, Zid (Za1 W) cs x), (fun cs => ∃ x, Zid (Za1 W) cs x), (fun cs => ∃ x, Zdo (Za1 W) cs x)] (by kernel_rfl) ⟨ZlO W, ZlO W, Zsl W, trivial⟩).mono (by
  rintro cs ⟨_, _, rfl, ⟨x0, rfl, h0⟩, _, _, rfl, ⟨x1, rfl, h1⟩, _, _, rfl, ⟨x2, rfl⟩, rfl⟩
  exact ⟨⟨x0, x1, x2⟩, rfl, h0, h1⟩)
theorem Zqk {H : Type} {enc : TypeId × Value → H} (W : World) : Zcp enc Tryz.prog W 22 (ZdG 3 ZhF) := Zb8 Tryz.underlying22 (by kernel_rfl) (of_decide_eq_true (by kernel_rfl)) (by decide) (Zsi W)
theorem Zqo {H : Type} {enc : TypeId × Value → H} (W : World) : Zcp enc Tryz.prog W 229 ZeX := (Zcn Tryz.underlying229 [(fun cs => ∃ x, Zid (Za1 W) cs x), (fun cs => ∃ x, Zdo (Za1 W) cs x)] (by kernel_rfl) ⟨ZlO W, Zsl W, trivial⟩).mono (by
  rintro cs ⟨_, _, rfl, ⟨x0, rfl, h0⟩, _, _, rfl, ⟨x1, rfl⟩, rfl⟩
  exact ⟨⟨x0, x1⟩, rfl, h0⟩)
theorem Zod {H : Type} {enc : TypeId × Value → H} (W : World) : Zcp enc Tryz.prog W 114 (ZdG 2 ZeX) := Zb8 Tryz.underlying114 (by kernel_rfl) (of_decide_eq_true (by kernel_rfl)) (by decide) (Zqo W)
theorem Zsj {H : Type} {enc : TypeId × Value → H} (W : World) : Zcp enc Tryz.prog W 264 Zgf := (Zcn Tryz.underlying264 [(fun cs => ∃ x, Zdo (Za1 W) cs x), (fun cs => ∃ x, Zdo (Za1 W) cs x), (fun cs => ∃ x, Zid (Za1 W) cs x)] (by kernel_rfl) ⟨Zsl W, Zsl W, ZlO W, trivial⟩).mono (by
  rintro cs ⟨_, _, rfl, ⟨x0, rfl⟩, _, _, rfl, ⟨x1, rfl⟩, _, _, rfl, ⟨x2, rfl, h2⟩, rfl⟩
  exact ⟨⟨x0, x1, x2⟩, rfl, h2⟩)
theorem Zqm {H : Type} {enc : TypeId × Value → H} (W : World) : Zcp enc Tryz.prog W 115 (ZdG 3 Zgf) := Zb8 Tryz.underlying115 (by kernel_rfl) (of_decide_eq_true (by kernel_rfl)) (by decide) (Zsj W)
theorem Zt0 {H : Type} {enc : TypeId × Value → H} (W : World) : ZdH enc Tryz.prog W 117 (fun cs => ∃ n xs q cp, cs = [.int .i64 n, .slice q xs.length cp] ∧ SlB (Za1 W) q cp 3 Zgf xs) := (Zcn Tryz.underlying117 [(fun cs => ∃ x, Zdo (Za1 W) cs x), (fun cs => ∃ x, ZdG 3 Zgf (Za1 W) cs x)] (by kernel_rfl) ⟨Zsl W, Zqm W, trivial⟩).mono (by
  rintro cs ⟨_, _, rfl, ⟨x0, rfl⟩, _, _, rfl, ⟨x1, q1, c1, rfl, h1⟩, rfl⟩
  exact ⟨x0, x1, q1, c1, rfl, h1⟩)
theorem Zoe {H : Type} {enc : TypeId × Value → H} (W : World) : Zcp enc Tryz.prog W 119 Zdl := (Zcn Tryz.underlying119 [(fun cs => ∃ x, Zid (Za1 W) cs x), (fun cs => ∃ x, Zid (Za1 W) cs x), (fun cs => ∃ x, ZdG 2 ZeX (Za1 W) cs x), (fun cs => ∃ n xs q cp, cs = [.int .i64 n, .slice q xs.length cp] ∧ SlB (Za1 W) q cp 3 Zgf xs)] (by kernel_rfl) ⟨ZlO W, ZlO W, Zod W, Zt0 W, trivial⟩).mono (by
  rintro cs ⟨_, _, rfl, ⟨x0, rfl, h0⟩, _, _, rfl, ⟨x1, rfl, h1⟩, _, _, rfl, ⟨x2, q2, c2, rfl, h2⟩, _, _, rfl, ⟨n3, x3, q3, c3, rfl, h3⟩, rfl⟩
  exact ⟨⟨x0, x1, x2, n3, x3⟩, q2, c2, q3, c3, rfl, h2, h3, h0, h1⟩)
theorem ZmD {H : Type} {enc : TypeId × Value → H} (W : World) : Zcp enc Tryz.prog W 23 (ZdG 5 Zdl) := Zb8 Tryz.underlying23 (by kernel_rfl) (of_decide_eq_true (by kernel_rfl)) (by decide) (Zoe W)
theorem Zvy {H : Type} {enc : TypeId × Value → H} (W : World) : Zcp enc Tryz.prog W 43 (ZdG 1 Zid) := Zb8 Tryz.underlying43 (by kernel_rfl) (of_decide_eq_true (by kernel_rfl)) (by decide) (ZlO W)
theorem Zsk {H : Type} {enc : TypeId × Value → H} (W : World) : Zcp enc Tryz.prog W 183 Zgg := (Zcn Tryz.underlying183 [(fun cs => ∃ x, Zdo (Za1 W) cs x), (fun cs => ∃ x, Zid (Za1 W) cs x), (fun cs => ∃ x, Zid (Za1 W) cs x), (fun cs => ∃ x, ZdG 1 Zid (Za1 W) cs x)] (by kernel_rfl) ⟨Zsl W, ZlO W, ZlO W, Zvy W, trivial⟩).mono (by
  rintro cs ⟨_, _, rfl, ⟨x0, rfl⟩, _, _, rfl, ⟨x1, rfl, h1⟩, _, _, rfl, ⟨x2, rfl, h2⟩, _, _, rfl, ⟨x3, q3, c3, rfl, h3⟩, rfl⟩
  exact ⟨⟨x0, x1, x2, x3⟩, q3, c3, rfl, h3, h1, h2⟩)
theorem Zqn {H : Type} {enc : TypeId × Value → H} (W : World) : Zcp enc Tryz.prog W 24 (ZdG 4 Zgg) := Zb8 Tryz.underlying24 (by kernel_rfl) (of_decide_eq_true (by kernel_rfl)) (by decide) (Zsk W)
theorem Zql {H : Type} {enc : TypeId × Value → H} (W : World) : ZdH enc Tryz.prog W 26 (fun cs => ∃ n xs q cp, cs = [.int .i64 n, .slice q xs.length cp] ∧ SlB (Za1 W) q cp 4 Zgg xs) := (Zcn Tryz.underlying26 [(fun cs => ∃ x, Zdo (Za1 W) cs x), (fun cs => ∃ x, ZdG 4 Zgg (Za1 W) cs x)] (by kernel_rfl) ⟨Zsl W, Zqn W, trivial⟩).mono (by
  rintro cs ⟨_, _, rfl, ⟨x0, rfl⟩, _, _, rfl, ⟨x1, q1, c1, rfl, h1⟩, rfl⟩
  exact ⟨x0, x1, q1, c1, rfl, h1⟩)
theorem Zsm {H : Type} {enc : TypeId × Value → H} (W : World) : ZdH enc Tryz.prog W 28 (fun cs => ∃ (x : DHost) (q1 q2 q3 : Option Addr) (c1 c2 c3 : Nat), cs = [str x.domain, .slice q1 x.users.length c1, .slice q2 x.folders.length c2, .int .i64 x.queue.next, .slice q3 x.queue.items.length c3] ∧ x.domain.length ≤ 140737488355328 ∧ SlB (Za1 W) q1 c1 3 ZhF x.users ∧ SlB (Za1 W) q2 c2 5 Zdl x.folders ∧ SlB (Za1 W) q3 c3 4 Zgg x.queue.items) := (Zcn Tryz.underlying28 [(fun cs => ∃ x, Zid (Za1 W) cs x), (fun cs => ∃ x, ZdG 3 ZhF (Za1 W) cs x), (fun cs => ∃ x, ZdG 5 Zdl (Za1 W) cs x), (fun cs => ∃ n xs q cp, cs = [.int .i64 n, .slice q xs.length cp] ∧ SlB (Za1 W) q cp 4 Zgg xs)] (by kernel_rfl) ⟨ZlO W, Zqk W, ZmD W, Zql W, trivial⟩).mono (by
  rintro cs ⟨_, _, rfl, ⟨x0, rfl, h0⟩, _, _, rfl, ⟨x1, q1, c1, rfl, h1⟩, _, _, rfl, ⟨x2, q2, c2, rfl, h2⟩, _, _, rfl, ⟨n3, x3, q3, c3, rfl, h3⟩, rfl⟩
  exact ⟨⟨x0, x1, x2, ⟨n3, x3⟩⟩, q1, q2, q3, c1, c2, c3, rfl, h0, h1, h2, h3⟩)
theorem Zo6 : "*" ++ "errors.errorString" = "*errors.errorString" := by decide
theorem Zum (u : TypeId) (h : Tryz.prog.typeName? 3 u = some "*errors.errorString") : u = 321 :=
  typeName_ptr_named (nm := "errors.errorString") (by rw [Zo6]; kernel_rfl) (by kernel_rfl) (by decide) u (by rw [Zo6]; exact h)

theorem ZfJ (os : Os) (args : Array Value) : laidMetH Tryz.prog Rows.fnExactHostPutRow.laid ((World.doorLaid Tryz.prog 85 os).forCall (fun _ _ => 0) ⟨#[], args, []⟩).memory :=
  laidMetH_of_parts3 (fuel := 8) (laidMet_of_run' 8 (by kernel_rfl) (by kernel_rfl)) (by kernel_rfl) (by kernel_rfl)
set_option maxRecDepth 100000 in
theorem fnExactHostPut_lifted (os : Os) (started : os.Started) (H : Type) (enc : TypeId × Value → H) :
    ReturnsInLeavingWide {} Tryz.checked os 5 .any (fun w args => (Rows.fnExactHostPutSpec.pre enc Tryz.prog Tryz.f5 Rows.fnExactHostPutRow.domain false w args ∧ laidMetH Tryz.prog Rows.fnExactHostPutRow.laid w) ∧ sizedMet enc Tryz.prog Tryz.f5 (OpenSpec.ofChange Rows.fnExactHostPutSpec) false w args) (Rows.fnExactHostPutSpec.post enc Tryz.prog Tryz.f5 false true false false) := by
  refine Zjn (C := Tryz.checked) own started Tryz.func5 (ChangeSpec.witness_shaped (enc := enc) (C := Tryz.checked) (os := os) (X := fun w _ => laidMetH Tryz.prog Rows.fnExactHostPutRow.laid w) false (World.doorLaid Tryz.prog 85 os) #[.agg #[.string ⟨#[]⟩, .slice none 0 0, .slice none 0 0, .int .i64 0, .slice none 0 0], .string ⟨#[]⟩, .string ⟨#[]⟩, .string ⟨#[]⟩, .int .i64 0, .string ⟨#[]⟩] 8 rfl (World.shaped_of_RefB (by kernel_rfl) (by kernel_rfl)) (by kernel_rfl) (by kernel_rfl) (by kernel_rfl) (ZfJ os _)) ?_
  intro W base args ds gs before hval hW hwt hL
  have hW' := hW
  obtain ⟨p, q, hA0, hV, rfl, hfz, hnd⟩ := hW
  have hA : DataW.TrodAll enc Tryz.prog W 0 (fun _ => true) true Tryz.f5.params.toList args.toList ds p := hA0
  replace hval : ∀ (j : Nat) t v, Tryz.f5.params[j]? = some t → args[j]? = some v → Value.okWide Tryz.prog W .any base t v := hval
  replace hwt : (DataW.weightsEach Tryz.prog (Tryz.f5.params.toList ++ Rows.fnExactHostPutSpec.plain.varTypes Tryz.prog) (ds ++ gs)).all (· ≤ reachBytes) = true := hwt
  rw [Tryz.params5] at hA hval hwt
  obtain ⟨v0, vs0, d0, ds0, p0, qq0, hargs, rfl, rfl, h0, r0⟩ := trodAll_cons hA
  obtain ⟨v1, vs1, d1, ds1, p1, qq1, rfl, rfl, rfl, h1, r1⟩ := trodAll_cons r0
  obtain ⟨v2, vs2, d2, ds2, p2, qq2, rfl, rfl, rfl, h2, r2⟩ := trodAll_cons r1
  obtain ⟨v3, vs3, d3, ds3, p3, qq3, rfl, rfl, rfl, h3, r3⟩ := trodAll_cons r2
  obtain ⟨v4, vs4, d4, ds4, p4, qq4, rfl, rfl, rfl, h4, r4⟩ := trodAll_cons r3
  obtain ⟨v5, vs5, d5, ds5, p5, qq5, rfl, rfl, rfl, h5, r5⟩ := trodAll_cons r4
  obtain ⟨rfl, rfl, rfl⟩ := trodAll_nil r5
  obtain rfl : args = #[v0, v1, v2, v3, v4, v5] := by cases args; simp_all
  have e0 := ZfB h0 (Zsm W) (weigh hwt (i := 0) rfl rfl)
  obtain ⟨cs0, rfl, _⟩ := okWide_struct Tryz.underlying28 (hval 0 28 v0 rfl rfl)
  obtain ⟨x0, q01, q02, q03, c01, c02, c03, e0, hd0, hu0, hf0, hi0⟩ := e0
  obtain rfl : cs0 = #[str x0.domain, .slice q01 x0.users.length c01, .slice q02 x0.folders.length c02, .int .i64 x0.queue.next, .slice q03 x0.queue.items.length c03] := Array.ext' e0
  have e1 := ZfB h1 (ZlO W) (weigh hwt (i := 1) rfl rfl)
  obtain ⟨s1, rfl⟩ := okWide_string Tryz.underlying9 (hval 1 9 v1 rfl rfl)
  obtain ⟨x1, e1, g1⟩ := e1
  obtain rfl : s1 = ⟨x1.toArray⟩ := Value.string.inj (List.cons.inj e1).1
  have e2 := ZfB h2 (ZlO W) (weigh hwt (i := 2) rfl rfl)
  obtain ⟨s2, rfl⟩ := okWide_string Tryz.underlying9 (hval 2 9 v2 rfl rfl)
  obtain ⟨x2, e2, g2⟩ := e2
  obtain rfl : s2 = ⟨x2.toArray⟩ := Value.string.inj (List.cons.inj e2).1
  have e3 := ZfB h3 (ZlO W) (weigh hwt (i := 3) rfl rfl)
  obtain ⟨s3, rfl⟩ := okWide_string Tryz.underlying9 (hval 3 9 v3 rfl rfl)
  obtain ⟨x3, e3, g3⟩ := e3
  obtain rfl : s3 = ⟨x3.toArray⟩ := Value.string.inj (List.cons.inj e3).1
  obtain ⟨x4, rfl⟩ := okWide_int Tryz.underlying3 (hval 4 3 v4 rfl rfl)
  have e5 := ZfB h5 (ZlO W) (weigh hwt (i := 5) rfl rfl)
  obtain ⟨s5, rfl⟩ := okWide_string Tryz.underlying9 (hval 5 9 v5 rfl rfl)
  obtain ⟨x5, e5, g5⟩ := e5
  obtain rfl : s5 = ⟨x5.toArray⟩ := Value.string.inj (List.cons.inj e5).1
  rw [MakeChecks.laidMetH_plain _ _ _ (by kernel_rfl)] at hL
  obtain ⟨a, hE⟩ := Zo5 hL (by kernel_rfl) (by kernel_rfl) (by kernel_rfl) (by kernel_rfl) (by kernel_rfl) (by kernel_rfl) (by kernel_rfl) (by kernel_rfl) Tryz.underlying82 Zum Tryz.underlying321 Tryz.underlying345 rfl rfl Tryz.underlying9 (by kernel_rfl) (by kernel_rfl)
  obtain ⟨code, hb, h⟩ := Zk9 q01 q02 q03 c01 c02 c03 x0 hd0 x1 x2 x3 x4 x5 g1 g2 g3 g5 a (Za1 W) hE hu0 hf0 hi0
  obtain ⟨M, last, o, w', t', r1, r2, r3, r4⟩ := Zsb 133 Tryz.func5 hb rfl rfl (by kernel_rfl) (Nat.le_of_ble_eq_true rfl) h
  exact ⟨M, last, o, w', t', r1, r2, r3, Conc.Good.mono r4 fun v ⟨hk, _, _, _, hv⟩ => by
    subst hv
    exact Zov (tb := 4) (by kernel_rfl) (by kernel_rfl) rfl Tryz.underlying4 (Zkj (by kernel_rfl)) hW' (fun ds' gs' hg hl => by
      match ds', gs', hl, hg with
      | [_, _, _, _, _, _], [_, _, _, _], _, _ => rfl) hk⟩
set_option maxRecDepth 100000 in
set_option maxHeartbeats 0 in
theorem fnExactHostPut_closed : joinedFacts Tryz.checked.prog 5 Tryz.f5 Rows.fnExactHostPutSpec Rows.fnExactHostPutRow = true := by
  unfold joinedFacts
  simp only [Bool.and_eq_true]
  repeat' apply And.intro
  all_goals (as_aux_lemma => kernel_rfl)
set_option maxRecDepth 100000 in
theorem fnExactHostPut_named : Tryz.checked.prog.funcNamed Rows.fnExactHostPutRow.func = some 5 := by kernel_rfl
set_option maxRecDepth 100000 in
theorem Zfh : Rows.FnExactHostPutSaid :=
  OpenClaim.holds_of_wide_leaving 5 Tryz.f5 rfl rfl rfl rfl rfl rfl rfl ⟨rfl, rfl, rfl, rfl, rfl⟩ rfl rfl rfl rfl rfl fnExactHostPut_named Tryz.func5 fnExactHostPut_closed
    (of_decide_eq_true (by kernel_rfl)) (by unfold Func.isWrapper; first | (rw [if_pos (by decide +kernel)]; kernel_rfl) | (rw [if_neg (by decide +kernel)]; exact ⟨rfl, rfl⟩))
    (fun os started H enc _ => fnExactHostPut_lifted os started H enc)
set_option maxRecDepth 100000 in
theorem fnExactHostPut_proved : Rows.FnExactHostPutCardSaid :=
  Zpr .later [.sentinel, .sentinel, .sentinel, .sentinel] true (true, "99a9d6413fe6386f5ddb836a06de0529d3806a3a1937109080a8613e0b9c4009") true Zfh (by kernel_rfl) fnExactHostPut_row_tie rfl ⟨rfl, rfl⟩ (by kernel_rfl) rfl
    (fun f fn hf hfn => by
      obtain rfl : f = 5 := Option.some.inj (fnExactHostPut_named.symm.trans hf) |>.symm
      obtain rfl : fn = Tryz.f5 := (Option.some.inj (Tryz.func5.symm.trans hfn)).symm
      exact ⟨by kernel_rfl, fun j t ht => Zp5 (by kernel_rfl) ht⟩)
    (by kernel_rfl)

end Go.Proofs.YthgggppcgbglkaaGreatDoor
