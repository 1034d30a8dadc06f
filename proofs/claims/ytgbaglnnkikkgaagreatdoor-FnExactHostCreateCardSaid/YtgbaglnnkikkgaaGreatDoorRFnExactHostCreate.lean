/-
  LAWS THAT RETURN TRUE FOR EVERY ARGUMENT, with goroutines started and awaited on the way, and the arguments read behind the call as they read before. Conditions: none beyond the given rows.
-/
import Derived.Test.YtgbaglnnkikkgaaGreatDoorC
import Derived.Test.YtgbaglnnkikkgaaGreatDoorCards
import Derived.Test.YtgbaglnnkikkgaaGreatDoorTie
import Derived.Conc.Holds
import Derived.Conc.LeavingOf
import Derived.KernelRfl
namespace Go.Proofs.YtgbaglnnkikkgaaGreatDoor
open Go.BL
open Go.ChangeShapes Go.WideShapes Go.ChangeAt Go.RowKit
set_option linter.unusedVariables false
theorem own : ownKnob Tryz.prog.godebug = none := by kernel_rfl
theorem Zmn {H : Type} {enc : TypeId × Value → H} (W : World) : Zch enc Tryz.prog W 9 Zjw := Zm6 Tryz.underlying9
theorem Zq9 {H : Type} {enc : TypeId × Value → H} (W : World) : Zch enc Tryz.prog W 3 ZdQ := Zm7 Tryz.underlying3
theorem Zq6 {H : Type} {enc : TypeId × Value → H} (W : World) : Zch enc Tryz.prog W 86 Zjv := (Zcf Tryz.underlying86 [(fun cs => ∃ x, Zjw (Za1 W) cs x), (fun cs => ∃ x, Zjw (Za1 W) cs x), (fun cs => ∃ x, ZdQ (Za1 W) cs x)] (by kernel_rfl) ⟨Zmn W, Zmn W, Zq9 W, trivial⟩).mono (by
  rintro cs ⟨_, _, rfl, ⟨x0, rfl, h0⟩, _, _, rfl, ⟨x1, rfl, h1⟩, _, _, rfl, ⟨x2, rfl⟩, rfl⟩
  exact ⟨⟨x0, x1, x2⟩, rfl, h0, h1⟩)
theorem Zo2 {H : Type} {enc : TypeId × Value → H} (W : World) : Zch enc Tryz.prog W 22 (Zdn 3 Zjv) := Zb0 Tryz.underlying22 (by kernel_rfl) (of_decide_eq_true (by kernel_rfl)) (by decide) (Zq6 W)
theorem Zo6 {H : Type} {enc : TypeId × Value → H} (W : World) : Zch enc Tryz.prog W 169 ZgY := (Zcf Tryz.underlying169 [(fun cs => ∃ x, Zjw (Za1 W) cs x), (fun cs => ∃ x, ZdQ (Za1 W) cs x)] (by kernel_rfl) ⟨Zmn W, Zq9 W, trivial⟩).mono (by
  rintro cs ⟨_, _, rfl, ⟨x0, rfl, h0⟩, _, _, rfl, ⟨x1, rfl⟩, rfl⟩
  exact ⟨⟨x0, x1⟩, rfl, h0⟩)
theorem Zm8 {H : Type} {enc : TypeId × Value → H} (W : World) : Zch enc Tryz.prog W 88 (Zdn 2 ZgY) := Zb0 Tryz.underlying88 (by kernel_rfl) (of_decide_eq_true (by kernel_rfl)) (by decide) (Zo6 W)
theorem Zq7 {H : Type} {enc : TypeId × Value → H} (W : World) : Zch enc Tryz.prog W 205 Zg5 := (Zcf Tryz.underlying205 [(fun cs => ∃ x, ZdQ (Za1 W) cs x), (fun cs => ∃ x, ZdQ (Za1 W) cs x), (fun cs => ∃ x, Zjw (Za1 W) cs x)] (by kernel_rfl) ⟨Zq9 W, Zq9 W, Zmn W, trivial⟩).mono (by
  rintro cs ⟨_, _, rfl, ⟨x0, rfl⟩, _, _, rfl, ⟨x1, rfl⟩, _, _, rfl, ⟨x2, rfl, h2⟩, rfl⟩
  exact ⟨⟨x0, x1, x2⟩, rfl, h2⟩)
theorem Zo4 {H : Type} {enc : TypeId × Value → H} (W : World) : Zch enc Tryz.prog W 89 (Zdn 3 Zg5) := Zb0 Tryz.underlying89 (by kernel_rfl) (of_decide_eq_true (by kernel_rfl)) (by decide) (Zq7 W)
theorem ZsG {H : Type} {enc : TypeId × Value → H} (W : World) : Zdo enc Tryz.prog W 91 (fun cs => ∃ n xs q cp, cs = [.int .i64 n, .slice q xs.length cp] ∧ SlB (Za1 W) q cp 3 Zg5 xs) := (Zcf Tryz.underlying91 [(fun cs => ∃ x, ZdQ (Za1 W) cs x), (fun cs => ∃ x, Zdn 3 Zg5 (Za1 W) cs x)] (by kernel_rfl) ⟨Zq9 W, Zo4 W, trivial⟩).mono (by
  rintro cs ⟨_, _, rfl, ⟨x0, rfl⟩, _, _, rfl, ⟨x1, q1, c1, rfl, h1⟩, rfl⟩
  exact ⟨x0, x1, q1, c1, rfl, h1⟩)
theorem Zm9 {H : Type} {enc : TypeId × Value → H} (W : World) : Zch enc Tryz.prog W 93 Zef := (Zcf Tryz.underlying93 [(fun cs => ∃ x, Zjw (Za1 W) cs x), (fun cs => ∃ x, Zjw (Za1 W) cs x), (fun cs => ∃ x, Zdn 2 ZgY (Za1 W) cs x), (fun cs => ∃ n xs q cp, cs = [.int .i64 n, .slice q xs.length cp] ∧ SlB (Za1 W) q cp 3 Zg5 xs)] (by kernel_rfl) ⟨Zmn W, Zmn W, Zm8 W, ZsG W, trivial⟩).mono (by
  rintro cs ⟨_, _, rfl, ⟨x0, rfl, h0⟩, _, _, rfl, ⟨x1, rfl, h1⟩, _, _, rfl, ⟨x2, q2, c2, rfl, h2⟩, _, _, rfl, ⟨n3, x3, q3, c3, rfl, h3⟩, rfl⟩
  exact ⟨⟨x0, x1, x2, n3, x3⟩, q2, c2, q3, c3, rfl, h2, h3, h0, h1⟩)
theorem ZlH {H : Type} {enc : TypeId × Value → H} (W : World) : Zch enc Tryz.prog W 23 (Zdn 5 Zef) := Zb0 Tryz.underlying23 (by kernel_rfl) (of_decide_eq_true (by kernel_rfl)) (by decide) (Zm9 W)
theorem ZtZ {H : Type} {enc : TypeId × Value → H} (W : World) : Zch enc Tryz.prog W 99 (Zdn 1 Zjw) := Zb0 Tryz.underlying99 (by kernel_rfl) (of_decide_eq_true (by kernel_rfl)) (by decide) (Zmn W)
theorem Zq8 {H : Type} {enc : TypeId × Value → H} (W : World) : Zch enc Tryz.prog W 138 ZgX := (Zcf Tryz.underlying138 [(fun cs => ∃ x, ZdQ (Za1 W) cs x), (fun cs => ∃ x, Zjw (Za1 W) cs x), (fun cs => ∃ x, Zjw (Za1 W) cs x), (fun cs => ∃ x, Zdn 1 Zjw (Za1 W) cs x)] (by kernel_rfl) ⟨Zq9 W, Zmn W, Zmn W, ZtZ W, trivial⟩).mono (by
  rintro cs ⟨_, _, rfl, ⟨x0, rfl⟩, _, _, rfl, ⟨x1, rfl, h1⟩, _, _, rfl, ⟨x2, rfl, h2⟩, _, _, rfl, ⟨x3, q3, c3, rfl, h3⟩, rfl⟩
  exact ⟨⟨x0, x1, x2, x3⟩, q3, c3, rfl, h3, h1, h2⟩)
theorem Zo5 {H : Type} {enc : TypeId × Value → H} (W : World) : Zch enc Tryz.prog W 24 (Zdn 4 ZgX) := Zb0 Tryz.underlying24 (by kernel_rfl) (of_decide_eq_true (by kernel_rfl)) (by decide) (Zq8 W)
theorem Zo3 {H : Type} {enc : TypeId × Value → H} (W : World) : Zdo enc Tryz.prog W 26 (fun cs => ∃ n xs q cp, cs = [.int .i64 n, .slice q xs.length cp] ∧ SlB (Za1 W) q cp 4 ZgX xs) := (Zcf Tryz.underlying26 [(fun cs => ∃ x, ZdQ (Za1 W) cs x), (fun cs => ∃ x, Zdn 4 ZgX (Za1 W) cs x)] (by kernel_rfl) ⟨Zq9 W, Zo5 W, trivial⟩).mono (by
  rintro cs ⟨_, _, rfl, ⟨x0, rfl⟩, _, _, rfl, ⟨x1, q1, c1, rfl, h1⟩, rfl⟩
  exact ⟨x0, x1, q1, c1, rfl, h1⟩)
theorem Zra {H : Type} {enc : TypeId × Value → H} (W : World) : Zdo enc Tryz.prog W 28 (fun cs => ∃ (x : DHost) (q1 q2 q3 : Option Addr) (c1 c2 c3 : Nat), cs = [str x.domain, .slice q1 x.users.length c1, .slice q2 x.folders.length c2, .int .i64 x.queue.next, .slice q3 x.queue.items.length c3] ∧ x.domain.length ≤ 140737488355328 ∧ SlB (Za1 W) q1 c1 3 Zjv x.users ∧ SlB (Za1 W) q2 c2 5 Zef x.folders ∧ SlB (Za1 W) q3 c3 4 ZgX x.queue.items) := (Zcf Tryz.underlying28 [(fun cs => ∃ x, Zjw (Za1 W) cs x), (fun cs => ∃ x, Zdn 3 Zjv (Za1 W) cs x), (fun cs => ∃ x, Zdn 5 Zef (Za1 W) cs x), (fun cs => ∃ n xs q cp, cs = [.int .i64 n, .slice q xs.length cp] ∧ SlB (Za1 W) q cp 4 ZgX xs)] (by kernel_rfl) ⟨Zmn W, Zo2 W, ZlH W, Zo3 W, trivial⟩).mono (by
  rintro cs ⟨_, _, rfl, ⟨x0, rfl, h0⟩, _, _, rfl, ⟨x1, q1, c1, rfl, h1⟩, _, _, rfl, ⟨x2, q2, c2, rfl, h2⟩, _, _, rfl, ⟨n3, x3, q3, c3, rfl, h3⟩, rfl⟩
  exact ⟨⟨x0, x1, x2, ⟨n3, x3⟩⟩, q1, q2, q3, c1, c2, c3, rfl, h0, h1, h2, h3⟩)
theorem ZnX : "*" ++ "errors.errorString" = "*errors.errorString" := by decide
theorem ZsY (u : TypeId) (h : Tryz.prog.typeName? 3 u = some "*errors.errorString") : u = 288 :=
  typeName_ptr_named (nm := "errors.errorString") (by rw [ZnX]; kernel_rfl) (by kernel_rfl) (by decide) u (by rw [ZnX]; exact h)

theorem Zea (os : Os) (args : Array Value) : laidMetH Tryz.prog Rows.fnExactHostCreateRow.laid ((World.doorLaid Tryz.prog 85 os).forCall (fun _ _ => 0) ⟨#[], args, []⟩).memory :=
  laidMetH_of_parts3 (fuel := 8) (laidMet_of_run' 8 (by kernel_rfl) (by kernel_rfl)) (by kernel_rfl) (by kernel_rfl)
set_option maxRecDepth 100000 in
set_option maxHeartbeats 1600000 in
theorem fnExactHostCreate_lifted (os : Os) (started : os.Started) (H : Type) (enc : TypeId × Value → H) :
    ReturnsInLeavingWide {} Tryz.checked os 4 .any (fun w args => (Rows.fnExactHostCreateSpec.pre enc Tryz.prog Tryz.f4 Rows.fnExactHostCreateRow.domain false w args ∧ laidMetH Tryz.prog Rows.fnExactHostCreateRow.laid w) ∧ sizedMet enc Tryz.prog Tryz.f4 (OpenSpec.ofChange Rows.fnExactHostCreateSpec) false w args) (Rows.fnExactHostCreateSpec.post enc Tryz.prog Tryz.f4 false true false false) := by
  refine ZiF (C := Tryz.checked) own started Tryz.func4 (ChangeSpec.witness_shaped (enc := enc) (C := Tryz.checked) (os := os) (X := fun w _ => laidMetH Tryz.prog Rows.fnExactHostCreateRow.laid w) false (World.doorLaid Tryz.prog 85 os) #[.agg #[.string ⟨#[]⟩, .slice none 0 0, .slice none 0 0, .int .i64 0, .slice none 0 0], .string ⟨#[]⟩, .string ⟨#[]⟩] 8 rfl (World.shaped_of_RefB (by kernel_rfl) (by kernel_rfl)) (by kernel_rfl) (by kernel_rfl) (by kernel_rfl) (Zea os _)) ?_
  intro W base args ds gs before hval hW hwt hL
  have hW' := hW
  obtain ⟨p, q, hA0, hV, rfl, hfz, hnd⟩ := hW
  have hA : DataW.TrodAll enc Tryz.prog W 0 (fun _ => true) true Tryz.f4.params.toList args.toList ds p := hA0
  replace hval : ∀ (j : Nat) t v, Tryz.f4.params[j]? = some t → args[j]? = some v → Value.okWide Tryz.prog W .any base t v := hval
  replace hwt : (DataW.weightsEach Tryz.prog (Tryz.f4.params.toList ++ Rows.fnExactHostCreateSpec.plain.varTypes Tryz.prog) (ds ++ gs)).all (· ≤ reachBytes) = true := hwt
  rw [Tryz.params4] at hA hval hwt
  obtain ⟨v0, vs0, d0, ds0, p0, qq0, hargs, rfl, rfl, h0, r0⟩ := trodAll_cons hA
  obtain ⟨v1, vs1, d1, ds1, p1, qq1, rfl, rfl, rfl, h1, r1⟩ := trodAll_cons r0
  obtain ⟨v2, vs2, d2, ds2, p2, qq2, rfl, rfl, rfl, h2, r2⟩ := trodAll_cons r1
  obtain ⟨rfl, rfl, rfl⟩ := trodAll_nil r2
  obtain rfl : args = #[v0, v1, v2] := by cases args; simp_all
  have e0 := ZhO h0 (Zra W) (weigh hwt (i := 0) rfl rfl)
  obtain ⟨cs0, rfl, _⟩ := okWide_struct Tryz.underlying28 (hval 0 28 v0 rfl rfl)
  obtain ⟨x0, q01, q02, q03, c01, c02, c03, e0, hd0, hu0, hf0, hi0⟩ := e0
  obtain rfl : cs0 = #[str x0.domain, .slice q01 x0.users.length c01, .slice q02 x0.folders.length c02, .int .i64 x0.queue.next, .slice q03 x0.queue.items.length c03] := Array.ext' e0
  have e1 := ZhO h1 (Zmn W) (weigh hwt (i := 1) rfl rfl)
  obtain ⟨s1, rfl⟩ := okWide_string Tryz.underlying9 (hval 1 9 v1 rfl rfl)
  obtain ⟨x1, e1, g1⟩ := e1
  obtain rfl : s1 = ⟨x1.toArray⟩ := Value.string.inj (List.cons.inj e1).1
  have e2 := ZhO h2 (Zmn W) (weigh hwt (i := 2) rfl rfl)
  obtain ⟨s2, rfl⟩ := okWide_string Tryz.underlying9 (hval 2 9 v2 rfl rfl)
  obtain ⟨x2, e2, g2⟩ := e2
  obtain rfl : s2 = ⟨x2.toArray⟩ := Value.string.inj (List.cons.inj e2).1
  rw [MakeChecks.laidMetH_plain _ _ _ (by kernel_rfl)] at hL
  obtain ⟨a, hE⟩ := ZnW hL (by kernel_rfl) (by kernel_rfl) (by kernel_rfl) (by kernel_rfl) (by kernel_rfl) (by kernel_rfl) (by kernel_rfl) (by kernel_rfl) Tryz.underlying68 ZsY Tryz.underlying288 Tryz.underlying312 rfl rfl Tryz.underlying9 (by kernel_rfl) (by kernel_rfl)
  obtain ⟨code, hb, h⟩ := Zkq q01 q02 q03 c01 c02 c03 x0 hd0 x1 x2 g1 g2 a (Za1 W) hE hu0 hf0 hi0
  obtain ⟨M, last, o, w', t', r1, r2, r3, r4⟩ := Zq0 112 Tryz.func4 hb rfl rfl (by kernel_rfl) (Nat.le_of_ble_eq_true rfl) h
  exact ⟨M, last, o, w', t', r1, r2, r3, Conc.Good.mono r4 fun v ⟨hk, _, _, _, hv⟩ => by
    subst hv
    exact Znp (tb := 4) (by kernel_rfl) (by kernel_rfl) rfl Tryz.underlying4 (ZjE (by kernel_rfl)) hW' (fun ds' gs' hg hl => by
      match ds', gs', hl, hg with
      | [_, _, _], [_, _, _, _], _, _ => rfl) hk⟩
set_option maxRecDepth 100000 in
set_option maxHeartbeats 0 in
theorem fnExactHostCreate_closed : joinedFacts Tryz.checked.prog 4 Tryz.f4 Rows.fnExactHostCreateSpec Rows.fnExactHostCreateRow = true := by
  unfold joinedFacts
  simp only [Bool.and_eq_true]
  repeat' apply And.intro
  all_goals (as_aux_lemma => kernel_rfl)
set_option maxRecDepth 100000 in
theorem fnExactHostCreate_named : Tryz.checked.prog.funcNamed Rows.fnExactHostCreateRow.func = some 4 := by kernel_rfl
set_option maxRecDepth 100000 in
theorem ZdO : Rows.FnExactHostCreateSaid :=
  OpenClaim.holds_of_wide_leaving 4 Tryz.f4 rfl rfl rfl rfl rfl rfl rfl ⟨rfl, rfl, rfl, rfl, rfl⟩ rfl rfl rfl rfl rfl fnExactHostCreate_named Tryz.func4 fnExactHostCreate_closed
    (of_decide_eq_true (by kernel_rfl)) (by unfold Func.isWrapper; first | (rw [if_pos (by decide +kernel)]; kernel_rfl) | (rw [if_neg (by decide +kernel)]; exact ⟨rfl, rfl⟩))
    (fun os started H enc _ => fnExactHostCreate_lifted os started H enc)
set_option maxRecDepth 100000 in
theorem fnExactHostCreate_proved : Rows.FnExactHostCreateCardSaid :=
  Zoe .later [.sentinel, .sentinel, .sentinel, .sentinel] true (true, "af8aee3d0bfad04d1e4c5ceabd9a248ec23b3164c197eb02df8e145c331f2c75") true ZdO (by kernel_rfl) fnExactHostCreate_row_tie rfl ⟨rfl, rfl⟩ (by kernel_rfl) rfl
    (fun f fn hf hfn => by
      obtain rfl : f = 4 := Option.some.inj (fnExactHostCreate_named.symm.trans hf) |>.symm
      obtain rfl : fn = Tryz.f4 := (Option.some.inj (Tryz.func4.symm.trans hfn)).symm
      exact ⟨by kernel_rfl, fun j t ht => ZoP (by kernel_rfl) ht⟩)
    (by kernel_rfl)

end Go.Proofs.YtgbaglnnkikkgaaGreatDoor
