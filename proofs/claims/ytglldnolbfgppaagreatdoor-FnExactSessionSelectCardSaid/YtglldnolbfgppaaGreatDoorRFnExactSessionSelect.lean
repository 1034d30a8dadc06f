/-
  LAWS THAT RETURN TRUE FOR EVERY ARGUMENT, with goroutines started and awaited on the way, and the arguments read behind the call as they read before. Conditions: none beyond the given rows.
-/
import Derived.Test.YtglldnolbfgppaaGreatDoorC
import Derived.Test.YtglldnolbfgppaaGreatDoorCards
import Derived.Test.YtglldnolbfgppaaGreatDoorTie
import Derived.Conc.Holds
import Derived.Conc.LeavingOf
import Derived.KernelRfl
namespace Go.Proofs.YtglldnolbfgppaaGreatDoor
open Go.BL
open Go.ChangeShapes Go.WideShapes Go.ChangeAt Go.RowKit
set_option linter.unusedVariables false
theorem own : ownKnob Tryz.prog.godebug = none := by kernel_rfl
theorem ZiN {H : Type} {enc : TypeId × Value → H} (W : World) : ZbD enc Tryz.prog W 9 Zgf := Zly Tryz.underlying9
theorem Zph {H : Type} {enc : TypeId × Value → H} (W : World) : ZbD enc Tryz.prog W 3 Zcm := Zlz Tryz.underlying3
theorem Zpe {H : Type} {enc : TypeId × Value → H} (W : World) : ZbD enc Tryz.prog W 67 Zgo := (Zbh Tryz.underlying67 [(fun cs => ∃ x, Zgf (Zat W) cs x), (fun cs => ∃ x, Zgf (Zat W) cs x), (fun cs => ∃ x, Zcm (Zat W) cs x)] (by kernel_rfl) ⟨ZiN W, ZiN W, Zph W, trivial⟩).mono (by
  rintro cs ⟨_, _, rfl, ⟨x0, rfl, h0⟩, _, _, rfl, ⟨x1, rfl, h1⟩, _, _, rfl, ⟨x2, rfl⟩, rfl⟩
  exact ⟨⟨x0, x1, x2⟩, rfl, h0, h1⟩)
theorem Znq {H : Type} {enc : TypeId × Value → H} (W : World) : ZbD enc Tryz.prog W 22 (ZcH 3 Zgo) := Zbq Tryz.underlying22 (by kernel_rfl) (of_decide_eq_true (by kernel_rfl)) (by decide) (Zpe W)
theorem Znu {H : Type} {enc : TypeId × Value → H} (W : World) : ZbD enc Tryz.prog W 153 ZdK := (Zbh Tryz.underlying153 [(fun cs => ∃ x, Zgf (Zat W) cs x), (fun cs => ∃ x, Zcm (Zat W) cs x)] (by kernel_rfl) ⟨ZiN W, Zph W, trivial⟩).mono (by
  rintro cs ⟨_, _, rfl, ⟨x0, rfl, h0⟩, _, _, rfl, ⟨x1, rfl⟩, rfl⟩
  exact ⟨⟨x0, x1⟩, rfl, h0⟩)
theorem ZlA {H : Type} {enc : TypeId × Value → H} (W : World) : ZbD enc Tryz.prog W 69 (ZcH 2 ZdK) := Zbq Tryz.underlying69 (by kernel_rfl) (of_decide_eq_true (by kernel_rfl)) (by decide) (Znu W)
theorem Zpf {H : Type} {enc : TypeId × Value → H} (W : World) : ZbD enc Tryz.prog W 210 ZeO := (Zbh Tryz.underlying210 [(fun cs => ∃ x, Zcm (Zat W) cs x), (fun cs => ∃ x, Zcm (Zat W) cs x), (fun cs => ∃ x, Zgf (Zat W) cs x)] (by kernel_rfl) ⟨Zph W, Zph W, ZiN W, trivial⟩).mono (by
  rintro cs ⟨_, _, rfl, ⟨x0, rfl⟩, _, _, rfl, ⟨x1, rfl⟩, _, _, rfl, ⟨x2, rfl, h2⟩, rfl⟩
  exact ⟨⟨x0, x1, x2⟩, rfl, h2⟩)
theorem Zns {H : Type} {enc : TypeId × Value → H} (W : World) : ZbD enc Tryz.prog W 70 (ZcH 3 ZeO) := Zbq Tryz.underlying70 (by kernel_rfl) (of_decide_eq_true (by kernel_rfl)) (by decide) (Zpf W)
theorem ZqI {H : Type} {enc : TypeId × Value → H} (W : World) : Zcd enc Tryz.prog W 72 (fun cs => ∃ n xs q cp, cs = [.int .i64 n, .slice q xs.length cp] ∧ SlB (Zat W) q cp 3 ZeO xs) := (Zbh Tryz.underlying72 [(fun cs => ∃ x, Zcm (Zat W) cs x), (fun cs => ∃ x, ZcH 3 ZeO (Zat W) cs x)] (by kernel_rfl) ⟨Zph W, Zns W, trivial⟩).mono (by
  rintro cs ⟨_, _, rfl, ⟨x0, rfl⟩, _, _, rfl, ⟨x1, q1, c1, rfl, h1⟩, rfl⟩
  exact ⟨x0, x1, q1, c1, rfl, h1⟩)
theorem ZlB {H : Type} {enc : TypeId × Value → H} (W : World) : ZbD enc Tryz.prog W 74 Zcj := (Zbh Tryz.underlying74 [(fun cs => ∃ x, Zgf (Zat W) cs x), (fun cs => ∃ x, Zgf (Zat W) cs x), (fun cs => ∃ x, ZcH 2 ZdK (Zat W) cs x), (fun cs => ∃ n xs q cp, cs = [.int .i64 n, .slice q xs.length cp] ∧ SlB (Zat W) q cp 3 ZeO xs)] (by kernel_rfl) ⟨ZiN W, ZiN W, ZlA W, ZqI W, trivial⟩).mono (by
  rintro cs ⟨_, _, rfl, ⟨x0, rfl, h0⟩, _, _, rfl, ⟨x1, rfl, h1⟩, _, _, rfl, ⟨x2, q2, c2, rfl, h2⟩, _, _, rfl, ⟨n3, x3, q3, c3, rfl, h3⟩, rfl⟩
  exact ⟨⟨x0, x1, x2, n3, x3⟩, q2, c2, q3, c3, rfl, h2, h3, h0, h1⟩)
theorem Zkj {H : Type} {enc : TypeId × Value → H} (W : World) : ZbD enc Tryz.prog W 23 (ZcH 5 Zcj) := Zbq Tryz.underlying23 (by kernel_rfl) (of_decide_eq_true (by kernel_rfl)) (by decide) (ZlB W)
theorem ZrN {H : Type} {enc : TypeId × Value → H} (W : World) : ZbD enc Tryz.prog W 81 (ZcH 1 Zgf) := Zbq Tryz.underlying81 (by kernel_rfl) (of_decide_eq_true (by kernel_rfl)) (by decide) (ZiN W)
theorem Zpg {H : Type} {enc : TypeId × Value → H} (W : World) : ZbD enc Tryz.prog W 108 ZeP := (Zbh Tryz.underlying108 [(fun cs => ∃ x, Zcm (Zat W) cs x), (fun cs => ∃ x, Zgf (Zat W) cs x), (fun cs => ∃ x, Zgf (Zat W) cs x), (fun cs => ∃ x, ZcH 1 Zgf (Zat W) cs x)] (by kernel_rfl) ⟨Zph W, ZiN W, ZiN W, ZrN W, trivial⟩).mono (by
  rintro cs ⟨_, _, rfl, ⟨x0, rfl⟩, _, _, rfl, ⟨x1, rfl, h1⟩, _, _, rfl, ⟨x2, rfl, h2⟩, _, _, rfl, ⟨x3, q3, c3, rfl, h3⟩, rfl⟩
  exact ⟨⟨x0, x1, x2, x3⟩, q3, c3, rfl, h3, h1, h2⟩)
theorem Znt {H : Type} {enc : TypeId × Value → H} (W : World) : ZbD enc Tryz.prog W 24 (ZcH 4 ZeP) := Zbq Tryz.underlying24 (by kernel_rfl) (of_decide_eq_true (by kernel_rfl)) (by decide) (Zpg W)
theorem Znr {H : Type} {enc : TypeId × Value → H} (W : World) : Zcd enc Tryz.prog W 26 (fun cs => ∃ n xs q cp, cs = [.int .i64 n, .slice q xs.length cp] ∧ SlB (Zat W) q cp 4 ZeP xs) := (Zbh Tryz.underlying26 [(fun cs => ∃ x, Zcm (Zat W) cs x), (fun cs => ∃ x, ZcH 4 ZeP (Zat W) cs x)] (by kernel_rfl) ⟨Zph W, Znt W, trivial⟩).mono (by
  rintro cs ⟨_, _, rfl, ⟨x0, rfl⟩, _, _, rfl, ⟨x1, q1, c1, rfl, h1⟩, rfl⟩
  exact ⟨x0, x1, q1, c1, rfl, h1⟩)
theorem Zpi {H : Type} {enc : TypeId × Value → H} (W : World) : Zcd enc Tryz.prog W 28 (fun cs => ∃ (x : DHost) (q1 q2 q3 : Option Addr) (c1 c2 c3 : Nat), cs = [str x.domain, .slice q1 x.users.length c1, .slice q2 x.folders.length c2, .int .i64 x.queue.next, .slice q3 x.queue.items.length c3] ∧ x.domain.length ≤ 140737488355328 ∧ SlB (Zat W) q1 c1 3 Zgo x.users ∧ SlB (Zat W) q2 c2 5 Zcj x.folders ∧ SlB (Zat W) q3 c3 4 ZeP x.queue.items) := (Zbh Tryz.underlying28 [(fun cs => ∃ x, Zgf (Zat W) cs x), (fun cs => ∃ x, ZcH 3 Zgo (Zat W) cs x), (fun cs => ∃ x, ZcH 5 Zcj (Zat W) cs x), (fun cs => ∃ n xs q cp, cs = [.int .i64 n, .slice q xs.length cp] ∧ SlB (Zat W) q cp 4 ZeP xs)] (by kernel_rfl) ⟨ZiN W, Znq W, Zkj W, Znr W, trivial⟩).mono (by
  rintro cs ⟨_, _, rfl, ⟨x0, rfl, h0⟩, _, _, rfl, ⟨x1, q1, c1, rfl, h1⟩, _, _, rfl, ⟨x2, q2, c2, rfl, h2⟩, _, _, rfl, ⟨n3, x3, q3, c3, rfl, h3⟩, rfl⟩
  exact ⟨⟨x0, x1, x2, ⟨n3, x3⟩⟩, q1, q2, q3, c1, c2, c3, rfl, h0, h1, h2, h3⟩)
theorem Zki {H : Type} {enc : TypeId × Value → H} (W : World) : Zcd enc Tryz.prog W 30 (fun cs => ∃ (u y z : Str), cs = [str u, str y, str z] ∧ u.length ≤ 140737488355328 ∧ y.length ≤ 140737488355328 ∧ z.length ≤ 140737488355328) := (Zbh Tryz.underlying30 [(fun cs => ∃ x, Zgf (Zat W) cs x), (fun cs => ∃ x, Zgf (Zat W) cs x), (fun cs => ∃ x, Zgf (Zat W) cs x)] (by kernel_rfl) ⟨ZiN W, ZiN W, ZiN W, trivial⟩).mono (by
  rintro cs ⟨_, _, rfl, ⟨x0, rfl, h0⟩, _, _, rfl, ⟨x1, rfl, h1⟩, _, _, rfl, ⟨x2, rfl, h2⟩, rfl⟩
  exact ⟨x0, x1, x2, rfl, h0, h1, h2⟩)
theorem Zmp : "*" ++ "errors.errorString" = "*errors.errorString" := by decide
theorem ZqY (u : TypeId) (h : Tryz.prog.typeName? 3 u = some "*errors.errorString") : u = 232 :=
  typeName_ptr_named (nm := "errors.errorString") (by rw [Zmp]; kernel_rfl) (by kernel_rfl) (by decide) u (by rw [Zmp]; exact h)

theorem Zcz (os : Os) (args : Array Value) : laidMetH Tryz.prog Rows.fnExactSessionSelectRow.laid ((World.doorLaid Tryz.prog 85 os).forCall (fun _ _ => 0) ⟨#[], args, []⟩).memory :=
  laidMetH_of_parts3 (fuel := 8) (laidMet_of_run' 8 (by kernel_rfl) (by kernel_rfl)) (by kernel_rfl) (by kernel_rfl)
set_option maxRecDepth 100000 in
theorem fnExactSessionSelect_lifted (os : Os) (started : os.Started) (H : Type) (enc : TypeId × Value → H) :
    ReturnsInLeavingWide {} Tryz.checked os 3 .any (fun w args => (Rows.fnExactSessionSelectSpec.pre enc Tryz.prog Tryz.f3 Rows.fnExactSessionSelectRow.domain false w args ∧ laidMetH Tryz.prog Rows.fnExactSessionSelectRow.laid w) ∧ sizedMet enc Tryz.prog Tryz.f3 (OpenSpec.ofChange Rows.fnExactSessionSelectSpec) false w args) (Rows.fnExactSessionSelectSpec.post enc Tryz.prog Tryz.f3 false true false false) := by
  refine ZhL (C := Tryz.checked) own started Tryz.func3 (ChangeSpec.witness_shaped (enc := enc) (C := Tryz.checked) (os := os) (X := fun w _ => laidMetH Tryz.prog Rows.fnExactSessionSelectRow.laid w) false (World.doorLaid Tryz.prog 85 os) #[.agg #[.string ⟨#[]⟩, .slice none 0 0, .slice none 0 0, .int .i64 0, .slice none 0 0], .agg #[.string ⟨#[]⟩, .string ⟨#[]⟩, .string ⟨#[]⟩], .string ⟨#[]⟩, .string ⟨#[]⟩] 8 rfl (World.shaped_of_RefB (by kernel_rfl) (by kernel_rfl)) (by kernel_rfl) (by kernel_rfl) (by kernel_rfl) (Zcz os _)) ?_
  intro W base args ds gs before hval hW hwt hL
  have hW' := hW
  obtain ⟨p, q, hA0, hV, rfl, hfz, hnd⟩ := hW
  have hA : DataW.TrodAll enc Tryz.prog W 0 (fun _ => true) true Tryz.f3.params.toList args.toList ds p := hA0
  replace hval : ∀ (j : Nat) t v, Tryz.f3.params[j]? = some t → args[j]? = some v → Value.okWide Tryz.prog W .any base t v := hval
  replace hwt : (DataW.weightsEach Tryz.prog (Tryz.f3.params.toList ++ Rows.fnExactSessionSelectSpec.plain.varTypes Tryz.prog) (ds ++ gs)).all (· ≤ reachBytes) = true := hwt
  rw [Tryz.params3] at hA hval hwt
  obtain ⟨v0, vs0, d0, ds0, p0, qq0, hargs, rfl, rfl, h0, r0⟩ := trodAll_cons hA
  obtain ⟨v1, vs1, d1, ds1, p1, qq1, rfl, rfl, rfl, h1, r1⟩ := trodAll_cons r0
  obtain ⟨v2, vs2, d2, ds2, p2, qq2, rfl, rfl, rfl, h2, r2⟩ := trodAll_cons r1
  obtain ⟨v3, vs3, d3, ds3, p3, qq3, rfl, rfl, rfl, h3, r3⟩ := trodAll_cons r2
  obtain ⟨rfl, rfl, rfl⟩ := trodAll_nil r3
  obtain rfl : args = #[v0, v1, v2, v3] := by cases args; simp_all
  have e0 := Zff h0 (Zpi W) (weigh hwt (i := 0) rfl rfl)
  obtain ⟨cs0, rfl, _⟩ := okWide_struct Tryz.underlying28 (hval 0 28 v0 rfl rfl)
  obtain ⟨x0, q01, q02, q03, c01, c02, c03, e0, hd0, hu0, hf0, hi0⟩ := e0
  obtain rfl : cs0 = #[str x0.domain, .slice q01 x0.users.length c01, .slice q02 x0.folders.length c02, .int .i64 x0.queue.next, .slice q03 x0.queue.items.length c03] := Array.ext' e0
  have e1 := Zff h1 (Zki W) (weigh hwt (i := 1) rfl rfl)
  obtain ⟨cs1, rfl, _⟩ := okWide_struct Tryz.underlying30 (hval 1 30 v1 rfl rfl)
  obtain ⟨u1, y1, z1, e1, hs1a, hs1b, hs1c⟩ := e1
  obtain rfl : cs1 = #[str u1, str y1, str z1] := Array.ext' e1
  have e2 := Zff h2 (ZiN W) (weigh hwt (i := 2) rfl rfl)
  obtain ⟨s2, rfl⟩ := okWide_string Tryz.underlying9 (hval 2 9 v2 rfl rfl)
  obtain ⟨x2, e2, g2⟩ := e2
  obtain rfl : s2 = ⟨x2.toArray⟩ := Value.string.inj (List.cons.inj e2).1
  have e3 := Zff h3 (ZiN W) (weigh hwt (i := 3) rfl rfl)
  obtain ⟨s3, rfl⟩ := okWide_string Tryz.underlying9 (hval 3 9 v3 rfl rfl)
  obtain ⟨x3, e3, g3⟩ := e3
  obtain rfl : s3 = ⟨x3.toArray⟩ := Value.string.inj (List.cons.inj e3).1
  rw [MakeChecks.laidMetH_plain _ _ _ (by kernel_rfl)] at hL
  obtain ⟨a, hE⟩ := Zmo hL (by kernel_rfl) (by kernel_rfl) (by kernel_rfl) (by kernel_rfl) (by kernel_rfl) (by kernel_rfl) (by kernel_rfl) (by kernel_rfl) Tryz.underlying58 ZqY Tryz.underlying232 Tryz.underlying256 rfl rfl Tryz.underlying9 (by kernel_rfl) (by kernel_rfl)
  obtain ⟨code, hb, h⟩ := Zi5 q01 q02 q03 c01 c02 c03 x0 hd0 u1 y1 z1 x2 x3 hs1a hs1b hs1c g2 g3 a (Zat W) hE hu0 hf0 hi0
  obtain ⟨M, last, o, w', t', r1, r2, r3, r4⟩ := Zo7 66 Tryz.func3 hb rfl rfl (by kernel_rfl) (Nat.le_of_ble_eq_true rfl) h
  exact ⟨M, last, o, w', t', r1, r2, r3, Conc.Good.mono r4 fun v ⟨hk, _, _, _, hv⟩ => by
    subst hv
    exact ZlR (tb := 4) (by kernel_rfl) (by kernel_rfl) rfl Tryz.underlying4 (Zit (by kernel_rfl)) hW' (fun ds' gs' hg hl => by
      match ds', gs', hl, hg with
      | [_, _, _, _], [_, _, _, _], _, _ => rfl) hk⟩
set_option maxRecDepth 100000 in
set_option maxHeartbeats 0 in
theorem fnExactSessionSelect_closed : joinedFacts Tryz.checked.prog 3 Tryz.f3 Rows.fnExactSessionSelectSpec Rows.fnExactSessionSelectRow = true := by
  unfold joinedFacts
  simp only [Bool.and_eq_true]
  repeat' apply And.intro
  all_goals (as_aux_lemma => kernel_rfl)
set_option maxRecDepth 100000 in
theorem fnExactSessionSelect_named : Tryz.checked.prog.funcNamed Rows.fnExactSessionSelectRow.func = some 3 := by kernel_rfl
set_option maxRecDepth 100000 in
theorem Zch : Rows.FnExactSessionSelectSaid :=
  OpenClaim.holds_of_wide_leaving 3 Tryz.f3 rfl rfl rfl rfl rfl rfl rfl ⟨rfl, rfl, rfl, rfl, rfl⟩ rfl rfl rfl rfl rfl fnExactSessionSelect_named Tryz.func3 fnExactSessionSelect_closed
    (of_decide_eq_true (by kernel_rfl)) (by unfold Func.isWrapper; first | (rw [if_pos (by decide +kernel)]; kernel_rfl) | (rw [if_neg (by decide +kernel)]; exact ⟨rfl, rfl⟩))
    (fun os started H enc _ => fnExactSessionSelect_lifted os started H enc)
set_option maxRecDepth 100000 in
theorem fnExactSessionSelect_proved : Rows.FnExactSessionSelectCardSaid :=
  ZmF .later [.sentinel, .sentinel, .sentinel, .sentinel] true (true, "01d46dde957de980145f5426e4703d1e2c1a57de989813b1bb0ec392d3813a55") true Zch (by kernel_rfl) fnExactSessionSelect_row_tie rfl ⟨rfl, rfl⟩ (by kernel_rfl) rfl
    (fun f fn hf hfn => by
      obtain rfl : f = 3 := Option.some.inj (fnExactSessionSelect_named.symm.trans hf) |>.symm
      obtain rfl : fn = Tryz.f3 := (Option.some.inj (Tryz.func3.symm.trans hfn)).symm
      exact ⟨by kernel_rfl, fun j t ht => Znd (by kernel_rfl) ht⟩)
    (by kernel_rfl)

end Go.Proofs.YtglldnolbfgppaaGreatDoor
