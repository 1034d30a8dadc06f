/-
  LAWS THAT RETURN TRUE FOR EVERY ARGUMENT, with goroutines started and awaited on the way, and the arguments read behind the call as they read before. Conditions: none beyond the given rows.
-/
import Derived.Test.YthgggppcgbglkaaGreatDoorC
import Derived.Test.YthgggppcgbglkaaGreatDoorCards
import Derived.Test.YthgggppcgbglkaaGreatDoorTie
import Derived.Conc.Holds
import Derived.Conc.LeavingOf
import Derived.KernelRfl
namespace Go.Proofs.YthgggppcgbglkaaGreatDoor
open Go.BL
open Go.ChangeShapes Go.WideShapes Go.ChangeAt Go.RowKit
set_option linter.unusedVariables false
theorem own : ownKnob Tryz.prog.godebug = none := by kernel_rfl
theorem Zmz {H : Type} {enc : TypeId × Value → H} (W : World) : Zcx enc Tryz.prog W 9 Zgj := Znl Tryz.underlying9
theorem Zrc {H : Type} {enc : TypeId × Value → H} (W : World) : Zcx enc Tryz.prog W 3 ZdE := Znm Tryz.underlying3
theorem Zq9 {H : Type} {enc : TypeId × Value → H} (W : World) : Zcx enc Tryz.prog W 112 Zhw := (Zb3 Tryz.underlying112 [(fun cs => ∃ x, Zgj (Za8 W) cs x), (fun cs => ∃ x, Zgj (Za8 W) cs x), (fun cs => ∃ x, ZdE (Za8 W) cs x)] (by kernel_rfl) ⟨Zmz W, Zmz W, Zrc W, trivial⟩).mono (by
  rintro cs ⟨_, _, rfl, ⟨x0, rfl, h0⟩, _, _, rfl, ⟨x1, rfl, h1⟩, _, _, rfl, ⟨x2, rfl⟩, rfl⟩
  exact ⟨⟨x0, x1, x2⟩, rfl, h0, h1⟩)
theorem Zpe {H : Type} {enc : TypeId × Value → H} (W : World) : Zcx enc Tryz.prog W 22 (Zdc 3 Zhw) := Zcf Tryz.underlying22 (by kernel_rfl) (of_decide_eq_true (by kernel_rfl)) (by decide) (Zq9 W)
theorem Zpi {H : Type} {enc : TypeId × Value → H} (W : World) : Zcx enc Tryz.prog W 229 ZeU := (Zb3 Tryz.underlying229 [(fun cs => ∃ x, Zgj (Za8 W) cs x), (fun cs => ∃ x, ZdE (Za8 W) cs x)] (by kernel_rfl) ⟨Zmz W, Zrc W, trivial⟩).mono (by
  rintro cs ⟨_, _, rfl, ⟨x0, rfl, h0⟩, _, _, rfl, ⟨x1, rfl⟩, rfl⟩
  exact ⟨⟨x0, x1⟩, rfl, h0⟩)
theorem Zno {H : Type} {enc : TypeId × Value → H} (W : World) : Zcx enc Tryz.prog W 114 (Zdc 2 ZeU) := Zcf Tryz.underlying114 (by kernel_rfl) (of_decide_eq_true (by kernel_rfl)) (by decide) (Zpi W)
theorem Zra {H : Type} {enc : TypeId × Value → H} (W : World) : Zcx enc Tryz.prog W 264 Zf5 := (Zb3 Tryz.underlying264 [(fun cs => ∃ x, ZdE (Za8 W) cs x), (fun cs => ∃ x, ZdE (Za8 W) cs x), (fun cs => ∃ x, Zgj (Za8 W) cs x)] (by kernel_rfl) ⟨Zrc W, Zrc W, Zmz W, trivial⟩).mono (by
  rintro cs ⟨_, _, rfl, ⟨x0, rfl⟩, _, _, rfl, ⟨x1, rfl⟩, _, _, rfl, ⟨x2, rfl, h2⟩, rfl⟩
  exact ⟨⟨x0, x1, x2⟩, rfl, h2⟩)
theorem Zpg {H : Type} {enc : TypeId × Value → H} (W : World) : Zcx enc Tryz.prog W 115 (Zdc 3 Zf5) := Zcf Tryz.underlying115 (by kernel_rfl) (of_decide_eq_true (by kernel_rfl)) (by decide) (Zra W)
theorem ZsN {H : Type} {enc : TypeId × Value → H} (W : World) : Zdd enc Tryz.prog W 117 (fun cs => ∃ n xs q cp, cs = [.int .i64 n, .slice q xs.length cp] ∧ SlB (Za8 W) q cp 3 Zf5 xs) := (Zb3 Tryz.underlying117 [(fun cs => ∃ x, ZdE (Za8 W) cs x), (fun cs => ∃ x, Zdc 3 Zf5 (Za8 W) cs x)] (by kernel_rfl) ⟨Zrc W, Zpg W, trivial⟩).mono (by
  rintro cs ⟨_, _, rfl, ⟨x0, rfl⟩, _, _, rfl, ⟨x1, q1, c1, rfl, h1⟩, rfl⟩
  exact ⟨x0, x1, q1, c1, rfl, h1⟩)
theorem Znp {H : Type} {enc : TypeId × Value → H} (W : World) : Zcx enc Tryz.prog W 119 Zdk := (Zb3 Tryz.underlying119 [(fun cs => ∃ x, Zgj (Za8 W) cs x), (fun cs => ∃ x, Zgj (Za8 W) cs x), (fun cs => ∃ x, Zdc 2 ZeU (Za8 W) cs x), (fun cs => ∃ n xs q cp, cs = [.int .i64 n, .slice q xs.length cp] ∧ SlB (Za8 W) q cp 3 Zf5 xs)] (by kernel_rfl) ⟨Zmz W, Zmz W, Zno W, ZsN W, trivial⟩).mono (by
  rintro cs ⟨_, _, rfl, ⟨x0, rfl, h0⟩, _, _, rfl, ⟨x1, rfl, h1⟩, _, _, rfl, ⟨x2, q2, c2, rfl, h2⟩, _, _, rfl, ⟨n3, x3, q3, c3, rfl, h3⟩, rfl⟩
  exact ⟨⟨x0, x1, x2, n3, x3⟩, q2, c2, q3, c3, rfl, h2, h3, h0, h1⟩)
theorem ZlW {H : Type} {enc : TypeId × Value → H} (W : World) : Zcx enc Tryz.prog W 23 (Zdc 5 Zdk) := Zcf Tryz.underlying23 (by kernel_rfl) (of_decide_eq_true (by kernel_rfl)) (by decide) (Znp W)
theorem ZsM {H : Type} {enc : TypeId × Value → H} (W : World) : Zcx enc Tryz.prog W 43 (Zdc 1 Zgj) := Zcf Tryz.underlying43 (by kernel_rfl) (of_decide_eq_true (by kernel_rfl)) (by decide) (Zmz W)
theorem Zrb {H : Type} {enc : TypeId × Value → H} (W : World) : Zcx enc Tryz.prog W 183 Zf6 := (Zb3 Tryz.underlying183 [(fun cs => ∃ x, ZdE (Za8 W) cs x), (fun cs => ∃ x, Zgj (Za8 W) cs x), (fun cs => ∃ x, Zgj (Za8 W) cs x), (fun cs => ∃ x, Zdc 1 Zgj (Za8 W) cs x)] (by kernel_rfl) ⟨Zrc W, Zmz W, Zmz W, ZsM W, trivial⟩).mono (by
  rintro cs ⟨_, _, rfl, ⟨x0, rfl⟩, _, _, rfl, ⟨x1, rfl, h1⟩, _, _, rfl, ⟨x2, rfl, h2⟩, _, _, rfl, ⟨x3, q3, c3, rfl, h3⟩, rfl⟩
  exact ⟨⟨x0, x1, x2, x3⟩, q3, c3, rfl, h3, h1, h2⟩)
theorem Zph {H : Type} {enc : TypeId × Value → H} (W : World) : Zcx enc Tryz.prog W 24 (Zdc 4 Zf6) := Zcf Tryz.underlying24 (by kernel_rfl) (of_decide_eq_true (by kernel_rfl)) (by decide) (Zrb W)
theorem Zpf {H : Type} {enc : TypeId × Value → H} (W : World) : Zdd enc Tryz.prog W 26 (fun cs => ∃ n xs q cp, cs = [.int .i64 n, .slice q xs.length cp] ∧ SlB (Za8 W) q cp 4 Zf6 xs) := (Zb3 Tryz.underlying26 [(fun cs => ∃ x, ZdE (Za8 W) cs x), (fun cs => ∃ x, Zdc 4 Zf6 (Za8 W) cs x)] (by kernel_rfl) ⟨Zrc W, Zph W, trivial⟩).mono (by
  rintro cs ⟨_, _, rfl, ⟨x0, rfl⟩, _, _, rfl, ⟨x1, q1, c1, rfl, h1⟩, rfl⟩
  exact ⟨x0, x1, q1, c1, rfl, h1⟩)
theorem Zrd {H : Type} {enc : TypeId × Value → H} (W : World) : Zdd enc Tryz.prog W 28 (fun cs => ∃ (x : DHost) (q1 q2 q3 : Option Addr) (c1 c2 c3 : Nat), cs = [str x.domain, .slice q1 x.users.length c1, .slice q2 x.folders.length c2, .int .i64 x.queue.next, .slice q3 x.queue.items.length c3] ∧ x.domain.length ≤ 140737488355328 ∧ SlB (Za8 W) q1 c1 3 Zhw x.users ∧ SlB (Za8 W) q2 c2 5 Zdk x.folders ∧ SlB (Za8 W) q3 c3 4 Zf6 x.queue.items) := (Zb3 Tryz.underlying28 [(fun cs => ∃ x, Zgj (Za8 W) cs x), (fun cs => ∃ x, Zdc 3 Zhw (Za8 W) cs x), (fun cs => ∃ x, Zdc 5 Zdk (Za8 W) cs x), (fun cs => ∃ n xs q cp, cs = [.int .i64 n, .slice q xs.length cp] ∧ SlB (Za8 W) q cp 4 Zf6 xs)] (by kernel_rfl) ⟨Zmz W, Zpe W, ZlW W, Zpf W, trivial⟩).mono (by
  rintro cs ⟨_, _, rfl, ⟨x0, rfl, h0⟩, _, _, rfl, ⟨x1, q1, c1, rfl, h1⟩, _, _, rfl, ⟨x2, q2, c2, rfl, h2⟩, _, _, rfl, ⟨n3, x3, q3, c3, rfl, h3⟩, rfl⟩
  exact ⟨⟨x0, x1, x2, ⟨n3, x3⟩⟩, q1, q2, q3, c1, c2, c3, rfl, h0, h1, h2, h3⟩)
theorem Znn {H : Type} {enc : TypeId × Value → H} (W : World) : Zdd enc Tryz.prog W 45 (fun cs => ∃ (x : DLetter) (q : Option Addr) (cp : Nat), cs = [str x.fr, .slice q x.to_.length cp, str x.text] ∧ x.fr.length ≤ 140737488355328 ∧ x.text.length ≤ 140737488355328 ∧ SlB (Za8 W) q cp 1 Zgj x.to_) := (Zb3 Tryz.underlying45 [(fun cs => ∃ x, Zgj (Za8 W) cs x), (fun cs => ∃ x, Zdc 1 Zgj (Za8 W) cs x), (fun cs => ∃ x, Zgj (Za8 W) cs x)] (by kernel_rfl) ⟨Zmz W, ZsM W, Zmz W, trivial⟩).mono (by
  rintro cs ⟨_, _, rfl, ⟨x0, rfl, h0⟩, _, _, rfl, ⟨x1, q1, c1, rfl, h1⟩, _, _, rfl, ⟨x2, rfl, h2⟩, rfl⟩
  exact ⟨⟨x0, x1, x2⟩, q1, c1, rfl, h0, h2, h1⟩)
theorem Zoi : "*" ++ "errors.errorString" = "*errors.errorString" := by decide
theorem Zs8 (u : TypeId) (h : Tryz.prog.typeName? 3 u = some "*errors.errorString") : u = 321 :=
  typeName_ptr_named (nm := "errors.errorString") (by rw [Zoi]; kernel_rfl) (by kernel_rfl) (by decide) u (by rw [Zoi]; exact h)

theorem Zep (os : Os) (args : Array Value) : laidMetH Tryz.prog Rows.fnExactHostSubmitRow.laid ((World.doorLaid Tryz.prog 85 os).forCall (fun _ _ => 0) ⟨#[], args, []⟩).memory :=
  laidMetH_of_parts3 (fuel := 8) (laidMet_of_run' 8 (by kernel_rfl) (by kernel_rfl)) (by kernel_rfl) (by kernel_rfl)
set_option maxRecDepth 100000 in
theorem fnExactHostSubmit_lifted (os : Os) (started : os.Started) (H : Type) (enc : TypeId × Value → H) :
    ReturnsInLeavingWide {} Tryz.checked os 4 .any (fun w args => (Rows.fnExactHostSubmitSpec.pre enc Tryz.prog Tryz.f4 Rows.fnExactHostSubmitRow.domain false w args ∧ laidMetH Tryz.prog Rows.fnExactHostSubmitRow.laid w) ∧ sizedMet enc Tryz.prog Tryz.f4 (OpenSpec.ofChange Rows.fnExactHostSubmitSpec) false w args) (Rows.fnExactHostSubmitSpec.post enc Tryz.prog Tryz.f4 false true false false) := by
  refine Zi2 (C := Tryz.checked) own started Tryz.func4 (ChangeSpec.witness_shaped (enc := enc) (C := Tryz.checked) (os := os) (X := fun w _ => laidMetH Tryz.prog Rows.fnExactHostSubmitRow.laid w) false (World.doorLaid Tryz.prog 85 os) #[.agg #[.string ⟨#[]⟩, .slice none 0 0, .slice none 0 0, .int .i64 0, .slice none 0 0], .agg #[.string ⟨#[]⟩, .slice none 0 0, .string ⟨#[]⟩]] 8 rfl (World.shaped_of_RefB (by kernel_rfl) (by kernel_rfl)) (by kernel_rfl) (by kernel_rfl) (by kernel_rfl) (Zep os _)) ?_
  intro W base args ds gs before hval hW hwt hL
  have hW' := hW
  obtain ⟨p, q, hA0, hV, rfl, hfz, hnd⟩ := hW
  have hA : DataW.TrodAll enc Tryz.prog W 0 (fun _ => true) true Tryz.f4.params.toList args.toList ds p := hA0
  replace hval : ∀ (j : Nat) t v, Tryz.f4.params[j]? = some t → args[j]? = some v → Value.okWide Tryz.prog W .any base t v := hval
  replace hwt : (DataW.weightsEach Tryz.prog (Tryz.f4.params.toList ++ Rows.fnExactHostSubmitSpec.plain.varTypes Tryz.prog) (ds ++ gs)).all (· ≤ reachBytes) = true := hwt
  rw [Tryz.params4] at hA hval hwt
  obtain ⟨v0, vs0, d0, ds0, p0, qq0, hargs, rfl, rfl, h0, r0⟩ := trodAll_cons hA
  obtain ⟨v1, vs1, d1, ds1, p1, qq1, rfl, rfl, rfl, h1, r1⟩ := trodAll_cons r0
  obtain ⟨rfl, rfl, rfl⟩ := trodAll_nil r1
  obtain rfl : args = #[v0, v1] := by cases args; simp_all
  have e0 := Zla h0 (Zrd W) (weigh hwt (i := 0) rfl rfl)
  obtain ⟨cs0, rfl, _⟩ := okWide_struct Tryz.underlying28 (hval 0 28 v0 rfl rfl)
  obtain ⟨x0, q01, q02, q03, c01, c02, c03, e0, hd0, hu0, hf0, hi0⟩ := e0
  obtain rfl : cs0 = #[str x0.domain, .slice q01 x0.users.length c01, .slice q02 x0.folders.length c02, .int .i64 x0.queue.next, .slice q03 x0.queue.items.length c03] := Array.ext' e0
  have e1 := Zla h1 (Znn W) (weigh hwt (i := 1) rfl rfl)
  obtain ⟨cs1, rfl, _⟩ := okWide_struct Tryz.underlying45 (hval 1 45 v1 rfl rfl)
  obtain ⟨x1, q1, c1, e1, hl1a, hl1b, hs1⟩ := e1
  obtain rfl : cs1 = #[str x1.fr, .slice q1 x1.to_.length c1, str x1.text] := Array.ext' e1
  rw [MakeChecks.laidMetH_plain _ _ _ (by kernel_rfl)] at hL
  obtain ⟨a, hE⟩ := Zoh hL (by kernel_rfl) (by kernel_rfl) (by kernel_rfl) (by kernel_rfl) (by kernel_rfl) (by kernel_rfl) (by kernel_rfl) (by kernel_rfl) Tryz.underlying82 Zs8 Tryz.underlying321 Tryz.underlying345 rfl rfl Tryz.underlying9 (by kernel_rfl) (by kernel_rfl)
  obtain ⟨code, hb, h⟩ := Zkz q01 q02 q03 c01 c02 c03 x0 hd0 q1 c1 x1 hl1a hl1b a (Za8 W) hE hu0 hf0 hi0 hs1
  obtain ⟨M, last, o, w', t', r1, r2, r3, r4⟩ := Zq3 119 Tryz.func4 hb rfl rfl (by kernel_rfl) (Nat.le_of_ble_eq_true rfl) h
  exact ⟨M, last, o, w', t', r1, r2, r3, Conc.Good.mono r4 fun v ⟨hk, _, _, _, hv⟩ => by
    subst hv
    exact ZnE (tb := 4) (by kernel_rfl) (by kernel_rfl) rfl Tryz.underlying4 (ZjS (by kernel_rfl)) hW' (fun ds' gs' hg hl => by
      match ds', gs', hl, hg with
      | [_, _], [_, _, _, _], _, _ => rfl) hk⟩
set_option maxRecDepth 100000 in
set_option maxHeartbeats 0 in
theorem fnExactHostSubmit_closed : joinedFacts Tryz.checked.prog 4 Tryz.f4 Rows.fnExactHostSubmitSpec Rows.fnExactHostSubmitRow = true := by
  unfold joinedFacts
  simp only [Bool.and_eq_true]
  repeat' apply And.intro
  all_goals (as_aux_lemma => kernel_rfl)
set_option maxRecDepth 100000 in
theorem fnExactHostSubmit_named : Tryz.checked.prog.funcNamed Rows.fnExactHostSubmitRow.func = some 4 := by kernel_rfl
set_option maxRecDepth 100000 in
theorem Zd5 : Rows.FnExactHostSubmitSaid :=
  OpenClaim.holds_of_wide_leaving 4 Tryz.f4 rfl rfl rfl rfl rfl rfl rfl ⟨rfl, rfl, rfl, rfl, rfl⟩ rfl rfl rfl rfl rfl fnExactHostSubmit_named Tryz.func4 fnExactHostSubmit_closed
    (of_decide_eq_true (by kernel_rfl)) (by unfold Func.isWrapper; first | (rw [if_pos (by decide +kernel)]; kernel_rfl) | (rw [if_neg (by decide +kernel)]; exact ⟨rfl, rfl⟩))
    (fun os started H enc _ => fnExactHostSubmit_lifted os started H enc)
set_option maxRecDepth 100000 in
theorem fnExactHostSubmit_proved : Rows.FnExactHostSubmitCardSaid :=
  Zoy .later [.sentinel, .sentinel, .sentinel, .sentinel] true (true, "99a9d6413fe6386f5ddb836a06de0529d3806a3a1937109080a8613e0b9c4009") true Zd5 (by kernel_rfl) fnExactHostSubmit_row_tie rfl ⟨rfl, rfl⟩ (by kernel_rfl) rfl
    (fun f fn hf hfn => by
      obtain rfl : f = 4 := Option.some.inj (fnExactHostSubmit_named.symm.trans hf) |>.symm
      obtain rfl : fn = Tryz.f4 := (Option.some.inj (Tryz.func4.symm.trans hfn)).symm
      exact ⟨by kernel_rfl, fun j t ht => Zo0 (by kernel_rfl) ht⟩)
    (by kernel_rfl)

end Go.Proofs.YthgggppcgbglkaaGreatDoor
