/-
  LAWS THAT RETURN TRUE FOR EVERY ARGUMENT, with goroutines started and awaited on the way, and the arguments read behind the call as they read before. Conditions: none beyond the given rows.
-/
import Derived.Test.YthgggppcgbglkaaGreatDoorC
import Derived.Test.YthgggppcgbglkaaGreatDoorCards
import Derived.Test.YthgggppcgbglkaaGreatDoorTie
import Derived.Conc.Holds
import Derived.Conc.LeavingOf
import Derived.KernelRfl
namespace Go.Proofs.YthgggppcgbglkaaGreatDoor
open Go.BL
open Go.ChangeShapes Go.WideShapes Go.ChangeAt Go.RowKit
set_option linter.unusedVariables false
theorem own : ownKnob Tryz.prog.godebug = none := by kernel_rfl
theorem Zoy {H : Type} {enc : TypeId × Value → H} (W : World) : Zcu enc Tryz.prog W 9 ZiH := Zow Tryz.underlying9
theorem Zsy {H : Type} {enc : TypeId × Value → H} (W : World) : Zcu enc Tryz.prog W 3 ZdO := Zox Tryz.underlying3
theorem Zsv {H : Type} {enc : TypeId × Value → H} (W : World) : Zcu enc Tryz.prog W 112 Zh2 := (Zct Tryz.underlying112 [(fun cs => ∃ x, ZiH (Zbc W) cs x), (fun cs => ∃ x, ZiH (Zbc W) cs x), (fun cs => ∃ x, ZdO (Zbc W) cs x)] (by kernel_rfl) ⟨Zoy W, Zoy W, Zsy W, trivial⟩).mono (by
  rintro cs ⟨_, _, rfl, ⟨x0, rfl, h0⟩, _, _, rfl, ⟨x1, rfl, h1⟩, _, _, rfl, ⟨x2, rfl⟩, rfl⟩
  exact ⟨⟨x0, x1, x2⟩, rfl, h0, h1⟩)
theorem Zqz {H : Type} {enc : TypeId × Value → H} (W : World) : Zcu enc Tryz.prog W 22 (ZdM 3 Zh2) := Zci Tryz.underlying22 (by kernel_rfl) (of_decide_eq_true (by kernel_rfl)) (by decide) (Zsv W)
theorem ZqD {H : Type} {enc : TypeId × Value → H} (W : World) : Zcu enc Tryz.prog W 229 Zfg := (Zct Tryz.underlying229 [(fun cs => ∃ x, ZiH (Zbc W) cs x), (fun cs => ∃ x, ZdO (Zbc W) cs x)] (by kernel_rfl) ⟨Zoy W, Zsy W, trivial⟩).mono (by
  rintro cs ⟨_, _, rfl, ⟨x0, rfl, h0⟩, _, _, rfl, ⟨x1, rfl⟩, rfl⟩
  exact ⟨⟨x0, x1⟩, rfl, h0⟩)
theorem Zoz {H : Type} {enc : TypeId × Value → H} (W : World) : Zcu enc Tryz.prog W 114 (ZdM 2 Zfg) := Zci Tryz.underlying114 (by kernel_rfl) (of_decide_eq_true (by kernel_rfl)) (by decide) (ZqD W)
theorem Zsw {H : Type} {enc : TypeId × Value → H} (W : World) : Zcu enc Tryz.prog W 264 Zgy := (Zct Tryz.underlying264 [(fun cs => ∃ x, ZdO (Zbc W) cs x), (fun cs => ∃ x, ZdO (Zbc W) cs x), (fun cs => ∃ x, ZiH (Zbc W) cs x)] (by kernel_rfl) ⟨Zsy W, Zsy W, Zoy W, trivial⟩).mono (by
  rintro cs ⟨_, _, rfl, ⟨x0, rfl⟩, _, _, rfl, ⟨x1, rfl⟩, _, _, rfl, ⟨x2, rfl, h2⟩, rfl⟩
  exact ⟨⟨x0, x1, x2⟩, rfl, h2⟩)
theorem ZqB {H : Type} {enc : TypeId × Value → H} (W : World) : Zcu enc Tryz.prog W 115 (ZdM 3 Zgy) := Zci Tryz.underlying115 (by kernel_rfl) (of_decide_eq_true (by kernel_rfl)) (by decide) (Zsw W)
theorem Zuc {H : Type} {enc : TypeId × Value → H} (W : World) : ZdN enc Tryz.prog W 117 (fun cs => ∃ n xs q cp, cs = [.int .i64 n, .slice q xs.length cp] ∧ SlB (Zbc W) q cp 3 Zgy xs) := (Zct Tryz.underlying117 [(fun cs => ∃ x, ZdO (Zbc W) cs x), (fun cs => ∃ x, ZdM 3 Zgy (Zbc W) cs x)] (by kernel_rfl) ⟨Zsy W, ZqB W, trivial⟩).mono (by
  rintro cs ⟨_, _, rfl, ⟨x0, rfl⟩, _, _, rfl, ⟨x1, q1, c1, rfl, h1⟩, rfl⟩
  exact ⟨x0, x1, q1, c1, rfl, h1⟩)
theorem ZoA {H : Type} {enc : TypeId × Value → H} (W : World) : Zcu enc Tryz.prog W 119 Zdt := (Zct Tryz.underlying119 [(fun cs => ∃ x, ZiH (Zbc W) cs x), (fun cs => ∃ x, ZiH (Zbc W) cs x), (fun cs => ∃ x, ZdM 2 Zfg (Zbc W) cs x), (fun cs => ∃ n xs q cp, cs = [.int .i64 n, .slice q xs.length cp] ∧ SlB (Zbc W) q cp 3 Zgy xs)] (by kernel_rfl) ⟨Zoy W, Zoy W, Zoz W, Zuc W, trivial⟩).mono (by
  rintro cs ⟨_, _, rfl, ⟨x0, rfl, h0⟩, _, _, rfl, ⟨x1, rfl, h1⟩, _, _, rfl, ⟨x2, q2, c2, rfl, h2⟩, _, _, rfl, ⟨n3, x3, q3, c3, rfl, h3⟩, rfl⟩
  exact ⟨⟨x0, x1, x2, n3, x3⟩, q2, c2, q3, c3, rfl, h2, h3, h0, h1⟩)
theorem Zm0 {H : Type} {enc : TypeId × Value → H} (W : World) : Zcu enc Tryz.prog W 23 (ZdM 5 Zdt) := Zci Tryz.underlying23 (by kernel_rfl) (of_decide_eq_true (by kernel_rfl)) (by decide) (ZoA W)
theorem ZvK {H : Type} {enc : TypeId × Value → H} (W : World) : Zcu enc Tryz.prog W 43 (ZdM 1 ZiH) := Zci Tryz.underlying43 (by kernel_rfl) (of_decide_eq_true (by kernel_rfl)) (by decide) (Zoy W)
theorem Zsx {H : Type} {enc : TypeId × Value → H} (W : World) : Zcu enc Tryz.prog W 183 Zgz := (Zct Tryz.underlying183 [(fun cs => ∃ x, ZdO (Zbc W) cs x), (fun cs => ∃ x, ZiH (Zbc W) cs x), (fun cs => ∃ x, ZiH (Zbc W) cs x), (fun cs => ∃ x, ZdM 1 ZiH (Zbc W) cs x)] (by kernel_rfl) ⟨Zsy W, Zoy W, Zoy W, ZvK W, trivial⟩).mono (by
  rintro cs ⟨_, _, rfl, ⟨x0, rfl⟩, _, _, rfl, ⟨x1, rfl, h1⟩, _, _, rfl, ⟨x2, rfl, h2⟩, _, _, rfl, ⟨x3, q3, c3, rfl, h3⟩, rfl⟩
  exact ⟨⟨x0, x1, x2, x3⟩, q3, c3, rfl, h3, h1, h2⟩)
theorem ZqC {H : Type} {enc : TypeId × Value → H} (W : World) : Zcu enc Tryz.prog W 24 (ZdM 4 Zgz) := Zci Tryz.underlying24 (by kernel_rfl) (of_decide_eq_true (by kernel_rfl)) (by decide) (Zsx W)
theorem ZqA {H : Type} {enc : TypeId × Value → H} (W : World) : ZdN enc Tryz.prog W 26 (fun cs => ∃ n xs q cp, cs = [.int .i64 n, .slice q xs.length cp] ∧ SlB (Zbc W) q cp 4 Zgz xs) := (Zct Tryz.underlying26 [(fun cs => ∃ x, ZdO (Zbc W) cs x), (fun cs => ∃ x, ZdM 4 Zgz (Zbc W) cs x)] (by kernel_rfl) ⟨Zsy W, ZqC W, trivial⟩).mono (by
  rintro cs ⟨_, _, rfl, ⟨x0, rfl⟩, _, _, rfl, ⟨x1, q1, c1, rfl, h1⟩, rfl⟩
  exact ⟨x0, x1, q1, c1, rfl, h1⟩)
theorem Zsz {H : Type} {enc : TypeId × Value → H} (W : World) : ZdN enc Tryz.prog W 28 (fun cs => ∃ (x : DHost) (q1 q2 q3 : Option Addr) (c1 c2 c3 : Nat), cs = [str x.domain, .slice q1 x.users.length c1, .slice q2 x.folders.length c2, .int .i64 x.queue.next, .slice q3 x.queue.items.length c3] ∧ x.domain.length ≤ 140737488355328 ∧ SlB (Zbc W) q1 c1 3 Zh2 x.users ∧ SlB (Zbc W) q2 c2 5 Zdt x.folders ∧ SlB (Zbc W) q3 c3 4 Zgz x.queue.items) := (Zct Tryz.underlying28 [(fun cs => ∃ x, ZiH (Zbc W) cs x), (fun cs => ∃ x, ZdM 3 Zh2 (Zbc W) cs x), (fun cs => ∃ x, ZdM 5 Zdt (Zbc W) cs x), (fun cs => ∃ n xs q cp, cs = [.int .i64 n, .slice q xs.length cp] ∧ SlB (Zbc W) q cp 4 Zgz xs)] (by kernel_rfl) ⟨Zoy W, Zqz W, Zm0 W, ZqA W, trivial⟩).mono (by
  rintro cs ⟨_, _, rfl, ⟨x0, rfl, h0⟩, _, _, rfl, ⟨x1, q1, c1, rfl, h1⟩, _, _, rfl, ⟨x2, q2, c2, rfl, h2⟩, _, _, rfl, ⟨n3, x3, q3, c3, rfl, h3⟩, rfl⟩
  exact ⟨⟨x0, x1, x2, ⟨n3, x3⟩⟩, q1, q2, q3, c1, c2, c3, rfl, h0, h1, h2, h3⟩)
theorem Zpw : "*" ++ "errors.errorString" = "*errors.errorString" := by decide
theorem Zuy (u : TypeId) (h : Tryz.prog.typeName? 3 u = some "*errors.errorString") : u = 321 :=
  typeName_ptr_named (nm := "errors.errorString") (by rw [Zpw]; kernel_rfl) (by kernel_rfl) (by decide) u (by rw [Zpw]; exact h)

theorem Zeh (os : Os) (args : Array Value) : laidMetH Tryz.prog Rows.fnExactHostDeliverRow.laid ((World.doorLaid Tryz.prog 85 os).forCall (fun _ _ => 0) ⟨#[], args, []⟩).memory :=
  laidMetH_of_parts3 (fuel := 8) (laidMet_of_run' 8 (by kernel_rfl) (by kernel_rfl)) (by kernel_rfl) (by kernel_rfl)
set_option maxRecDepth 100000 in
theorem fnExactHostDeliver_lifted (os : Os) (started : os.Started) (H : Type) (enc : TypeId × Value → H) :
    ReturnsInLeavingWide {} Tryz.checked os 7 .any (fun w args => (Rows.fnExactHostDeliverSpec.pre enc Tryz.prog Tryz.f7 Rows.fnExactHostDeliverRow.domain false w args ∧ laidMetH Tryz.prog Rows.fnExactHostDeliverRow.laid w) ∧ sizedMet enc Tryz.prog Tryz.f7 (OpenSpec.ofChange Rows.fnExactHostDeliverSpec) false w args) (Rows.fnExactHostDeliverSpec.post enc Tryz.prog Tryz.f7 false true false false) := by
  refine ZjV (C := Tryz.checked) own started Tryz.func7 (ChangeSpec.witness_shaped (enc := enc) (C := Tryz.checked) (os := os) (X := fun w _ => laidMetH Tryz.prog Rows.fnExactHostDeliverRow.laid w) false (World.doorLaid Tryz.prog 85 os) #[.agg #[.string ⟨#[]⟩, .slice none 0 0, .slice none 0 0, .int .i64 0, .slice none 0 0], .int .i64 0, .string ⟨#[]⟩] 8 rfl (World.shaped_of_RefB (by kernel_rfl) (by kernel_rfl)) (by kernel_rfl) (by kernel_rfl) (by kernel_rfl) (Zeh os _)) ?_
  intro W base args ds gs before hval hW hwt hL
  have hW' := hW
  obtain ⟨p, q, hA0, hV, rfl, hfz, hnd⟩ := hW
  have hA : DataW.TrodAll enc Tryz.prog W 0 (fun _ => true) true Tryz.f7.params.toList args.toList ds p := hA0
  replace hval : ∀ (j : Nat) t v, Tryz.f7.params[j]? = some t → args[j]? = some v → Value.okWide Tryz.prog W .any base t v := hval
  replace hwt : (DataW.weightsEach Tryz.prog (Tryz.f7.params.toList ++ Rows.fnExactHostDeliverSpec.plain.varTypes Tryz.prog) (ds ++ gs)).all (· ≤ reachBytes) = true := hwt
  rw [Tryz.params7] at hA hval hwt
  obtain ⟨v0, vs0, d0, ds0, p0, qq0, hargs, rfl, rfl, h0, r0⟩ := trodAll_cons hA
  obtain ⟨v1, vs1, d1, ds1, p1, qq1, rfl, rfl, rfl, h1, r1⟩ := trodAll_cons r0
  obtain ⟨v2, vs2, d2, ds2, p2, qq2, rfl, rfl, rfl, h2, r2⟩ := trodAll_cons r1
  obtain ⟨rfl, rfl, rfl⟩ := trodAll_nil r2
  obtain rfl : args = #[v0, v1, v2] := by cases args; simp_all
  have e0 := Zmc h0 (Zsz W) (weigh hwt (i := 0) rfl rfl)
  obtain ⟨cs0, rfl, _⟩ := okWide_struct Tryz.underlying28 (hval 0 28 v0 rfl rfl)
  obtain ⟨x0, q01, q02, q03, c01, c02, c03, e0, hd0, hu0, hf0, hi0⟩ := e0
  obtain rfl : cs0 = #[str x0.domain, .slice q01 x0.users.length c01, .slice q02 x0.folders.length c02, .int .i64 x0.queue.next, .slice q03 x0.queue.items.length c03] := Array.ext' e0
  obtain ⟨x1, rfl⟩ := okWide_int Tryz.underlying3 (hval 1 3 v1 rfl rfl)
  have e2 := Zmc h2 (Zoy W) (weigh hwt (i := 2) rfl rfl)
  obtain ⟨s2, rfl⟩ := okWide_string Tryz.underlying9 (hval 2 9 v2 rfl rfl)
  obtain ⟨x2, e2, g2⟩ := e2
  obtain rfl : s2 = ⟨x2.toArray⟩ := Value.string.inj (List.cons.inj e2).1
  rw [MakeChecks.laidMetH_plain _ _ _ (by kernel_rfl)] at hL
  obtain ⟨a, hE⟩ := Zpv hL (by kernel_rfl) (by kernel_rfl) (by kernel_rfl) (by kernel_rfl) (by kernel_rfl) (by kernel_rfl) (by kernel_rfl) (by kernel_rfl) Tryz.underlying82 Zuy Tryz.underlying321 Tryz.underlying345 rfl rfl Tryz.underlying9 (by kernel_rfl) (by kernel_rfl)
  obtain ⟨code, hb, h⟩ := ZlB q01 q02 q03 c01 c02 c03 x0 hd0 x1 x2 g2 a (Zbc W) hE hu0 hf0 hi0
  obtain ⟨M, last, o, w', t', r1, r2, r3, r4⟩ := Zsp 109 Tryz.func7 hb rfl rfl (by kernel_rfl) (Nat.le_of_ble_eq_true rfl) h
  exact ⟨M, last, o, w', t', r1, r2, r3, Conc.Good.mono r4 fun v ⟨hk, _, _, _, hv⟩ => by
    subst hv
    exact ZoQ (tb := 4) (by kernel_rfl) (by kernel_rfl) rfl Tryz.underlying4 (ZkO (by kernel_rfl)) hW' (fun ds' gs' hg hl => by
      match ds', gs', hl, hg with
      | [_, _, _], [_, _, _, _], _, _ => rfl) hk⟩
set_option maxRecDepth 100000 in
set_option maxHeartbeats 0 in
theorem fnExactHostDeliver_closed : joinedFacts Tryz.checked.prog 7 Tryz.f7 Rows.fnExactHostDeliverSpec Rows.fnExactHostDeliverRow = true := by
  unfold joinedFacts
  simp only [Bool.and_eq_true]
  repeat' apply And.intro
  all_goals (as_aux_lemma => kernel_rfl)
set_option maxRecDepth 100000 in
theorem fnExactHostDeliver_named : Tryz.checked.prog.funcNamed Rows.fnExactHostDeliverRow.func = some 7 := by kernel_rfl
set_option maxRecDepth 100000 in
theorem Zd7 : Rows.FnExactHostDeliverSaid :=
  OpenClaim.holds_of_wide_leaving 7 Tryz.f7 rfl rfl rfl rfl rfl rfl rfl ⟨rfl, rfl, rfl, rfl, rfl⟩ rfl rfl rfl rfl rfl fnExactHostDeliver_named Tryz.func7 fnExactHostDeliver_closed
    (of_decide_eq_true (by kernel_rfl)) (by unfold Func.isWrapper; first | (rw [if_pos (by decide +kernel)]; kernel_rfl) | (rw [if_neg (by decide +kernel)]; exact ⟨rfl, rfl⟩))
    (fun os started H enc _ => fnExactHostDeliver_lifted os started H enc)
set_option maxRecDepth 100000 in
theorem fnExactHostDeliver_proved : Rows.FnExactHostDeliverCardSaid :=
  ZpN .later [.sentinel, .sentinel, .sentinel, .sentinel] true (true, "99a9d6413fe6386f5ddb836a06de0529d3806a3a1937109080a8613e0b9c4009") true Zd7 (by kernel_rfl) fnExactHostDeliver_row_tie rfl ⟨rfl, rfl⟩ (by kernel_rfl) rfl
    (fun f fn hf hfn => by
      obtain rfl : f = 7 := Option.some.inj (fnExactHostDeliver_named.symm.trans hf) |>.symm
      obtain rfl : fn = Tryz.f7 := (Option.some.inj (Tryz.func7.symm.trans hfn)).symm
      exact ⟨by kernel_rfl, fun j t ht => Zqk (by kernel_rfl) ht⟩)
    (by kernel_rfl)

end Go.Proofs.YthgggppcgbglkaaGreatDoor
