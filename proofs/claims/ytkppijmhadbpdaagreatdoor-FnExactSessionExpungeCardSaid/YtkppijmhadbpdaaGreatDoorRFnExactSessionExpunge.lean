/-
  LAWS THAT RETURN TRUE FOR EVERY ARGUMENT, with goroutines started and awaited on the way, and the arguments read behind the call as they read before. Conditions: none beyond the given rows.
-/
import Derived.Test.YtkppijmhadbpdaaGreatDoorC
import Derived.Test.YtkppijmhadbpdaaGreatDoorCards
import Derived.Test.YtkppijmhadbpdaaGreatDoorTie
import Derived.Conc.Holds
import Derived.Conc.LeavingOf
import Derived.KernelRfl
namespace Go.Proofs.YtkppijmhadbpdaaGreatDoor
open Go.BL
open Go.ChangeShapes Go.WideShapes Go.ChangeAt Go.RowKit
set_option linter.unusedVariables false
theorem own : ownKnob Tryz.prog.godebug = none := by kernel_rfl
theorem Znv {H : Type} {enc : TypeId × Value → H} (W : World) : ZcH enc Tryz.prog W 9 ZiE := Zo5 Tryz.underlying9
theorem ZtW {H : Type} {enc : TypeId × Value → H} (W : World) : ZcH enc Tryz.prog W 3 Zag := Zo6 Tryz.underlying3
theorem ZtT {H : Type} {enc : TypeId × Value → H} (W : World) : ZcH enc Tryz.prog W 168 ZkV := (Zb6 Tryz.underlying168 [(fun cs => ∃ x, ZiE (ZaZ W) cs x), (fun cs => ∃ x, ZiE (ZaZ W) cs x), (fun cs => ∃ x, Zag (ZaZ W) cs x)] (by kernel_rfl) ⟨Znv W, Znv W, ZtW W, trivial⟩).mono (by
  rintro cs ⟨_, _, rfl, ⟨x0, rfl, h0⟩, _, _, rfl, ⟨x1, rfl, h1⟩, _, _, rfl, ⟨x2, rfl⟩, rfl⟩
  exact ⟨⟨x0, x1, x2⟩, rfl, h0, h1⟩)
theorem ZrJ {H : Type} {enc : TypeId × Value → H} (W : World) : ZcH enc Tryz.prog W 43 (ZdR 3 ZkV) := Zcp Tryz.underlying43 (by kernel_rfl) (of_decide_eq_true (by kernel_rfl)) (by decide) (ZtT W)
theorem ZrN {H : Type} {enc : TypeId × Value → H} (W : World) : ZcH enc Tryz.prog W 318 ZhY := (Zb6 Tryz.underlying318 [(fun cs => ∃ x, ZiE (ZaZ W) cs x), (fun cs => ∃ x, Zag (ZaZ W) cs x)] (by kernel_rfl) ⟨Znv W, ZtW W, trivial⟩).mono (by
  rintro cs ⟨_, _, rfl, ⟨x0, rfl, h0⟩, _, _, rfl, ⟨x1, rfl⟩, rfl⟩
  exact ⟨⟨x0, x1⟩, rfl, h0⟩)
theorem Zo7 {H : Type} {enc : TypeId × Value → H} (W : World) : ZcH enc Tryz.prog W 170 (ZdR 2 ZhY) := Zcp Tryz.underlying170 (by kernel_rfl) (of_decide_eq_true (by kernel_rfl)) (by decide) (ZrN W)
theorem ZtU {H : Type} {enc : TypeId × Value → H} (W : World) : ZcH enc Tryz.prog W 362 Zh6 := (Zb6 Tryz.underlying362 [(fun cs => ∃ x, Zag (ZaZ W) cs x), (fun cs => ∃ x, Zag (ZaZ W) cs x), (fun cs => ∃ x, ZiE (ZaZ W) cs x)] (by kernel_rfl) ⟨ZtW W, ZtW W, Znv W, trivial⟩).mono (by
  rintro cs ⟨_, _, rfl, ⟨x0, rfl⟩, _, _, rfl, ⟨x1, rfl⟩, _, _, rfl, ⟨x2, rfl, h2⟩, rfl⟩
  exact ⟨⟨x0, x1, x2⟩, rfl, h2⟩)
theorem ZrL {H : Type} {enc : TypeId × Value → H} (W : World) : ZcH enc Tryz.prog W 171 (ZdR 3 Zh6) := Zcp Tryz.underlying171 (by kernel_rfl) (of_decide_eq_true (by kernel_rfl)) (by decide) (ZtU W)
theorem ZvK {H : Type} {enc : TypeId × Value → H} (W : World) : Zdr enc Tryz.prog W 173 (fun cs => ∃ n xs q cp, cs = [.int .i64 n, .slice q xs.length cp] ∧ SlB (ZaZ W) q cp 3 Zh6 xs) := (Zb6 Tryz.underlying173 [(fun cs => ∃ x, Zag (ZaZ W) cs x), (fun cs => ∃ x, ZdR 3 Zh6 (ZaZ W) cs x)] (by kernel_rfl) ⟨ZtW W, ZrL W, trivial⟩).mono (by
  rintro cs ⟨_, _, rfl, ⟨x0, rfl⟩, _, _, rfl, ⟨x1, q1, c1, rfl, h1⟩, rfl⟩
  exact ⟨x0, x1, q1, c1, rfl, h1⟩)
theorem Zo8 {H : Type} {enc : TypeId × Value → H} (W : World) : ZcH enc Tryz.prog W 175 ZeG := (Zb6 Tryz.underlying175 [(fun cs => ∃ x, ZiE (ZaZ W) cs x), (fun cs => ∃ x, ZiE (ZaZ W) cs x), (fun cs => ∃ x, ZdR 2 ZhY (ZaZ W) cs x), (fun cs => ∃ n xs q cp, cs = [.int .i64 n, .slice q xs.length cp] ∧ SlB (ZaZ W) q cp 3 Zh6 xs)] (by kernel_rfl) ⟨Znv W, Znv W, Zo7 W, ZvK W, trivial⟩).mono (by
  rintro cs ⟨_, _, rfl, ⟨x0, rfl, h0⟩, _, _, rfl, ⟨x1, rfl, h1⟩, _, _, rfl, ⟨x2, q2, c2, rfl, h2⟩, _, _, rfl, ⟨n3, x3, q3, c3, rfl, h3⟩, rfl⟩
  exact ⟨⟨x0, x1, x2, n3, x3⟩, q2, c2, q3, c3, rfl, h2, h3, h0, h1⟩)
theorem Znw {H : Type} {enc : TypeId × Value → H} (W : World) : ZcH enc Tryz.prog W 44 (ZdR 5 ZeG) := Zcp Tryz.underlying44 (by kernel_rfl) (of_decide_eq_true (by kernel_rfl)) (by decide) (Zo8 W)
theorem Zxh {H : Type} {enc : TypeId × Value → H} (W : World) : ZcH enc Tryz.prog W 143 (ZdR 1 ZiE) := Zcp Tryz.underlying143 (by kernel_rfl) (of_decide_eq_true (by kernel_rfl)) (by decide) (Znv W)
theorem ZtV {H : Type} {enc : TypeId × Value → H} (W : World) : ZcH enc Tryz.prog W 250 ZhX := (Zb6 Tryz.underlying250 [(fun cs => ∃ x, Zag (ZaZ W) cs x), (fun cs => ∃ x, ZiE (ZaZ W) cs x), (fun cs => ∃ x, ZiE (ZaZ W) cs x), (fun cs => ∃ x, ZdR 1 ZiE (ZaZ W) cs x)] (by kernel_rfl) ⟨ZtW W, Znv W, Znv W, Zxh W, trivial⟩).mono (by
  rintro cs ⟨_, _, rfl, ⟨x0, rfl⟩, _, _, rfl, ⟨x1, rfl, h1⟩, _, _, rfl, ⟨x2, rfl, h2⟩, _, _, rfl, ⟨x3, q3, c3, rfl, h3⟩, rfl⟩
  exact ⟨⟨x0, x1, x2, x3⟩, q3, c3, rfl, h3, h1, h2⟩)
theorem ZrM {H : Type} {enc : TypeId × Value → H} (W : World) : ZcH enc Tryz.prog W 45 (ZdR 4 ZhX) := Zcp Tryz.underlying45 (by kernel_rfl) (of_decide_eq_true (by kernel_rfl)) (by decide) (ZtV W)
theorem ZrK {H : Type} {enc : TypeId × Value → H} (W : World) : Zdr enc Tryz.prog W 47 (fun cs => ∃ n xs q cp, cs = [.int .i64 n, .slice q xs.length cp] ∧ SlB (ZaZ W) q cp 4 ZhX xs) := (Zb6 Tryz.underlying47 [(fun cs => ∃ x, Zag (ZaZ W) cs x), (fun cs => ∃ x, ZdR 4 ZhX (ZaZ W) cs x)] (by kernel_rfl) ⟨ZtW W, ZrM W, trivial⟩).mono (by
  rintro cs ⟨_, _, rfl, ⟨x0, rfl⟩, _, _, rfl, ⟨x1, q1, c1, rfl, h1⟩, rfl⟩
  exact ⟨x0, x1, q1, c1, rfl, h1⟩)
theorem ZtX {H : Type} {enc : TypeId × Value → H} (W : World) : Zdr enc Tryz.prog W 49 (fun cs => ∃ (x : DHost) (q1 q2 q3 : Option Addr) (c1 c2 c3 : Nat), cs = [str x.domain, .slice q1 x.users.length c1, .slice q2 x.folders.length c2, .int .i64 x.queue.next, .slice q3 x.queue.items.length c3] ∧ x.domain.length ≤ 140737488355328 ∧ SlB (ZaZ W) q1 c1 3 ZkV x.users ∧ SlB (ZaZ W) q2 c2 5 ZeG x.folders ∧ SlB (ZaZ W) q3 c3 4 ZhX x.queue.items) := (Zb6 Tryz.underlying49 [(fun cs => ∃ x, ZiE (ZaZ W) cs x), (fun cs => ∃ x, ZdR 3 ZkV (ZaZ W) cs x), (fun cs => ∃ x, ZdR 5 ZeG (ZaZ W) cs x), (fun cs => ∃ n xs q cp, cs = [.int .i64 n, .slice q xs.length cp] ∧ SlB (ZaZ W) q cp 4 ZhX xs)] (by kernel_rfl) ⟨Znv W, ZrJ W, Znw W, ZrK W, trivial⟩).mono (by
  rintro cs ⟨_, _, rfl, ⟨x0, rfl, h0⟩, _, _, rfl, ⟨x1, q1, c1, rfl, h1⟩, _, _, rfl, ⟨x2, q2, c2, rfl, h2⟩, _, _, rfl, ⟨n3, x3, q3, c3, rfl, h3⟩, rfl⟩
  exact ⟨⟨x0, x1, x2, ⟨n3, x3⟩⟩, q1, q2, q3, c1, c2, c3, rfl, h0, h1, h2, h3⟩)
theorem Znu {H : Type} {enc : TypeId × Value → H} (W : World) : Zdr enc Tryz.prog W 50 (fun cs => ∃ (u y z : Str), cs = [str u, str y, str z] ∧ u.length ≤ 140737488355328 ∧ y.length ≤ 140737488355328 ∧ z.length ≤ 140737488355328) := (Zb6 Tryz.underlying50 [(fun cs => ∃ x, ZiE (ZaZ W) cs x), (fun cs => ∃ x, ZiE (ZaZ W) cs x), (fun cs => ∃ x, ZiE (ZaZ W) cs x)] (by kernel_rfl) ⟨Znv W, Znv W, Znv W, trivial⟩).mono (by
  rintro cs ⟨_, _, rfl, ⟨x0, rfl, h0⟩, _, _, rfl, ⟨x1, rfl, h1⟩, _, _, rfl, ⟨x2, rfl, h2⟩, rfl⟩
  exact ⟨x0, x1, x2, rfl, h0, h1, h2⟩)
theorem Zqe : "*" ++ "errors.errorString" = "*errors.errorString" := by decide
theorem Zv9 (u : TypeId) (h : Tryz.prog.typeName? 3 u = some "*errors.errorString") : u = 372 :=
  typeName_ptr_named (nm := "errors.errorString") (by rw [Zqe]; kernel_rfl) (by kernel_rfl) (by decide) u (by rw [Zqe]; exact h)

theorem Zdv (os : Os) (args : Array Value) : laidMetH Tryz.prog Rows.fnExactSessionExpungeRow.laid ((World.doorLaid Tryz.prog 85 os).forCall (fun _ _ => 0) ⟨#[], args, []⟩).memory :=
  laidMetH_of_parts3 (fuel := 8) (laidMet_of_run' 8 (by kernel_rfl) (by kernel_rfl)) (by kernel_rfl) (by kernel_rfl)
set_option maxRecDepth 100000 in
set_option maxHeartbeats 1600000 in
theorem fnExactSessionExpunge_lifted (os : Os) (started : os.Started) (H : Type) (enc : TypeId × Value → H) :
    ReturnsInLeavingWide { calm := true } Tryz.checked os 5 .any (fun w args => (Rows.fnExactSessionExpungeSpec.pre enc Tryz.prog Tryz.f5 Rows.fnExactSessionExpungeRow.domain false w args ∧ laidMetH Tryz.prog Rows.fnExactSessionExpungeRow.laid w) ∧ sizedMet enc Tryz.prog Tryz.f5 (OpenSpec.ofChange Rows.fnExactSessionExpungeSpec) false w args) (Rows.fnExactSessionExpungeSpec.post enc Tryz.prog Tryz.f5 false true false false) := by
  refine ZjZ (C := Tryz.checked) own started Tryz.func5 (Zrb (enc := enc) (C := Tryz.checked) (os := os) (X := fun w _ => laidMetH Tryz.prog Rows.fnExactSessionExpungeRow.laid w) (World.doorLaid Tryz.prog 85 os) #[.agg #[.string ⟨#[]⟩, .slice none 0 0, .slice none 0 0, .int .i64 0, .slice none 0 0], .agg #[.string ⟨#[]⟩, .string ⟨#[]⟩, .string ⟨#[]⟩]] 8 rfl (World.shaped_of_RefB (by kernel_rfl) (by kernel_rfl)) (by kernel_rfl) (by kernel_rfl) (by kernel_rfl) (Zdv os _)) ?_
  intro W base args ds gs before hval hW hwt hL
  have hW' := hW
  obtain ⟨p, q, hA0, hV, rfl, hfz, hnd⟩ := hW
  have hA : DataW.TrodAll enc Tryz.prog W 0 (fun _ => true) true Tryz.f5.params.toList args.toList ds p := hA0
  replace hval : ∀ (j : Nat) t v, Tryz.f5.params[j]? = some t → args[j]? = some v → Value.okWide Tryz.prog W .any base t v := hval
  replace hwt : (DataW.weightsEach Tryz.prog (Tryz.f5.params.toList ++ Rows.fnExactSessionExpungeSpec.plain.varTypes Tryz.prog) (ds ++ gs)).all (· ≤ reachBytes) = true := hwt
  rw [Tryz.params5] at hA hval hwt
  obtain ⟨v0, vs0, d0, ds0, p0, qq0, hargs, rfl, rfl, h0, r0⟩ := trodAll_cons hA
  obtain ⟨v1, vs1, d1, ds1, p1, qq1, rfl, rfl, rfl, h1, r1⟩ := trodAll_cons r0
  obtain ⟨rfl, rfl, rfl⟩ := trodAll_nil r1
  obtain rfl : args = #[v0, v1] := by cases args; simp_all
  have e0 := ZmC h0 (ZtX W) (weigh hwt (i := 0) rfl rfl)
  obtain ⟨cs0, rfl, _⟩ := okWide_struct Tryz.underlying49 (hval 0 49 v0 rfl rfl)
  obtain ⟨x0, q01, q02, q03, c01, c02, c03, e0, hd0, hu0, hf0, hi0⟩ := e0
  obtain rfl : cs0 = #[str x0.domain, .slice q01 x0.users.length c01, .slice q02 x0.folders.length c02, .int .i64 x0.queue.next, .slice q03 x0.queue.items.length c03] := Array.ext' e0
  have e1 := ZmC h1 (Znu W) (weigh hwt (i := 1) rfl rfl)
  obtain ⟨cs1, rfl, _⟩ := okWide_struct Tryz.underlying50 (hval 1 50 v1 rfl rfl)
  obtain ⟨u1, y1, z1, e1, hs1a, hs1b, hs1c⟩ := e1
  obtain rfl : cs1 = #[str u1, str y1, str z1] := Array.ext' e1
  rw [MakeChecks.laidMetH_plain _ _ _ (by kernel_rfl)] at hL
  obtain ⟨a, hE⟩ := Zqd hL (by kernel_rfl) (by kernel_rfl) (by kernel_rfl) (by kernel_rfl) (by kernel_rfl) (by kernel_rfl) (by kernel_rfl) (by kernel_rfl) Tryz.underlying82 Zv9 Tryz.underlying372 Tryz.underlying397 rfl rfl Tryz.underlying9 (by kernel_rfl) (by kernel_rfl)
  obtain ⟨code, hb, h⟩ := Zl1 q01 q02 q03 c01 c02 c03 x0 hd0 u1 y1 z1 hs1a hs1b hs1c (ZaZ W) a hE hu0 hf0 hi0
  obtain ⟨M, last, o, w', t', r1, r2, r3, r4⟩ := ZtM 146 Tryz.func5 hb rfl rfl (by kernel_rfl) (Nat.le_of_ble_eq_true rfl) h
  exact ⟨M, last, o, w', t', r1, r2, r3, Conc.Good.mono r4 fun v ⟨hk, _, _, _, hv⟩ => by
    subst hv
    exact Zpr (tb := 4) (by kernel_rfl) (by kernel_rfl) rfl Tryz.underlying4 (Zk2 (by kernel_rfl)) hW' (fun ds' gs' hg hl => by
      match ds', gs', hl, hg with
      | [_, _], [_, _, _, _], _, _ => rfl) hk⟩
set_option maxRecDepth 100000 in
set_option maxHeartbeats 0 in
theorem fnExactSessionExpunge_closed : joinedFacts Tryz.checked.prog 5 Tryz.f5 Rows.fnExactSessionExpungeSpec Rows.fnExactSessionExpungeRow = true := by
  unfold joinedFacts
  simp only [Bool.and_eq_true]
  repeat' apply And.intro
  all_goals (as_aux_lemma => kernel_rfl)
set_option maxRecDepth 100000 in
theorem fnExactSessionExpunge_named : Tryz.checked.prog.funcNamed Rows.fnExactSessionExpungeRow.func = some 5 := by kernel_rfl
set_option maxRecDepth 100000 in
theorem Zdi : Rows.FnExactSessionExpungeSaid :=
  OpenClaim.holds_of_wide_leaving_time 5 Tryz.f5 rfl rfl rfl rfl rfl rfl rfl ⟨rfl, rfl, rfl, rfl, rfl⟩ rfl rfl rfl rfl rfl fnExactSessionExpunge_named Tryz.func5 fnExactSessionExpunge_closed
    (of_decide_eq_true (by kernel_rfl)) (by unfold Func.isWrapper; first | (rw [if_pos (by decide +kernel)]; kernel_rfl) | (rw [if_neg (by decide +kernel)]; exact ⟨rfl, rfl⟩))
    (fun os started H enc _ _ => ZlD (fnExactSessionExpunge_lifted os started H enc))
set_option maxRecDepth 100000 in
theorem fnExactSessionExpunge_proved : Rows.FnExactSessionExpungeCardSaid :=
  ZqD .later [.sentinel, .sentinel, .sentinel, .sentinel] true (true, "72c2d702cc92e1928875548fe6d7d038f204804e89aeecf5fc0b1f3e9827b80c") true Zdi (by kernel_rfl) fnExactSessionExpunge_row_tie rfl ⟨rfl, rfl⟩ (by kernel_rfl) rfl
    (fun f fn hf hfn => by
      obtain rfl : f = 5 := Option.some.inj (fnExactSessionExpunge_named.symm.trans hf) |>.symm
      obtain rfl : fn = Tryz.f5 := (Option.some.inj (Tryz.func5.symm.trans hfn)).symm
      exact ⟨by kernel_rfl, fun j t ht => Zru (by kernel_rfl) ht⟩)
    (by kernel_rfl)

end Go.Proofs.YtkppijmhadbpdaaGreatDoor
