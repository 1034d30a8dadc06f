/-
  LAWS THAT RETURN TRUE FOR EVERY ARGUMENT, with goroutines started and awaited on the way, and the arguments read behind the call as they read before. Conditions: none beyond the given rows.
-/
import Derived.Test.YtgbecfimpgknnaaGreatC
import Derived.Conc.Holds
import Derived.Conc.LeavingOf
import Derived.KernelRfl
namespace Go.Proofs.YtgbecfimpgknnaaGreat
open Go.BL
open Go.ChangeShapes Go.WideShapes Go.ChangeAt Go.RowKit
set_option linter.unusedVariables false
theorem own : ownKnob Tryz.prog.godebug = none := by kernel_rfl
theorem op_s {H : Type} {enc : TypeId × Value → H} (W : World) : OpensR enc Tryz.prog W 9 StrB := opens_str Tryz.underlying9
theorem op_i {H : Type} {enc : TypeId × Value → H} (W : World) : OpensR enc Tryz.prog W 3 IntR := opens_int Tryz.underlying3
theorem op_user {H : Type} {enc : TypeId × Value → H} (W : World) : OpensR enc Tryz.prog W 156 UserB := (opens_all Tryz.underlying156 [(fun cs => ∃ x, StrB (allOf W) cs x), (fun cs => ∃ x, StrB (allOf W) cs x), (fun cs => ∃ x, IntR (allOf W) cs x)] (by kernel_rfl) ⟨op_s W, op_s W, op_i W, trivial⟩).mono (by
  rintro cs ⟨_, _, rfl, ⟨x0, rfl, h0⟩, _, _, rfl, ⟨x1, rfl, h1⟩, _, _, rfl, ⟨x2, rfl⟩, rfl⟩
  exact ⟨⟨x0, x1, x2⟩, rfl, h0, h1⟩)
theorem op_users {H : Type} {enc : TypeId × Value → H} (W : World) : OpensR enc Tryz.prog W 48 (SliceB 3 UserB) := opens_slice Tryz.underlying48 (by kernel_rfl) (of_decide_eq_true (by kernel_rfl)) (by decide) (op_user W)
theorem op_grant {H : Type} {enc : TypeId × Value → H} (W : World) : OpensR enc Tryz.prog W 255 GrantB := (opens_all Tryz.underlying255 [(fun cs => ∃ x, StrB (allOf W) cs x), (fun cs => ∃ x, IntR (allOf W) cs x)] (by kernel_rfl) ⟨op_s W, op_i W, trivial⟩).mono (by
  rintro cs ⟨_, _, rfl, ⟨x0, rfl, h0⟩, _, _, rfl, ⟨x1, rfl⟩, rfl⟩
  exact ⟨⟨x0, x1⟩, rfl, h0⟩)
theorem op_grants {H : Type} {enc : TypeId × Value → H} (W : World) : OpensR enc Tryz.prog W 158 (SliceB 2 GrantB) := opens_slice Tryz.underlying158 (by kernel_rfl) (of_decide_eq_true (by kernel_rfl)) (by decide) (op_grant W)
theorem op_mail {H : Type} {enc : TypeId × Value → H} (W : World) : OpensR enc Tryz.prog W 266 MailB := (opens_all Tryz.underlying266 [(fun cs => ∃ x, IntR (allOf W) cs x), (fun cs => ∃ x, IntR (allOf W) cs x), (fun cs => ∃ x, StrB (allOf W) cs x)] (by kernel_rfl) ⟨op_i W, op_i W, op_s W, trivial⟩).mono (by
  rintro cs ⟨_, _, rfl, ⟨x0, rfl⟩, _, _, rfl, ⟨x1, rfl⟩, _, _, rfl, ⟨x2, rfl, h2⟩, rfl⟩
  exact ⟨⟨x0, x1, x2⟩, rfl, h2⟩)
theorem op_mails {H : Type} {enc : TypeId × Value → H} (W : World) : OpensR enc Tryz.prog W 159 (SliceB 3 MailB) := opens_slice Tryz.underlying159 (by kernel_rfl) (of_decide_eq_true (by kernel_rfl)) (by decide) (op_mail W)
theorem op_box {H : Type} {enc : TypeId × Value → H} (W : World) : OpensP enc Tryz.prog W 161 (fun cs => ∃ n xs q cp, cs = [.int .i64 n, .slice q xs.length cp] ∧ SlB (allOf W) q cp 3 MailB xs) := (opens_all Tryz.underlying161 [(fun cs => ∃ x, IntR (allOf W) cs x), (fun cs => ∃ x, SliceB 3 MailB (allOf W) cs x)] (by kernel_rfl) ⟨op_i W, op_mails W, trivial⟩).mono (by
  rintro cs ⟨_, _, rfl, ⟨x0, rfl⟩, _, _, rfl, ⟨x1, q1, c1, rfl, h1⟩, rfl⟩
  exact ⟨x0, x1, q1, c1, rfl, h1⟩)
theorem op_folder {H : Type} {enc : TypeId × Value → H} (W : World) : OpensR enc Tryz.prog W 163 FolderB := (opens_all Tryz.underlying163 [(fun cs => ∃ x, StrB (allOf W) cs x), (fun cs => ∃ x, StrB (allOf W) cs x), (fun cs => ∃ x, SliceB 2 GrantB (allOf W) cs x), (fun cs => ∃ n xs q cp, cs = [.int .i64 n, .slice q xs.length cp] ∧ SlB (allOf W) q cp 3 MailB xs)] (by kernel_rfl) ⟨op_s W, op_s W, op_grants W, op_box W, trivial⟩).mono (by
  rintro cs ⟨_, _, rfl, ⟨x0, rfl, h0⟩, _, _, rfl, ⟨x1, rfl, h1⟩, _, _, rfl, ⟨x2, q2, c2, rfl, h2⟩, _, _, rfl, ⟨n3, x3, q3, c3, rfl, h3⟩, rfl⟩
  exact ⟨⟨x0, x1, x2, n3, x3⟩, q2, c2, q3, c3, rfl, h2, h3, h0, h1⟩)
theorem op_folders {H : Type} {enc : TypeId × Value → H} (W : World) : OpensR enc Tryz.prog W 49 (SliceB 5 FolderB) := opens_slice Tryz.underlying49 (by kernel_rfl) (of_decide_eq_true (by kernel_rfl)) (by decide) (op_folder W)
theorem op_ss {H : Type} {enc : TypeId × Value → H} (W : World) : OpensR enc Tryz.prog W 98 (SliceB 1 StrB) := opens_slice Tryz.underlying98 (by kernel_rfl) (of_decide_eq_true (by kernel_rfl)) (by decide) (op_s W)
theorem op_item {H : Type} {enc : TypeId × Value → H} (W : World) : OpensR enc Tryz.prog W 214 ItemB := (opens_all Tryz.underlying214 [(fun cs => ∃ x, IntR (allOf W) cs x), (fun cs => ∃ x, StrB (allOf W) cs x), (fun cs => ∃ x, StrB (allOf W) cs x), (fun cs => ∃ x, SliceB 1 StrB (allOf W) cs x)] (by kernel_rfl) ⟨op_i W, op_s W, op_s W, op_ss W, trivial⟩).mono (by
  rintro cs ⟨_, _, rfl, ⟨x0, rfl⟩, _, _, rfl, ⟨x1, rfl, h1⟩, _, _, rfl, ⟨x2, rfl, h2⟩, _, _, rfl, ⟨x3, q3, c3, rfl, h3⟩, rfl⟩
  exact ⟨⟨x0, x1, x2, x3⟩, q3, c3, rfl, h3, h1, h2⟩)
theorem op_items {H : Type} {enc : TypeId × Value → H} (W : World) : OpensR enc Tryz.prog W 50 (SliceB 4 ItemB) := opens_slice Tryz.underlying50 (by kernel_rfl) (of_decide_eq_true (by kernel_rfl)) (by decide) (op_item W)
theorem op_queue {H : Type} {enc : TypeId × Value → H} (W : World) : OpensP enc Tryz.prog W 52 (fun cs => ∃ n xs q cp, cs = [.int .i64 n, .slice q xs.length cp] ∧ SlB (allOf W) q cp 4 ItemB xs) := (opens_all Tryz.underlying52 [(fun cs => ∃ x, IntR (allOf W) cs x), (fun cs => ∃ x, SliceB 4 ItemB (allOf W) cs x)] (by kernel_rfl) ⟨op_i W, op_items W, trivial⟩).mono (by
  rintro cs ⟨_, _, rfl, ⟨x0, rfl⟩, _, _, rfl, ⟨x1, q1, c1, rfl, h1⟩, rfl⟩
  exact ⟨x0, x1, q1, c1, rfl, h1⟩)
theorem op_host {H : Type} {enc : TypeId × Value → H} (W : World) : OpensP enc Tryz.prog W 54 (fun cs => ∃ (x : DHost) (q1 q2 q3 : Option Addr) (c1 c2 c3 : Nat), cs = [str x.domain, .slice q1 x.users.length c1, .slice q2 x.folders.length c2, .int .i64 x.queue.next, .slice q3 x.queue.items.length c3] ∧ x.domain.length ≤ 140737488355328 ∧ SlB (allOf W) q1 c1 3 UserB x.users ∧ SlB (allOf W) q2 c2 5 FolderB x.folders ∧ SlB (allOf W) q3 c3 4 ItemB x.queue.items) := (opens_all Tryz.underlying54 [(fun cs => ∃ x, StrB (allOf W) cs x), (fun cs => ∃ x, SliceB 3 UserB (allOf W) cs x), (fun cs => ∃ x, SliceB 5 FolderB (allOf W) cs x), (fun cs => ∃ n xs q cp, cs = [.int .i64 n, .slice q xs.length cp] ∧ SlB (allOf W) q cp 4 ItemB xs)] (by kernel_rfl) ⟨op_s W, op_users W, op_folders W, op_queue W, trivial⟩).mono (by
  rintro cs ⟨_, _, rfl, ⟨x0, rfl, h0⟩, _, _, rfl, ⟨x1, q1, c1, rfl, h1⟩, _, _, rfl, ⟨x2, q2, c2, rfl, h2⟩, _, _, rfl, ⟨n3, x3, q3, c3, rfl, h3⟩, rfl⟩
  exact ⟨⟨x0, x1, x2, ⟨n3, x3⟩⟩, q1, q2, q3, c1, c2, c3, rfl, h0, h1, h2, h3⟩)
set_option maxRecDepth 100000 in
theorem fnExactSessionOpen_lifted (os : Os) (started : os.Started) (H : Type) (enc : TypeId × Value → H) :
    ReturnsInLeavingWide {} Tryz.checked os 6 .any (Rows.fnExactSessionOpenSpec.pre6 enc Tryz.prog Tryz.f6 Rows.fnExactSessionOpenRow.domain false) (Rows.fnExactSessionOpenSpec.post enc Tryz.prog Tryz.f6 false true false false) := by
  refine returnsInLeavingWide_of_change_sized (C := Tryz.checked) own started Tryz.func6 (ChangeSpec.witness6 (enc := enc) (C := Tryz.checked) false ⟨#[], #[.agg #[.string ⟨#[]⟩, .slice none 0 0, .slice none 0 0, .int .i64 0, .slice none 0 0], .string ⟨#[]⟩, .string ⟨#[]⟩], []⟩ 8 (by kernel_rfl) (by kernel_rfl) (by kernel_rfl) (by kernel_rfl)) ?_
  intro W base args ds gs before hval hW _ hwt _
  have hW' := hW
  obtain ⟨p, q, hA0, hV, rfl, hfz, hnd⟩ := hW
  have hA : DataW.TrodAll enc Tryz.prog W 0 (fun _ => true) true Tryz.f6.params.toList args.toList ds p := hA0
  obtain ⟨rfl, _⟩ := trodVars_none hV
  replace hval : ∀ (j : Nat) t v, Tryz.f6.params[j]? = some t → args[j]? = some v → Value.okWide Tryz.prog W .any base t v := hval
  replace hwt : (DataW.weightsEach Tryz.prog (Tryz.f6.params.toList ++ Rows.fnExactSessionOpenSpec.plain.varTypes Tryz.prog) (ds ++ [])).all (· ≤ reachBytes) = true := hwt
  rw [Tryz.params6] at hA hval hwt
  obtain ⟨v0, vs0, d0, ds0, p0, qq0, hargs, rfl, rfl, h0, r0⟩ := trodAll_cons hA
  obtain ⟨v1, vs1, d1, ds1, p1, qq1, rfl, rfl, rfl, h1, r1⟩ := trodAll_cons r0
  obtain ⟨v2, vs2, d2, ds2, p2, qq2, rfl, rfl, rfl, h2, r2⟩ := trodAll_cons r1
  obtain ⟨rfl, rfl, rfl⟩ := trodAll_nil r2
  obtain rfl : args = #[v0, v1, v2] := by cases args; simp_all
  have e0 := open_arg h0 (op_host W) (weigh hwt (i := 0) rfl rfl)
  obtain ⟨cs0, rfl, _⟩ := okWide_struct Tryz.underlying54 (hval 0 54 v0 rfl rfl)
  obtain ⟨x0, q01, q02, q03, c01, c02, c03, e0, hd0, hu0, hf0, hi0⟩ := e0
  obtain rfl : cs0 = #[str x0.domain, .slice q01 x0.users.length c01, .slice q02 x0.folders.length c02, .int .i64 x0.queue.next, .slice q03 x0.queue.items.length c03] := Array.ext' e0
  have e1 := open_arg h1 (op_s W) (weigh hwt (i := 1) rfl rfl)
  obtain ⟨s1, rfl⟩ := okWide_string Tryz.underlying9 (hval 1 9 v1 rfl rfl)
  obtain ⟨x1, e1, g1⟩ := e1
  obtain rfl : s1 = ⟨x1.toArray⟩ := Value.string.inj (List.cons.inj e1).1
  have e2 := open_arg h2 (op_s W) (weigh hwt (i := 2) rfl rfl)
  obtain ⟨s2, rfl⟩ := okWide_string Tryz.underlying9 (hval 2 9 v2 rfl rfl)
  obtain ⟨x2, e2, g2⟩ := e2
  obtain rfl : s2 = ⟨x2.toArray⟩ := Value.string.inj (List.cons.inj e2).1
  obtain ⟨code, hb, h⟩ := exSessOpen_w q01 q02 q03 c01 c02 c03 x0 hd0 x1 x2 g1 g2 (allOf W) hu0 hf0 hi0
  obtain ⟨M, last, o, w', t', r1, r2, r3, r4⟩ := runs_of 55 Tryz.func6 hb rfl rfl (by kernel_rfl) (Nat.le_of_ble_eq_true rfl) h
  exact ⟨M, last, o, w', t', r1, r2, r3, Conc.Good.mono r4 fun v ⟨hk, _, _, _, hv⟩ => by
    subst hv
    exact law_post (tb := 4) (by kernel_rfl) (by kernel_rfl) rfl Tryz.underlying4 rfl hW' (fun ds' gs' hg hl => by
      subst hg
      match ds', hl with
      | [_, _, _], _ => rfl) hk⟩
set_option maxRecDepth 100000 in
set_option maxHeartbeats 0 in
theorem fnExactSessionOpen_closed : joinedFacts Tryz.checked.prog 6 Tryz.f6 Rows.fnExactSessionOpenSpec Rows.fnExactSessionOpenRow = true := by
  unfold joinedFacts
  simp only [Bool.and_eq_true]
  repeat' apply And.intro
  all_goals (as_aux_lemma => kernel_rfl)
set_option maxRecDepth 100000 in
theorem fnExactSessionOpen_named : Tryz.checked.prog.funcNamed Rows.fnExactSessionOpenRow.func = some 6 := by kernel_rfl
set_option maxRecDepth 100000 in
theorem fnExactSessionOpen_proved : Rows.FnExactSessionOpenSaid :=
  OpenClaim.holds_of_wide_leaving 6 Tryz.f6 rfl rfl rfl rfl rfl rfl rfl ⟨rfl, rfl, rfl, rfl, rfl⟩ rfl rfl rfl rfl rfl fnExactSessionOpen_named Tryz.func6 fnExactSessionOpen_closed
    (of_decide_eq_true (by kernel_rfl)) (by unfold Func.isWrapper; first | (rw [if_pos (by decide +kernel)]; kernel_rfl) | (rw [if_neg (by decide +kernel)]; exact ⟨rfl, rfl⟩))
    (fun os started H enc _ => fnExactSessionOpen_lifted os started H enc)

end Go.Proofs.YtgbecfimpgknnaaGreat
