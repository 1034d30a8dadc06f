/-
  LAWS THAT RETURN TRUE FOR EVERY ARGUMENT, with goroutines started and awaited on the way, and the arguments read behind the call as they read before. Conditions: none beyond the given rows.
-/
import Derived.Test.YtkgobijihcfikaaGreatC
import Derived.Conc.Holds
import Derived.Conc.LeavingOf
import Derived.KernelRfl
namespace Go.Proofs.YtkgobijihcfikaaGreat
open Go.BL
open Go.ChangeShapes Go.WideShapes Go.ChangeAt Go.RowKit
set_option linter.unusedVariables false
theorem own : ownKnob Tryz.prog.godebug = none := by kernel_rfl
set_option maxRecDepth 100000 in
theorem fnList_lifted (os : Os) (started : os.Started) (H : Type) (enc : TypeId × Value → H) :
    ReturnsInLeavingWide {} Tryz.checked os 5 .any (Rows.fnListSpec.pre6 enc Tryz.prog Tryz.f5 Rows.fnListRow.domain false) (Rows.fnListSpec.post enc Tryz.prog Tryz.f5 false true false false) := by
  refine returnsInLeavingWide_of_change_sized (C := Tryz.checked) own started Tryz.func5 (ChangeSpec.witness6 (enc := enc) (C := Tryz.checked) false ⟨#[], #[.slice none 0 0], []⟩ 8 (by kernel_rfl) (by kernel_rfl) (by kernel_rfl) (by kernel_rfl)) ?_
  intro W base args ds gs before hval hW _ hwt _
  have hW' := hW
  obtain ⟨p, q, hA0, hV, rfl, hfz, hnd⟩ := hW
  have hA : DataW.TrodAll enc Tryz.prog W 0 (fun _ => true) true Tryz.f5.params.toList args.toList ds p := hA0
  obtain ⟨rfl, _⟩ := trodVars_none hV
  replace hval : ∀ (j : Nat) t v, Tryz.f5.params[j]? = some t → args[j]? = some v → Value.okWide Tryz.prog W .any base t v := hval
  replace hwt : (DataW.weightsEach Tryz.prog (Tryz.f5.params.toList ++ Rows.fnListSpec.plain.varTypes Tryz.prog) (ds ++ [])).all (· ≤ reachBytes) = true := hwt
  rw [Tryz.params5] at hA hval hwt
  obtain ⟨v0, vs0, d0, ds0, p0, qq0, hargs, rfl, rfl, h0, r0⟩ := trodAll_cons hA
  obtain ⟨rfl, rfl, rfl⟩ := trodAll_nil r0
  obtain rfl : args = #[v0] := by cases args; simp_all
  obtain ⟨q0, m0, c0, rfl, hm0, hb0⟩ := Zfg (hval 0 22 v0 rfl rfl) Tryz.underlying22 Tryz.underlying5 (by kernel_rfl) h0
  obtain ⟨code, hb, h⟩ := Zsh q0 m0 c0 hm0 (ZkF W) hb0
  obtain ⟨M, last, o, w', t', r1, r2, r3, r4⟩ := Zj4 79 Tryz.func5 hb rfl rfl (by kernel_rfl) (Nat.le_of_ble_eq_true rfl) h
  exact ⟨M, last, o, w', t', r1, r2, r3, Conc.Good.mono r4 fun v ⟨hk, _, _, _, hv⟩ => by
    subst hv
    exact ZhB (tb := 4) (by kernel_rfl) (by kernel_rfl) rfl Tryz.underlying4 rfl hW' (fun ds' gs' hg hl => by
      subst hg
      match ds', hl with
      | [_], _ => rfl) hk⟩
set_option maxRecDepth 100000 in
set_option maxHeartbeats 0 in
theorem fnList_closed : joinedFacts Tryz.checked.prog 5 Tryz.f5 Rows.fnListSpec Rows.fnListRow = true := by
  unfold joinedFacts
  simp only [Bool.and_eq_true]
  repeat' apply And.intro
  all_goals (as_aux_lemma => kernel_rfl)
set_option maxRecDepth 100000 in
theorem fnList_named : Tryz.checked.prog.funcNamed Rows.fnListRow.func = some 5 := by kernel_rfl
set_option maxRecDepth 100000 in
theorem fnList_proved : Rows.FnListSaid :=
  OpenClaim.holds_of_wide_leaving 5 Tryz.f5 rfl rfl rfl rfl rfl rfl rfl ⟨rfl, rfl, rfl, rfl, rfl⟩ rfl rfl rfl rfl rfl fnList_named Tryz.func5 fnList_closed
    (of_decide_eq_true (by kernel_rfl)) (by unfold Func.isWrapper; first | (rw [if_pos (by decide +kernel)]; kernel_rfl) | (rw [if_neg (by decide +kernel)]; exact ⟨rfl, rfl⟩))
    (fun os started H enc _ => fnList_lifted os started H enc)

end Go.Proofs.YtkgobijihcfikaaGreat
