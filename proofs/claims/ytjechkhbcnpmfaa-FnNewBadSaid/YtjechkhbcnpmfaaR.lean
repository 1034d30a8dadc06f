/-
  LAWS THAT RETURN TRUE FOR EVERY ARGUMENT, and the arguments read behind the call as they read before. Conditions: none beyond the given rows.
-/
import Derived.Test.YtjechkhbcnpmfaaRows
import Derived.KernelRfl
import Derived.Handed
import Derived.JoinedOf
import Derived.Test.YtjechkhbcnpmfaaC
namespace Go.Proofs.Ytjechkhbcnpmfaa
open Go.BL
open Go.ChangeShapes Go.WideShapes Go.ChangeAt Go.RowKit
set_option linter.unusedVariables false
theorem own : ownKnob Try.prog.godebug = none := by kernel_rfl
set_option maxRecDepth 100000 in
/-- The law's row. -/
theorem fnNewBad_contract (H : Type) (enc : TypeId × Value → H) (W : World) (base : Nat) (args : Array Value) (ds gs : List (DataW H)) (before : List MemPlace)
    (hval : ∀ (j : Nat) t v, Try.f3.params[j]? = some t → args[j]? = some v → Value.okWide Try.prog W .any base t v)
    (hW : DataW.Whole enc Try.prog Try.f3.params.toList Rows.fnNewBadSpec.vars false W args.toList ds gs before) :
    Calls Try.prog 3 args W fun e W' => ∃ v, e = .returned v ∧ Rows.fnNewBadSpec.post enc Try.prog Try.f3 false true false false W args v W' := by
  have hW' := hW
  obtain ⟨p, q, hA0, hV, rfl, hfz, hnd⟩ := hW
  have hA : DataW.TrodAll enc Try.prog W 0 (fun _ => true) true Try.f3.params.toList args.toList ds p := hA0
  rw [Try.params3] at hA hval
  obtain ⟨v0, vs0, d0, ds0, p0, qq0, hargs, rfl, rfl, h0, r0⟩ := trodAll_cons hA
  obtain ⟨rfl, rfl, rfl⟩ := trodAll_nil r0
  obtain rfl : args = #[v0] := by cases args; simp_all
  obtain ⟨q0, m0, c0, rfl, hm0, hb0⟩ := open_bytes (hval 0 22 v0 rfl rfl) Try.underlying22 Try.underlying5 (by kernel_rfl) h0
  refine Calls.mono (fnNewBad_w W _ _ _ hm0 hb0) fun e W' ⟨v, he, hk, _, _, _, hv⟩ => ?_
  subst he hv
  exact ⟨_, rfl, law_post (tb := 4) (by kernel_rfl) (by kernel_rfl) rfl Try.underlying4 rfl hW' (fun ds' gs' hg hl => by
    subst hg
    match ds', hl with
    | [_], _ => rfl) hk⟩

set_option maxRecDepth 100000 in
theorem fnNewBad_lifted (os : Os) (started : os.Started) (H : Type) (enc : TypeId × Value → H) :
    ReturnsInHanded {} Try.checked os 3 .any (Rows.fnNewBadSpec.pre6 enc Try.prog Try.f3 Rows.fnNewBadRow.domain false) (Rows.fnNewBadSpec.post enc Try.prog Try.f3 false true false false) := by
  refine returnsInHanded_of_change (C := Try.checked) own started (by kernel_rfl) Try.func3
    (ChangeSpec.witness6 (enc := enc) (C := Try.checked) false ⟨#[], #[.slice none 0 0], []⟩ 8 (by kernel_rfl) (by kernel_rfl) (by kernel_rfl) (by kernel_rfl)) ?_
  intro W base args ds gs before hval hW _ _
  exact fnNewBad_contract H enc W base args ds gs before hval hW

theorem fnNewBad_proved : Rows.FnNewBadSaid :=
  OpenClaim.holds_of_wide 3 Try.f3 rfl rfl rfl rfl rfl rfl rfl ⟨rfl, rfl, rfl, rfl, rfl⟩ rfl rfl rfl rfl rfl (by kernel_rfl) Try.func3 (by kernel_rfl)
    (of_decide_eq_true (by kernel_rfl)) (by unfold Func.isWrapper; first | (rw [if_pos (by decide +kernel)]; kernel_rfl) | (rw [if_neg (by decide +kernel)]; exact ⟨rfl, rfl⟩))
    (fun os started H enc _ => fnNewBad_lifted os started H enc)
end Go.Proofs.Ytjechkhbcnpmfaa
