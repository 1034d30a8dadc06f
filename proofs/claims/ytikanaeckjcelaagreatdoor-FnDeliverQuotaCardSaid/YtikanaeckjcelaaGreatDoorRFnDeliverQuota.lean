/-
  LAWS THAT RETURN TRUE FOR EVERY ARGUMENT, with goroutines started and awaited on the way, and the arguments read behind the call as they read before. Conditions: none beyond the given rows.
-/
import Derived.Test.YtikanaeckjcelaaGreatDoorC
import Derived.Test.YtikanaeckjcelaaGreatDoorCards
import Derived.Test.YtikanaeckjcelaaGreatDoorTie
import Derived.Conc.Holds
import Derived.Conc.LeavingOf
import Derived.KernelRfl
namespace Go.Proofs.YtikanaeckjcelaaGreatDoor
open Go.BL
open Go.ChangeShapes Go.WideShapes Go.ChangeAt Go.RowKit
set_option linter.unusedVariables false
theorem own : ownKnob Tryz.prog.godebug = none := by kernel_rfl
theorem Zfv : "*" ++ "errors.errorString" = "*errors.errorString" := by decide
theorem ZmJ (u : TypeId) (h : Tryz.prog.typeName? 3 u = some "*errors.errorString") : u = 264 :=
  typeName_ptr_named (nm := "errors.errorString") (by rw [Zfv]; kernel_rfl) (by kernel_rfl) (by decide) u (by rw [Zfv]; exact h)

theorem Zg2 (os : Os) (args : Array Value) : laidMetH Tryz.prog Rows.fnDeliverQuotaRow.laid ((World.doorLaid Tryz.prog 85 os).forCall (fun _ _ => 0) ⟨#[], args, []⟩).memory :=
  laidMetH_of_parts3 (fuel := 8) (laidMet_of_run' 8 (by kernel_rfl) (by kernel_rfl)) (by kernel_rfl) (by kernel_rfl)
set_option maxRecDepth 100000 in
theorem fnDeliverQuota_lifted (os : Os) (started : os.Started) (H : Type) (enc : TypeId × Value → H) :
    ReturnsInLeavingWide {} Tryz.checked os 5 .any (fun w args => (Rows.fnDeliverQuotaSpec.pre enc Tryz.prog Tryz.f5 Rows.fnDeliverQuotaRow.domain false w args ∧ laidMetH Tryz.prog Rows.fnDeliverQuotaRow.laid w) ∧ sizedMet enc Tryz.prog Tryz.f5 (OpenSpec.ofChange Rows.fnDeliverQuotaSpec) false w args) (Rows.fnDeliverQuotaSpec.post enc Tryz.prog Tryz.f5 false true false false) := by
  refine Zfg (C := Tryz.checked) own started Tryz.func5 (ChangeSpec.witness_shaped (enc := enc) (C := Tryz.checked) (os := os) (X := fun w _ => laidMetH Tryz.prog Rows.fnDeliverQuotaRow.laid w) false (World.doorLaid Tryz.prog 85 os) #[.slice none 0 0] 8 rfl (World.shaped_of_RefB (by kernel_rfl) (by kernel_rfl)) (by kernel_rfl) (by kernel_rfl) (by kernel_rfl) (Zg2 os _)) ?_
  intro W base args ds gs before hval hW hwt hL
  have hW' := hW
  obtain ⟨p, q, hA0, hV, rfl, hfz, hnd⟩ := hW
  have hA : DataW.TrodAll enc Tryz.prog W 0 (fun _ => true) true Tryz.f5.params.toList args.toList ds p := hA0
  replace hval : ∀ (j : Nat) t v, Tryz.f5.params[j]? = some t → args[j]? = some v → Value.okWide Tryz.prog W .any base t v := hval
  replace hwt : (DataW.weightsEach Tryz.prog (Tryz.f5.params.toList ++ Rows.fnDeliverQuotaSpec.plain.varTypes Tryz.prog) (ds ++ gs)).all (· ≤ reachBytes) = true := hwt
  rw [Tryz.params5] at hA hval hwt
  obtain ⟨v0, vs0, d0, ds0, p0, qq0, hargs, rfl, rfl, h0, r0⟩ := trodAll_cons hA
  obtain ⟨rfl, rfl, rfl⟩ := trodAll_nil r0
  obtain rfl : args = #[v0] := by cases args; simp_all
  obtain ⟨q0, m0, c0, rfl, hm0, hb0⟩ := Zhk (hval 0 22 v0 rfl rfl) Tryz.underlying22 Tryz.underlying5 (by kernel_rfl) h0
  rw [MakeChecks.laidMetH_plain _ _ _ (by kernel_rfl)] at hL
  obtain ⟨a, hE⟩ := ZjC hL (by kernel_rfl) (by kernel_rfl) (by kernel_rfl) (by kernel_rfl) (by kernel_rfl) (by kernel_rfl) (by kernel_rfl) (by kernel_rfl) Tryz.underlying69 ZmJ Tryz.underlying264 Tryz.underlying289 rfl rfl Tryz.underlying9 (by kernel_rfl) (by kernel_rfl)
  obtain ⟨code, hb, h⟩ := ZpR q0 m0 c0 hm0 (Zj6 W) hb0 a hE
  obtain ⟨M, last, o, w', t', r1, r2, r3, r4⟩ := Znk 94 Tryz.func5 hb rfl rfl (by kernel_rfl) (Nat.le_of_ble_eq_true rfl) h
  exact ⟨M, last, o, w', t', r1, r2, r3, Conc.Good.mono r4 fun v ⟨hk, _, _, _, hv⟩ => by
    subst hv
    exact Zi2 (tb := 4) (by kernel_rfl) (by kernel_rfl) rfl Tryz.underlying4 (Zf3 (by kernel_rfl)) hW' (fun ds' gs' hg hl => by
      match ds', gs', hl, hg with
      | [_], [_, _, _, _], _, _ => rfl) hk⟩
set_option maxRecDepth 100000 in
set_option maxHeartbeats 0 in
theorem fnDeliverQuota_closed : joinedFacts Tryz.checked.prog 5 Tryz.f5 Rows.fnDeliverQuotaSpec Rows.fnDeliverQuotaRow = true := by
  unfold joinedFacts
  simp only [Bool.and_eq_true]
  repeat' apply And.intro
  all_goals (as_aux_lemma => kernel_rfl)
set_option maxRecDepth 100000 in
theorem fnDeliverQuota_named : Tryz.checked.prog.funcNamed Rows.fnDeliverQuotaRow.func = some 5 := by kernel_rfl
set_option maxRecDepth 100000 in
theorem Zgn : Rows.FnDeliverQuotaSaid :=
  OpenClaim.holds_of_wide_leaving 5 Tryz.f5 rfl rfl rfl rfl rfl rfl rfl ⟨rfl, rfl, rfl, rfl, rfl⟩ rfl rfl rfl rfl rfl fnDeliverQuota_named Tryz.func5 fnDeliverQuota_closed
    (of_decide_eq_true (by kernel_rfl)) (by unfold Func.isWrapper; first | (rw [if_pos (by decide +kernel)]; kernel_rfl) | (rw [if_neg (by decide +kernel)]; exact ⟨rfl, rfl⟩))
    (fun os started H enc _ => fnDeliverQuota_lifted os started H enc)
set_option maxRecDepth 100000 in
theorem fnDeliverQuota_proved : Rows.FnDeliverQuotaCardSaid :=
  ZjP .later [.sentinel, .sentinel, .sentinel, .sentinel] true (true, "6580161742134e2c35af6d49de9e71d60f4b19a8893889a4061e5aeb27e4ed38") true Zgn (by kernel_rfl) fnDeliverQuota_row_tie rfl ⟨rfl, rfl⟩ (by kernel_rfl) rfl
    (fun f fn hf hfn => by
      obtain rfl : f = 5 := Option.some.inj (fnDeliverQuota_named.symm.trans hf) |>.symm
      obtain rfl : fn = Tryz.f5 := (Option.some.inj (Tryz.func5.symm.trans hfn)).symm
      exact ⟨by kernel_rfl, fun j t ht => ZkV (by kernel_rfl) ht⟩)
    (by kernel_rfl)

end Go.Proofs.YtikanaeckjcelaaGreatDoor
