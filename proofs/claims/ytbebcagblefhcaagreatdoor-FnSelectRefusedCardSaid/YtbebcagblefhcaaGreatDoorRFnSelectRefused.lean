/-
  LAWS THAT RETURN TRUE FOR EVERY ARGUMENT, with goroutines started and awaited on the way, and the arguments read behind the call as they read before. Conditions: none beyond the given rows.
-/
import Derived.Test.YtbebcagblefhcaaGreatDoorC
import Derived.Test.YtbebcagblefhcaaGreatDoorT0
import Derived.Test.YtbebcagblefhcaaGreatDoorCards
import Derived.Test.YtbebcagblefhcaaGreatDoorTie
import Derived.Conc.Holds
import Derived.Conc.LeavingOf
import Derived.KernelRfl
namespace Go.Proofs.YtbebcagblefhcaaGreatDoor
open Go.BL
open Go.ChangeShapes Go.WideShapes Go.ChangeAt Go.RowKit
set_option linter.unusedVariables false
theorem own : ownKnob Tryz.prog.godebug = none := by kernel_rfl
theorem Zrj : "*" ++ "errors.errorString" = "*errors.errorString" := by decide
theorem Zww (u : TypeId) (h : Tryz.prog.typeName? 3 u = some "*errors.errorString") : u = 372 :=
  typeName_ptr_named (nm := "errors.errorString") (by rw [Zrj]; kernel_rfl) (by kernel_rfl) (by decide) u (by rw [Zrj]; exact h)

theorem Zf4 (os : Os) (args : Array Value) : laidMetH Tryz.prog Rows.fnSelectRefusedRow.laid ((World.doorLaid Tryz.prog 85 os).forCall (fun _ _ => 0) ⟨#[], args, []⟩).memory :=
  laidMetH_of_parts3 (fuel := 8) (laidMet_of_run' 8 (by kernel_rfl) (by kernel_rfl)) (by kernel_rfl) (by kernel_rfl)
set_option maxRecDepth 100000 in
theorem fnSelectRefused_lifted (os : Os) (started : os.Started) (H : Type) (enc : TypeId × Value → H) :
    ReturnsInLeavingWide { calm := true } Tryz.checked os 6 .any (fun w args => (Rows.fnSelectRefusedSpec.pre enc Tryz.prog Tryz.f6 Rows.fnSelectRefusedRow.domain false w args ∧ laidMetH Tryz.prog Rows.fnSelectRefusedRow.laid w) ∧ sizedMet enc Tryz.prog Tryz.f6 (OpenSpec.ofChange Rows.fnSelectRefusedSpec) false w args) (Rows.fnSelectRefusedSpec.post enc Tryz.prog Tryz.f6 false true false false) := by
  refine Zlw (C := Tryz.checked) own started Tryz.func6 (wit_calm (enc := enc) (C := Tryz.checked) (os := os) (X := fun w _ => laidMetH Tryz.prog Rows.fnSelectRefusedRow.laid w) (World.doorLaid Tryz.prog 85 os) #[.slice none 0 0] 8 rfl (World.shaped_of_RefB (by kernel_rfl) (by kernel_rfl)) (by kernel_rfl) (by kernel_rfl) (by kernel_rfl) (Zf4 os _)) ?_
  intro W base args ds gs before hval hW hwt hL
  have hW' := hW
  obtain ⟨p, q, hA0, hV, rfl, hfz, hnd⟩ := hW
  have hA : DataW.TrodAll enc Tryz.prog W 0 (fun _ => true) true Tryz.f6.params.toList args.toList ds p := hA0
  replace hval : ∀ (j : Nat) t v, Tryz.f6.params[j]? = some t → args[j]? = some v → Value.okWide Tryz.prog W .any base t v := hval
  replace hwt : (DataW.weightsEach Tryz.prog (Tryz.f6.params.toList ++ Rows.fnSelectRefusedSpec.plain.varTypes Tryz.prog) (ds ++ gs)).all (· ≤ reachBytes) = true := hwt
  rw [Tryz.params6] at hA hval hwt
  obtain ⟨v0, vs0, d0, ds0, p0, qq0, hargs, rfl, rfl, h0, r0⟩ := trodAll_cons hA
  obtain ⟨rfl, rfl, rfl⟩ := trodAll_nil r0
  obtain rfl : args = #[v0] := by cases args; simp_all
  obtain ⟨q0, m0, c0, rfl, hm0, hb0⟩ := ZoU (hval 0 66 v0 rfl rfl) Tryz.underlying66 Tryz.underlying5 (by kernel_rfl) h0
  rw [MakeChecks.laidMetH_plain _ _ _ (by kernel_rfl)] at hL
  obtain ⟨a, hE⟩ := Zri hL (by kernel_rfl) (by kernel_rfl) (by kernel_rfl) (by kernel_rfl) (by kernel_rfl) (by kernel_rfl) (by kernel_rfl) (by kernel_rfl) Tryz.underlying100 Zww Tryz.underlying372 Tryz.underlying397 rfl rfl Tryz.underlying9 (by kernel_rfl) (by kernel_rfl)
  obtain ⟨code, hb, h⟩ := Zpm q0 m0 c0 hm0 (Zml W) hb0 a hE
  obtain ⟨M, last, o, w', t', r1, r2, r3, r4⟩ := Zuq 83 Tryz.func6 hb rfl rfl (by kernel_rfl) (Nat.le_of_ble_eq_true rfl) h
  exact ⟨M, last, o, w', t', r1, r2, r3, Conc.Good.mono r4 fun v ⟨hk, _, _, _, hv⟩ => by
    subst hv
    exact ZqL (tb := 4) (by kernel_rfl) (by kernel_rfl) rfl Tryz.underlying4 (Zmy (by kernel_rfl)) hW' (fun ds' gs' hg hl => by
      match ds', gs', hl, hg with
      | [_], [_, _, _, _], _, _ => rfl) hk⟩
set_option maxRecDepth 100000 in
set_option maxHeartbeats 0 in
theorem fnSelectRefused_closed : joinedFacts Tryz.checked.prog 6 Tryz.f6 Rows.fnSelectRefusedSpec Rows.fnSelectRefusedRow = true := by
  unfold joinedFacts
  simp only [Bool.and_eq_true]
  repeat' apply And.intro
  all_goals (as_aux_lemma => kernel_rfl)
set_option maxRecDepth 100000 in
theorem fnSelectRefused_named : Tryz.checked.prog.funcNamed Rows.fnSelectRefusedRow.func = some 6 := by kernel_rfl
set_option maxRecDepth 100000 in
theorem ZfB : Rows.FnSelectRefusedSaid :=
  OpenClaim.holds_of_wide_leaving_time 6 Tryz.f6 rfl rfl rfl rfl rfl rfl rfl ⟨rfl, rfl, rfl, rfl, rfl⟩ rfl rfl rfl rfl rfl fnSelectRefused_named Tryz.func6 fnSelectRefused_closed
    (of_decide_eq_true (by kernel_rfl)) (by unfold Func.isWrapper; first | (rw [if_pos (by decide +kernel)]; kernel_rfl) | (rw [if_neg (by decide +kernel)]; exact ⟨rfl, rfl⟩))
    (fun os started H enc _ _ => lifted_time (fnSelectRefused_lifted os started H enc))
set_option maxRecDepth 100000 in
theorem fnSelectRefused_proved : Rows.FnSelectRefusedCardSaid :=
  ZrB .later [.sentinel, .sentinel, .sentinel, .sentinel] true (true, "ddc048b8b3cdc1dbb38a7027cc1c01fc0334811876da9a1543f79410ff9c2085") true ZfB (by kernel_rfl) fnSelectRefused_row_tie rfl ⟨rfl, rfl⟩ (by kernel_rfl) rfl
    (fun f fn hf hfn => by
      obtain rfl : f = 6 := Option.some.inj (fnSelectRefused_named.symm.trans hf) |>.symm
      obtain rfl : fn = Tryz.f6 := (Option.some.inj (Tryz.func6.symm.trans hfn)).symm
      exact ⟨by kernel_rfl, fun j t ht => Zsj (by kernel_rfl) ht⟩)
    (by kernel_rfl)

end Go.Proofs.YtbebcagblefhcaaGreatDoor
