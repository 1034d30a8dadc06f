/-
  LAWS THAT RETURN TRUE FOR EVERY ARGUMENT, with goroutines started and awaited on the way, and the arguments read behind the call as they read before. Conditions: none beyond the given rows.
-/
import Derived.Test.YtpdpnilbhlojbaaC
import Derived.Conc.Holds
import Derived.Conc.LeavingOf
import Derived.KernelRfl
namespace Go.Proofs.Ytpdpnilbhlojbaa
open Go.BL
open Go.ChangeShapes Go.WideShapes Go.ChangeAt Go.RowKit
set_option linter.unusedVariables false
theorem own : ownKnob Try.prog.godebug = none := by kernel_rfl
theorem ZlC {H : Type} {enc : TypeId × Value → H} (W : World) : ZcX enc Try.prog W 9 ZjX := ZhX Try.underlying9
theorem Zmc {H : Type} {enc : TypeId × Value → H} (W : World) : ZcX enc Try.prog W 3 Zjv := ZhY Try.underlying3
theorem Zkj {H : Type} {enc : TypeId × Value → H} (W : World) : ZcX enc Try.prog W 84 Zgo := (ZhZ Try.underlying84 [(fun cs => ∃ x, ZjX (Zc1 W) cs x), (fun cs => ∃ x, ZjX (Zc1 W) cs x), (fun cs => ∃ x, Zjv (Zc1 W) cs x)] (by kernel_rfl) ⟨ZlC W, ZlC W, Zmc W, trivial⟩).mono (by
  rintro cs ⟨_, _, rfl, ⟨x0, rfl, h0⟩, _, _, rfl, ⟨x1, rfl, h1⟩, _, _, rfl, ⟨x2, rfl⟩, rfl⟩
  exact ⟨⟨x0, x1, x2⟩, rfl, h0, h1⟩)
theorem ZiW {H : Type} {enc : TypeId × Value → H} (W : World) : ZcX enc Try.prog W 46 (ZjY 3 Zgo) := ZfR Try.underlying46 (by kernel_rfl) (of_decide_eq_true (by kernel_rfl)) (by decide) (Zkj W)
set_option maxRecDepth 100000 in
theorem fnExactHostNew_lifted (os : Os) (started : os.Started) (H : Type) (enc : TypeId × Value → H) :
    ReturnsInHanded {} Try.checked os 5 .any (Rows.fnExactHostNewSpec.pre6 enc Try.prog Try.f5 Rows.fnExactHostNewRow.domain false) (Rows.fnExactHostNewSpec.post enc Try.prog Try.f5 false true false false) := by
  refine returnsInHanded_of_change_sized (C := Try.checked) own started (by kernel_rfl) Try.func5 (ChangeSpec.witness6 (enc := enc) (C := Try.checked) false ⟨#[], #[.string ⟨#[]⟩, .slice none 0 0], []⟩ 8 (by kernel_rfl) (by kernel_rfl) (by kernel_rfl) (by kernel_rfl)) ?_
  intro W base args ds gs before hval hW _ hwt _
  have hW' := hW
  obtain ⟨p, q, hA0, hV, rfl, hfz, hnd⟩ := hW
  have hA : DataW.TrodAll enc Try.prog W 0 (fun _ => true) true Try.f5.params.toList args.toList ds p := hA0
  obtain ⟨rfl, _⟩ := trodVars_none hV
  replace hval : ∀ (j : Nat) t v, Try.f5.params[j]? = some t → args[j]? = some v → Value.okWide Try.prog W .any base t v := hval
  replace hwt : (DataW.weightsEach Try.prog (Try.f5.params.toList ++ Rows.fnExactHostNewSpec.plain.varTypes Try.prog) (ds ++ [])).all (· ≤ reachBytes) = true := hwt
  rw [Try.params5] at hA hval hwt
  obtain ⟨v0, vs0, d0, ds0, p0, qq0, hargs, rfl, rfl, h0, r0⟩ := trodAll_cons hA
  obtain ⟨v1, vs1, d1, ds1, p1, qq1, rfl, rfl, rfl, h1, r1⟩ := trodAll_cons r0
  obtain ⟨rfl, rfl, rfl⟩ := trodAll_nil r1
  obtain rfl : args = #[v0, v1] := by cases args; simp_all
  have e0 := ZgC h0 (ZlC W) (weigh hwt (i := 0) rfl rfl)
  obtain ⟨s0, rfl⟩ := okWide_string Try.underlying9 (hval 0 9 v0 rfl rfl)
  obtain ⟨x0, e0, g0⟩ := e0
  obtain rfl : s0 = ⟨x0.toArray⟩ := Value.string.inj (List.cons.inj e0).1
  have e1 := ZgC h1 (ZiW W) (weigh hwt (i := 1) rfl rfl)
  obtain ⟨aa1, ll1, cc1, rfl⟩ := okWide_slice Try.underlying46 (hval 1 46 v1 rfl rfl)
  obtain ⟨x1, q1, c1, e1, hs1⟩ := e1
  obtain ⟨rfl, rfl, rfl⟩ := Value.slice.inj (List.cons.inj e1).1
  refine Calls.mono (Zf9 W x0 _ _ x1 g0 hs1) fun e W' ⟨v, he, hk, _, _, _, hv⟩ => ?_
  subst he hv
  exact ⟨_, rfl, Zi1 (tb := 4) (by kernel_rfl) (by kernel_rfl) rfl Try.underlying4 rfl hW' (fun ds' gs' hg hl => by
    subst hg
    match ds', hl with
    | [_, _], _ => rfl) hk⟩
theorem fnExactHostNew_proved : Rows.FnExactHostNewSaid :=
  OpenClaim.holds_of_wide 5 Try.f5 rfl rfl rfl rfl rfl rfl rfl ⟨rfl, rfl, rfl, rfl, rfl⟩ rfl rfl rfl rfl rfl (by kernel_rfl) Try.func5 (by kernel_rfl)
    (of_decide_eq_true (by kernel_rfl)) (by unfold Func.isWrapper; first | (rw [if_pos (by decide +kernel)]; kernel_rfl) | (rw [if_neg (by decide +kernel)]; exact ⟨rfl, rfl⟩))
    (fun os started H enc _ => fnExactHostNew_lifted os started H enc)

end Go.Proofs.Ytpdpnilbhlojbaa
