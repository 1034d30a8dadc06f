/-
  LAWS THAT RETURN TRUE FOR EVERY ARGUMENT, with goroutines started and awaited on the way, and the arguments read behind the call as they read before. Conditions: none beyond the given rows.
-/
import Derived.Test.YtpdpnilbhlojbaaC
import Derived.Conc.Holds
import Derived.Conc.LeavingOf
import Derived.KernelRfl
namespace Go.Proofs.Ytpdpnilbhlojbaa
open Go.BL
open Go.ChangeShapes Go.WideShapes Go.ChangeAt Go.RowKit
set_option linter.unusedVariables false
theorem own : ownKnob Try.prog.godebug = none := by kernel_rfl
theorem Zlg {H : Type} {enc : TypeId × Value → H} (W : World) : ZbE enc Try.prog W 3 Zb2 := Zfy Try.underlying3
theorem ZiP {H : Type} {enc : TypeId × Value → H} (W : World) : ZbE enc Try.prog W 9 ZdM := Zfx Try.underlying9
theorem Zja {H : Type} {enc : TypeId × Value → H} (W : World) : ZbE enc Try.prog W 35 (ZcB 1 ZdM) := ZbY Try.underlying35 (by kernel_rfl) (of_decide_eq_true (by kernel_rfl)) (by decide) (ZiP W)
theorem Zf7 {H : Type} {enc : TypeId × Value → H} (W : World) : ZbE enc Try.prog W 102 ZcP := (Zca Try.underlying102 [(fun cs => ∃ x, Zb2 (ZaT W) cs x), (fun cs => ∃ x, ZdM (ZaT W) cs x), (fun cs => ∃ x, ZdM (ZaT W) cs x), (fun cs => ∃ x, ZcB 1 ZdM (ZaT W) cs x)] (by kernel_rfl) ⟨Zlg W, ZiP W, ZiP W, Zja W, trivial⟩).mono (by
  rintro cs ⟨_, _, rfl, ⟨x0, rfl⟩, _, _, rfl, ⟨x1, rfl, h1⟩, _, _, rfl, ⟨x2, rfl, h2⟩, _, _, rfl, ⟨x3, q3, c3, rfl, h3⟩, rfl⟩
  exact ⟨⟨x0, x1, x2, x3⟩, q3, c3, rfl, h3, h1, h2⟩)
theorem Ze2 {H : Type} {enc : TypeId × Value → H} (W : World) : ZbE enc Try.prog W 22 (ZcB 4 ZcP) := ZbY Try.underlying22 (by kernel_rfl) (of_decide_eq_true (by kernel_rfl)) (by decide) (Zf7 W)
theorem Ze1 {H : Type} {enc : TypeId × Value → H} (W : World) : ZbP enc Try.prog W 24 (fun cs => ∃ n xs q cp, cs = [.int .i64 n, .slice q xs.length cp] ∧ SlB (ZaT W) q cp 4 ZcP xs) := (Zca Try.underlying24 [(fun cs => ∃ x, Zb2 (ZaT W) cs x), (fun cs => ∃ x, ZcB 4 ZcP (ZaT W) cs x)] (by kernel_rfl) ⟨Zlg W, Ze2 W, trivial⟩).mono (by
  rintro cs ⟨_, _, rfl, ⟨x0, rfl⟩, _, _, rfl, ⟨x1, q1, c1, rfl, h1⟩, rfl⟩
  exact ⟨x0, x1, q1, c1, rfl, h1⟩)
theorem Zh4 {H : Type} {enc : TypeId × Value → H} (W : World) : ZbP enc Try.prog W 37 (fun cs => ∃ (x : DLetter) (q : Option Addr) (cp : Nat), cs = [str x.fr, .slice q x.to_.length cp, str x.text] ∧ x.fr.length ≤ 140737488355328 ∧ x.text.length ≤ 140737488355328 ∧ SlB (ZaT W) q cp 1 ZdM x.to_) := (Zca Try.underlying37 [(fun cs => ∃ x, ZdM (ZaT W) cs x), (fun cs => ∃ x, ZcB 1 ZdM (ZaT W) cs x), (fun cs => ∃ x, ZdM (ZaT W) cs x)] (by kernel_rfl) ⟨ZiP W, Zja W, ZiP W, trivial⟩).mono (by
  rintro cs ⟨_, _, rfl, ⟨x0, rfl, h0⟩, _, _, rfl, ⟨x1, q1, c1, rfl, h1⟩, _, _, rfl, ⟨x2, rfl, h2⟩, rfl⟩
  exact ⟨⟨x0, x1, x2⟩, q1, c1, rfl, h0, h2, h1⟩)
set_option maxRecDepth 100000 in
theorem fnExactQueueAdd_lifted (os : Os) (started : os.Started) (H : Type) (enc : TypeId × Value → H) :
    ReturnsInHanded {} Try.checked os 4 .any (Rows.fnExactQueueAddSpec.pre6 enc Try.prog Try.f4 Rows.fnExactQueueAddRow.domain false) (Rows.fnExactQueueAddSpec.post enc Try.prog Try.f4 false true false false) := by
  refine returnsInHanded_of_change_sized (C := Try.checked) own started (by kernel_rfl) Try.func4 (ChangeSpec.witness6 (enc := enc) (C := Try.checked) false ⟨#[], #[.agg #[.int .i64 0, .slice none 0 0], .agg #[.string ⟨#[]⟩, .slice none 0 0, .string ⟨#[]⟩]], []⟩ 8 (by kernel_rfl) (by kernel_rfl) (by kernel_rfl) (by kernel_rfl)) ?_
  intro W base args ds gs before hval hW _ hwt _
  have hW' := hW
  obtain ⟨p, q, hA0, hV, rfl, hfz, hnd⟩ := hW
  have hA : DataW.TrodAll enc Try.prog W 0 (fun _ => true) true Try.f4.params.toList args.toList ds p := hA0
  obtain ⟨rfl, _⟩ := trodVars_none hV
  replace hval : ∀ (j : Nat) t v, Try.f4.params[j]? = some t → args[j]? = some v → Value.okWide Try.prog W .any base t v := hval
  replace hwt : (DataW.weightsEach Try.prog (Try.f4.params.toList ++ Rows.fnExactQueueAddSpec.plain.varTypes Try.prog) (ds ++ [])).all (· ≤ reachBytes) = true := hwt
  rw [Try.params4] at hA hval hwt
  obtain ⟨v0, vs0, d0, ds0, p0, qq0, hargs, rfl, rfl, h0, r0⟩ := trodAll_cons hA
  obtain ⟨v1, vs1, d1, ds1, p1, qq1, rfl, rfl, rfl, h1, r1⟩ := trodAll_cons r0
  obtain ⟨rfl, rfl, rfl⟩ := trodAll_nil r1
  obtain rfl : args = #[v0, v1] := by cases args; simp_all
  have e0 := ZdK h0 (Ze1 W) (weigh hwt (i := 0) rfl rfl)
  obtain ⟨cs0, rfl, _⟩ := okWide_struct Try.underlying24 (hval 0 24 v0 rfl rfl)
  obtain ⟨n0, x0, q0, c0, e0, hs0⟩ := e0
  obtain rfl : cs0 = #[.int .i64 n0, .slice q0 x0.length c0] := Array.ext' e0
  have e1 := ZdK h1 (Zh4 W) (weigh hwt (i := 1) rfl rfl)
  obtain ⟨cs1, rfl, _⟩ := okWide_struct Try.underlying37 (hval 1 37 v1 rfl rfl)
  obtain ⟨x1, q1, c1, e1, hl1a, hl1b, hs1⟩ := e1
  obtain rfl : cs1 = #[str x1.fr, .slice q1 x1.to_.length c1, str x1.text] := Array.ext' e1
  refine Calls.mono (Zjo W q0 c0 ⟨n0, x0⟩ q1 c1 x1 hl1a hl1b hs0 hs1) fun e W' ⟨v, he, hk, _, _, _, hv⟩ => ?_
  subst he hv
  exact ⟨_, rfl, ZgJ (tb := 4) (by kernel_rfl) (by kernel_rfl) rfl Try.underlying4 rfl hW' (fun ds' gs' hg hl => by
    subst hg
    match ds', hl with
    | [_, _], _ => rfl) hk⟩
theorem fnExactQueueAdd_proved : Rows.FnExactQueueAddSaid :=
  OpenClaim.holds_of_wide 4 Try.f4 rfl rfl rfl rfl rfl rfl rfl ⟨rfl, rfl, rfl, rfl, rfl⟩ rfl rfl rfl rfl rfl (by kernel_rfl) Try.func4 (by kernel_rfl)
    (of_decide_eq_true (by kernel_rfl)) (by unfold Func.isWrapper; first | (rw [if_pos (by decide +kernel)]; kernel_rfl) | (rw [if_neg (by decide +kernel)]; exact ⟨rfl, rfl⟩))
    (fun os started H enc _ => fnExactQueueAdd_lifted os started H enc)

end Go.Proofs.Ytpdpnilbhlojbaa
