/-
  LAWS THAT RETURN TRUE FOR EVERY ARGUMENT, with goroutines started and awaited on the way, and the arguments read behind the call as they read before. Conditions: none beyond the given rows.
-/
import Derived.Test.YtmdbkconbffmfaaGreatC
import Derived.Conc.Holds
import Derived.Conc.LeavingOf
import Derived.KernelRfl
namespace Go.Proofs.YtmdbkconbffmfaaGreat
open Go.BL
open Go.ChangeShapes Go.WideShapes Go.ChangeAt Go.RowKit
set_option linter.unusedVariables false
theorem own : ownKnob Tryz.prog.godebug = none := by kernel_rfl
theorem ZdS {H : Type} {enc : TypeId × Value → H} (W : World) : Zac enc Tryz.prog W 9 ZcM := ZgR Tryz.underlying9
theorem ZgW {H : Type} {enc : TypeId × Value → H} (W : World) : Zac enc Tryz.prog W 3 ZbN := ZgS Tryz.underlying3
theorem ZgT {H : Type} {enc : TypeId × Value → H} (W : World) : Zac enc Tryz.prog W 89 Zdt := (Z0 Tryz.underlying89 [(fun cs => ∃ x, ZcM (ZQ W) cs x), (fun cs => ∃ x, ZcM (ZQ W) cs x), (fun cs => ∃ x, ZbN (ZQ W) cs x)] (by kernel_rfl) ⟨ZdS W, ZdS W, ZgW W, trivial⟩).mono (by
  rintro cs ⟨_, _, rfl, ⟨x0, rfl, h0⟩, _, _, rfl, ⟨x1, rfl, h1⟩, _, _, rfl, ⟨x2, rfl⟩, rfl⟩
  exact ⟨⟨x0, x1, x2⟩, rfl, h0, h1⟩)
theorem Zfm {H : Type} {enc : TypeId × Value → H} (W : World) : Zac enc Tryz.prog W 22 (Zap 3 Zdt) := Z2 Tryz.underlying22 (by kernel_rfl) (of_decide_eq_true (by kernel_rfl)) (by decide) (ZgT W)
theorem Zfq {H : Type} {enc : TypeId × Value → H} (W : World) : Zac enc Tryz.prog W 172 Zcf := (Z0 Tryz.underlying172 [(fun cs => ∃ x, ZcM (ZQ W) cs x), (fun cs => ∃ x, ZbN (ZQ W) cs x)] (by kernel_rfl) ⟨ZdS W, ZgW W, trivial⟩).mono (by
  rintro cs ⟨_, _, rfl, ⟨x0, rfl, h0⟩, _, _, rfl, ⟨x1, rfl⟩, rfl⟩
  exact ⟨⟨x0, x1⟩, rfl, h0⟩)
theorem Zd2 {H : Type} {enc : TypeId × Value → H} (W : World) : Zac enc Tryz.prog W 91 (Zap 2 Zcf) := Z2 Tryz.underlying91 (by kernel_rfl) (of_decide_eq_true (by kernel_rfl)) (by decide) (Zfq W)
theorem ZgU {H : Type} {enc : TypeId × Value → H} (W : World) : Zac enc Tryz.prog W 208 ZcO := (Z0 Tryz.underlying208 [(fun cs => ∃ x, ZbN (ZQ W) cs x), (fun cs => ∃ x, ZbN (ZQ W) cs x), (fun cs => ∃ x, ZcM (ZQ W) cs x)] (by kernel_rfl) ⟨ZgW W, ZgW W, ZdS W, trivial⟩).mono (by
  rintro cs ⟨_, _, rfl, ⟨x0, rfl⟩, _, _, rfl, ⟨x1, rfl⟩, _, _, rfl, ⟨x2, rfl, h2⟩, rfl⟩
  exact ⟨⟨x0, x1, x2⟩, rfl, h2⟩)
theorem Zfo {H : Type} {enc : TypeId × Value → H} (W : World) : Zac enc Tryz.prog W 92 (Zap 3 ZcO) := Z2 Tryz.underlying92 (by kernel_rfl) (of_decide_eq_true (by kernel_rfl)) (by decide) (ZgU W)
theorem Zjh {H : Type} {enc : TypeId × Value → H} (W : World) : Zbv enc Tryz.prog W 94 (fun cs => ∃ n xs q cp, cs = [.int .i64 n, .slice q xs.length cp] ∧ SlB (ZQ W) q cp 3 ZcO xs) := (Z0 Tryz.underlying94 [(fun cs => ∃ x, ZbN (ZQ W) cs x), (fun cs => ∃ x, Zap 3 ZcO (ZQ W) cs x)] (by kernel_rfl) ⟨ZgW W, Zfo W, trivial⟩).mono (by
  rintro cs ⟨_, _, rfl, ⟨x0, rfl⟩, _, _, rfl, ⟨x1, q1, c1, rfl, h1⟩, rfl⟩
  exact ⟨x0, x1, q1, c1, rfl, h1⟩)
theorem Zd3 {H : Type} {enc : TypeId × Value → H} (W : World) : Zac enc Tryz.prog W 96 ZaJ := (Z0 Tryz.underlying96 [(fun cs => ∃ x, ZcM (ZQ W) cs x), (fun cs => ∃ x, ZcM (ZQ W) cs x), (fun cs => ∃ x, Zap 2 Zcf (ZQ W) cs x), (fun cs => ∃ n xs q cp, cs = [.int .i64 n, .slice q xs.length cp] ∧ SlB (ZQ W) q cp 3 ZcO xs)] (by kernel_rfl) ⟨ZdS W, ZdS W, Zd2 W, Zjh W, trivial⟩).mono (by
  rintro cs ⟨_, _, rfl, ⟨x0, rfl, h0⟩, _, _, rfl, ⟨x1, rfl, h1⟩, _, _, rfl, ⟨x2, q2, c2, rfl, h2⟩, _, _, rfl, ⟨n3, x3, q3, c3, rfl, h3⟩, rfl⟩
  exact ⟨⟨x0, x1, x2, n3, x3⟩, q2, c2, q3, c3, rfl, h2, h3, h0, h1⟩)
theorem Zdf {H : Type} {enc : TypeId × Value → H} (W : World) : Zac enc Tryz.prog W 23 (Zap 5 ZaJ) := Z2 Tryz.underlying23 (by kernel_rfl) (of_decide_eq_true (by kernel_rfl)) (by decide) (Zd3 W)
theorem Zni {H : Type} {enc : TypeId × Value → H} (W : World) : Zac enc Tryz.prog W 103 (Zap 1 ZcM) := Z2 Tryz.underlying103 (by kernel_rfl) (of_decide_eq_true (by kernel_rfl)) (by decide) (ZdS W)
theorem ZgV {H : Type} {enc : TypeId × Value → H} (W : World) : Zac enc Tryz.prog W 130 Zb2 := (Z0 Tryz.underlying130 [(fun cs => ∃ x, ZbN (ZQ W) cs x), (fun cs => ∃ x, ZcM (ZQ W) cs x), (fun cs => ∃ x, ZcM (ZQ W) cs x), (fun cs => ∃ x, Zap 1 ZcM (ZQ W) cs x)] (by kernel_rfl) ⟨ZgW W, ZdS W, ZdS W, Zni W, trivial⟩).mono (by
  rintro cs ⟨_, _, rfl, ⟨x0, rfl⟩, _, _, rfl, ⟨x1, rfl, h1⟩, _, _, rfl, ⟨x2, rfl, h2⟩, _, _, rfl, ⟨x3, q3, c3, rfl, h3⟩, rfl⟩
  exact ⟨⟨x0, x1, x2, x3⟩, q3, c3, rfl, h3, h1, h2⟩)
theorem Zfp {H : Type} {enc : TypeId × Value → H} (W : World) : Zac enc Tryz.prog W 24 (Zap 4 Zb2) := Z2 Tryz.underlying24 (by kernel_rfl) (of_decide_eq_true (by kernel_rfl)) (by decide) (ZgV W)
theorem Zfn {H : Type} {enc : TypeId × Value → H} (W : World) : Zbv enc Tryz.prog W 26 (fun cs => ∃ n xs q cp, cs = [.int .i64 n, .slice q xs.length cp] ∧ SlB (ZQ W) q cp 4 Zb2 xs) := (Z0 Tryz.underlying26 [(fun cs => ∃ x, ZbN (ZQ W) cs x), (fun cs => ∃ x, Zap 4 Zb2 (ZQ W) cs x)] (by kernel_rfl) ⟨ZgW W, Zfp W, trivial⟩).mono (by
  rintro cs ⟨_, _, rfl, ⟨x0, rfl⟩, _, _, rfl, ⟨x1, q1, c1, rfl, h1⟩, rfl⟩
  exact ⟨x0, x1, q1, c1, rfl, h1⟩)
theorem ZgX {H : Type} {enc : TypeId × Value → H} (W : World) : Zbv enc Tryz.prog W 28 (fun cs => ∃ (x : DHost) (q1 q2 q3 : Option Addr) (c1 c2 c3 : Nat), cs = [str x.domain, .slice q1 x.users.length c1, .slice q2 x.folders.length c2, .int .i64 x.queue.next, .slice q3 x.queue.items.length c3] ∧ x.domain.length ≤ 140737488355328 ∧ SlB (ZQ W) q1 c1 3 Zdt x.users ∧ SlB (ZQ W) q2 c2 5 ZaJ x.folders ∧ SlB (ZQ W) q3 c3 4 Zb2 x.queue.items) := (Z0 Tryz.underlying28 [(fun cs => ∃ x, ZcM (ZQ W) cs x), (fun cs => ∃ x, Zap 3 Zdt (ZQ W) cs x), (fun cs => ∃ x, Zap 5 ZaJ (ZQ W) cs x), (fun cs => ∃ n xs q cp, cs = [.int .i64 n, .slice q xs.length cp] ∧ SlB (ZQ W) q cp 4 Zb2 xs)] (by kernel_rfl) ⟨ZdS W, Zfm W, Zdf W, Zfn W, trivial⟩).mono (by
  rintro cs ⟨_, _, rfl, ⟨x0, rfl, h0⟩, _, _, rfl, ⟨x1, q1, c1, rfl, h1⟩, _, _, rfl, ⟨x2, q2, c2, rfl, h2⟩, _, _, rfl, ⟨n3, x3, q3, c3, rfl, h3⟩, rfl⟩
  exact ⟨⟨x0, x1, x2, ⟨n3, x3⟩⟩, q1, q2, q3, c1, c2, c3, rfl, h0, h1, h2, h3⟩)
set_option maxRecDepth 100000 in
theorem fnExactHostView_lifted (os : Os) (started : os.Started) (H : Type) (enc : TypeId × Value → H) :
    ReturnsInLeavingWide {} Tryz.checked os 5 .any (Rows.fnExactHostViewSpec.pre6 enc Tryz.prog Tryz.f5 Rows.fnExactHostViewRow.domain false) (Rows.fnExactHostViewSpec.post enc Tryz.prog Tryz.f5 false true false false) := by
  refine returnsInLeavingWide_of_change_sized (C := Tryz.checked) own started Tryz.func5 (ChangeSpec.witness6 (enc := enc) (C := Tryz.checked) false ⟨#[], #[.agg #[.string ⟨#[]⟩, .slice none 0 0, .slice none 0 0, .int .i64 0, .slice none 0 0], .string ⟨#[]⟩], []⟩ 8 (by kernel_rfl) (by kernel_rfl) (by kernel_rfl) (by kernel_rfl)) ?_
  intro W base args ds gs before hval hW _ hwt _
  have hW' := hW
  obtain ⟨p, q, hA0, hV, rfl, hfz, hnd⟩ := hW
  have hA : DataW.TrodAll enc Tryz.prog W 0 (fun _ => true) true Tryz.f5.params.toList args.toList ds p := hA0
  obtain ⟨rfl, _⟩ := trodVars_none hV
  replace hval : ∀ (j : Nat) t v, Tryz.f5.params[j]? = some t → args[j]? = some v → Value.okWide Tryz.prog W .any base t v := hval
  replace hwt : (DataW.weightsEach Tryz.prog (Tryz.f5.params.toList ++ Rows.fnExactHostViewSpec.plain.varTypes Tryz.prog) (ds ++ [])).all (· ≤ reachBytes) = true := hwt
  rw [Tryz.params5] at hA hval hwt
  obtain ⟨v0, vs0, d0, ds0, p0, qq0, hargs, rfl, rfl, h0, r0⟩ := trodAll_cons hA
  obtain ⟨v1, vs1, d1, ds1, p1, qq1, rfl, rfl, rfl, h1, r1⟩ := trodAll_cons r0
  obtain ⟨rfl, rfl, rfl⟩ := trodAll_nil r1
  obtain rfl : args = #[v0, v1] := by cases args; simp_all
  have e0 := ZdF h0 (ZgX W) (weigh hwt (i := 0) rfl rfl)
  obtain ⟨cs0, rfl, _⟩ := okWide_struct Tryz.underlying28 (hval 0 28 v0 rfl rfl)
  obtain ⟨x0, q01, q02, q03, c01, c02, c03, e0, hd0, hu0, hf0, hi0⟩ := e0
  obtain rfl : cs0 = #[str x0.domain, .slice q01 x0.users.length c01, .slice q02 x0.folders.length c02, .int .i64 x0.queue.next, .slice q03 x0.queue.items.length c03] := Array.ext' e0
  have e1 := ZdF h1 (ZdS W) (weigh hwt (i := 1) rfl rfl)
  obtain ⟨s1, rfl⟩ := okWide_string Tryz.underlying9 (hval 1 9 v1 rfl rfl)
  obtain ⟨x1, e1, g1⟩ := e1
  obtain rfl : s1 = ⟨x1.toArray⟩ := Value.string.inj (List.cons.inj e1).1
  obtain ⟨code, hb, h⟩ := ZjI q01 q02 q03 c01 c02 c03 x0 hd0 x1 g1 (ZQ W) hu0 hf0 hi0
  obtain ⟨M, last, o, w', t', r1, r2, r3, r4⟩ := Zkj 77 Tryz.func5 hb rfl rfl (by kernel_rfl) (Nat.le_of_ble_eq_true rfl) h
  exact ⟨M, last, o, w', t', r1, r2, r3, Conc.Good.mono r4 fun v ⟨hk, _, _, _, hv⟩ => by
    subst hv
    exact Zir (tb := 4) (by kernel_rfl) (by kernel_rfl) rfl Tryz.underlying4 rfl hW' (fun ds' gs' hg hl => by
      subst hg
      match ds', hl with
      | [_, _], _ => rfl) hk⟩
set_option maxRecDepth 100000 in
set_option maxHeartbeats 0 in
theorem fnExactHostView_closed : joinedFacts Tryz.checked.prog 5 Tryz.f5 Rows.fnExactHostViewSpec Rows.fnExactHostViewRow = true := by
  unfold joinedFacts
  simp only [Bool.and_eq_true]
  repeat' apply And.intro
  all_goals (as_aux_lemma => kernel_rfl)
set_option maxRecDepth 100000 in
theorem fnExactHostView_named : Tryz.checked.prog.funcNamed Rows.fnExactHostViewRow.func = some 5 := by kernel_rfl
set_option maxRecDepth 100000 in
theorem fnExactHostView_proved : Rows.FnExactHostViewSaid :=
  OpenClaim.holds_of_wide_leaving 5 Tryz.f5 rfl rfl rfl rfl rfl rfl rfl ⟨rfl, rfl, rfl, rfl, rfl⟩ rfl rfl rfl rfl rfl fnExactHostView_named Tryz.func5 fnExactHostView_closed
    (of_decide_eq_true (by kernel_rfl)) (by unfold Func.isWrapper; first | (rw [if_pos (by decide +kernel)]; kernel_rfl) | (rw [if_neg (by decide +kernel)]; exact ⟨rfl, rfl⟩))
    (fun os started H enc _ => fnExactHostView_lifted os started H enc)

end Go.Proofs.YtmdbkconbffmfaaGreat
