/-
  LAWS THAT RETURN TRUE FOR EVERY ARGUMENT, with goroutines started and awaited on the way, and the arguments read behind the call as they read before. Conditions: none beyond the given rows.
-/
import Derived.Test.YtbebcagblefhcaaGreatDoorC
import Derived.Test.YtbebcagblefhcaaGreatDoorCards
import Derived.Test.YtbebcagblefhcaaGreatDoorTie
import Derived.Conc.Holds
import Derived.Conc.LeavingOf
import Derived.KernelRfl
namespace Go.BL
theorem Zen.mono {H : Type} {enc : TypeId × Value → H} {P : Program} {W : World} {t : TypeId} {p p' : List Value → Prop} (h : Zen enc P W t p) (hp : ∀ cs, p cs → p' cs) : Zen enc P W t p' := fun fuel cs d ps ht hw => hp cs (h fuel cs d ps ht hw)
end Go.BL
namespace Go.Proofs.YtbebcagblefhcaaGreatDoor
open Go.BL
open Go.ChangeShapes Go.WideShapes Go.ChangeAt Go.RowKit
set_option linter.unusedVariables false
theorem own : ownKnob Tryz.prog.godebug = none := by kernel_rfl
theorem ZmY {H : Type} {enc : TypeId × Value → H} (W : World) : ZbO enc Tryz.prog W 9 Zig := ZoC Tryz.underlying9
theorem Zrf {H : Type} {enc : TypeId × Value → H} (W : World) : ZbO enc Tryz.prog W 3 Zb7 := ZoD Tryz.underlying3
theorem Ztm {H : Type} {enc : TypeId × Value → H} (W : World) : ZbO enc Tryz.prog W 130 Zkw := (Zbj Tryz.underlying130 [(fun cs => ∃ x, Zig (ZaH W) cs x), (fun cs => ∃ x, Zig (ZaH W) cs x), (fun cs => ∃ x, Zb7 (ZaH W) cs x)] (by kernel_rfl) ⟨ZmY W, ZmY W, Zrf W, trivial⟩).mono (by
  rintro cs ⟨_, _, rfl, ⟨x0, rfl, h0⟩, _, _, rfl, ⟨x1, rfl, h1⟩, _, _, rfl, ⟨x2, rfl⟩, rfl⟩
  exact ⟨⟨x0, x1, x2⟩, rfl, h0, h1⟩)
theorem Zra {H : Type} {enc : TypeId × Value → H} (W : World) : ZbO enc Tryz.prog W 22 (Zc6 3 Zkw) := Zbv Tryz.underlying22 (by kernel_rfl) (of_decide_eq_true (by kernel_rfl)) (by decide) (Ztm W)
theorem Zrg {H : Type} {enc : TypeId × Value → H} (W : World) : ZbO enc Tryz.prog W 268 Zhv := (Zbj Tryz.underlying268 [(fun cs => ∃ x, Zig (ZaH W) cs x), (fun cs => ∃ x, Zb7 (ZaH W) cs x)] (by kernel_rfl) ⟨ZmY W, Zrf W, trivial⟩).mono (by
  rintro cs ⟨_, _, rfl, ⟨x0, rfl, h0⟩, _, _, rfl, ⟨x1, rfl⟩, rfl⟩
  exact ⟨⟨x0, x1⟩, rfl, h0⟩)
theorem ZoE {H : Type} {enc : TypeId × Value → H} (W : World) : ZbO enc Tryz.prog W 132 (Zc6 2 Zhv) := Zbv Tryz.underlying132 (by kernel_rfl) (of_decide_eq_true (by kernel_rfl)) (by decide) (Zrg W)
theorem Zto {H : Type} {enc : TypeId × Value → H} (W : World) : ZbO enc Tryz.prog W 328 ZhE := (Zbj Tryz.underlying328 [(fun cs => ∃ x, Zb7 (ZaH W) cs x), (fun cs => ∃ x, Zb7 (ZaH W) cs x), (fun cs => ∃ x, Zig (ZaH W) cs x)] (by kernel_rfl) ⟨Zrf W, Zrf W, ZmY W, trivial⟩).mono (by
  rintro cs ⟨_, _, rfl, ⟨x0, rfl⟩, _, _, rfl, ⟨x1, rfl⟩, _, _, rfl, ⟨x2, rfl, h2⟩, rfl⟩
  exact ⟨⟨x0, x1, x2⟩, rfl, h2⟩)
theorem Zrd {H : Type} {enc : TypeId × Value → H} (W : World) : ZbO enc Tryz.prog W 133 (Zc6 3 ZhE) := Zbv Tryz.underlying133 (by kernel_rfl) (of_decide_eq_true (by kernel_rfl)) (by decide) (Zto W)
theorem Zu7 {H : Type} {enc : TypeId × Value → H} (W : World) : Zen enc Tryz.prog W 135 (fun cs => ∃ n xs q cp, cs = [.int .i64 n, .slice q xs.length cp] ∧ SlB (ZaH W) q cp 3 ZhE xs) := (Zbj Tryz.underlying135 [(fun cs => ∃ x, Zb7 (ZaH W) cs x), (fun cs => ∃ x, Zc6 3 ZhE (ZaH W) cs x)] (by kernel_rfl) ⟨Zrf W, Zrd W, trivial⟩).mono (by
  rintro cs ⟨_, _, rfl, ⟨x0, rfl⟩, _, _, rfl, ⟨x1, q1, c1, rfl, h1⟩, rfl⟩
  exact ⟨x0, x1, q1, c1, rfl, h1⟩)
theorem ZoF {H : Type} {enc : TypeId × Value → H} (W : World) : ZbO enc Tryz.prog W 137 Zeo := (Zbj Tryz.underlying137 [(fun cs => ∃ x, Zig (ZaH W) cs x), (fun cs => ∃ x, Zig (ZaH W) cs x), (fun cs => ∃ x, Zc6 2 Zhv (ZaH W) cs x), (fun cs => ∃ n xs q cp, cs = [.int .i64 n, .slice q xs.length cp] ∧ SlB (ZaH W) q cp 3 ZhE xs)] (by kernel_rfl) ⟨ZmY W, ZmY W, ZoE W, Zu7 W, trivial⟩).mono (by
  rintro cs ⟨_, _, rfl, ⟨x0, rfl, h0⟩, _, _, rfl, ⟨x1, rfl, h1⟩, _, _, rfl, ⟨x2, q2, c2, rfl, h2⟩, _, _, rfl, ⟨n3, x3, q3, c3, rfl, h3⟩, rfl⟩
  exact ⟨⟨x0, x1, x2, n3, x3⟩, q2, c2, q3, c3, rfl, h2, h3, h0, h1⟩)
theorem ZmZ {H : Type} {enc : TypeId × Value → H} (W : World) : ZbO enc Tryz.prog W 23 (Zc6 5 Zeo) := Zbv Tryz.underlying23 (by kernel_rfl) (of_decide_eq_true (by kernel_rfl)) (by decide) (ZoF W)
theorem ZwF {H : Type} {enc : TypeId × Value → H} (W : World) : ZbO enc Tryz.prog W 144 (Zc6 1 Zig) := Zbv Tryz.underlying144 (by kernel_rfl) (of_decide_eq_true (by kernel_rfl)) (by decide) (ZmY W)
theorem Ztp {H : Type} {enc : TypeId × Value → H} (W : World) : ZbO enc Tryz.prog W 207 Zhu := (Zbj Tryz.underlying207 [(fun cs => ∃ x, Zb7 (ZaH W) cs x), (fun cs => ∃ x, Zig (ZaH W) cs x), (fun cs => ∃ x, Zig (ZaH W) cs x), (fun cs => ∃ x, Zc6 1 Zig (ZaH W) cs x)] (by kernel_rfl) ⟨Zrf W, ZmY W, ZmY W, ZwF W, trivial⟩).mono (by
  rintro cs ⟨_, _, rfl, ⟨x0, rfl⟩, _, _, rfl, ⟨x1, rfl, h1⟩, _, _, rfl, ⟨x2, rfl, h2⟩, _, _, rfl, ⟨x3, q3, c3, rfl, h3⟩, rfl⟩
  exact ⟨⟨x0, x1, x2, x3⟩, q3, c3, rfl, h3, h1, h2⟩)
theorem Zre {H : Type} {enc : TypeId × Value → H} (W : World) : ZbO enc Tryz.prog W 24 (Zc6 4 Zhu) := Zbv Tryz.underlying24 (by kernel_rfl) (of_decide_eq_true (by kernel_rfl)) (by decide) (Ztp W)
theorem Zrc {H : Type} {enc : TypeId × Value → H} (W : World) : Zen enc Tryz.prog W 26 (fun cs => ∃ n xs q cp, cs = [.int .i64 n, .slice q xs.length cp] ∧ SlB (ZaH W) q cp 4 Zhu xs) := (Zbj Tryz.underlying26 [(fun cs => ∃ x, Zb7 (ZaH W) cs x), (fun cs => ∃ x, Zc6 4 Zhu (ZaH W) cs x)] (by kernel_rfl) ⟨Zrf W, Zre W, trivial⟩).mono (by
  rintro cs ⟨_, _, rfl, ⟨x0, rfl⟩, _, _, rfl, ⟨x1, q1, c1, rfl, h1⟩, rfl⟩
  exact ⟨x0, x1, q1, c1, rfl, h1⟩)
theorem Ztq {H : Type} {enc : TypeId × Value → H} (W : World) : Zen enc Tryz.prog W 28 (fun cs => ∃ (x : DHost) (q1 q2 q3 : Option Addr) (c1 c2 c3 : Nat), cs = [str x.domain, .slice q1 x.users.length c1, .slice q2 x.folders.length c2, .int .i64 x.queue.next, .slice q3 x.queue.items.length c3] ∧ x.domain.length ≤ 140737488355328 ∧ SlB (ZaH W) q1 c1 3 Zkw x.users ∧ SlB (ZaH W) q2 c2 5 Zeo x.folders ∧ SlB (ZaH W) q3 c3 4 Zhu x.queue.items) := (Zbj Tryz.underlying28 [(fun cs => ∃ x, Zig (ZaH W) cs x), (fun cs => ∃ x, Zc6 3 Zkw (ZaH W) cs x), (fun cs => ∃ x, Zc6 5 Zeo (ZaH W) cs x), (fun cs => ∃ n xs q cp, cs = [.int .i64 n, .slice q xs.length cp] ∧ SlB (ZaH W) q cp 4 Zhu xs)] (by kernel_rfl) ⟨ZmY W, Zra W, ZmZ W, Zrc W, trivial⟩).mono (by
  rintro cs ⟨_, _, rfl, ⟨x0, rfl, h0⟩, _, _, rfl, ⟨x1, q1, c1, rfl, h1⟩, _, _, rfl, ⟨x2, q2, c2, rfl, h2⟩, _, _, rfl, ⟨n3, x3, q3, c3, rfl, h3⟩, rfl⟩
  exact ⟨⟨x0, x1, x2, ⟨n3, x3⟩⟩, q1, q2, q3, c1, c2, c3, rfl, h0, h1, h2, h3⟩)
theorem ZmX {H : Type} {enc : TypeId × Value → H} (W : World) : Zen enc Tryz.prog W 30 (fun cs => ∃ (u y z : Str), cs = [str u, str y, str z] ∧ u.length ≤ 140737488355328 ∧ y.length ≤ 140737488355328 ∧ z.length ≤ 140737488355328) := (Zbj Tryz.underlying30 [(fun cs => ∃ x, Zig (ZaH W) cs x), (fun cs => ∃ x, Zig (ZaH W) cs x), (fun cs => ∃ x, Zig (ZaH W) cs x)] (by kernel_rfl) ⟨ZmY W, ZmY W, ZmY W, trivial⟩).mono (by
  rintro cs ⟨_, _, rfl, ⟨x0, rfl, h0⟩, _, _, rfl, ⟨x1, rfl, h1⟩, _, _, rfl, ⟨x2, rfl, h2⟩, rfl⟩
  exact ⟨x0, x1, x2, rfl, h0, h1, h2⟩)
theorem Ztn {H : Type} {enc : TypeId × Value → H} (W : World) : ZbO enc Tryz.prog W 96 Zak := (Zbj Tryz.underlying96 [(fun cs => ∃ x, Zb7 (ZaH W) cs x), (fun cs => ∃ x, Zb7 (ZaH W) cs x)] (by kernel_rfl) ⟨Zrf W, Zrf W, trivial⟩).mono (by
  rintro cs ⟨_, _, rfl, ⟨x0, rfl⟩, _, _, rfl, ⟨x1, rfl⟩, rfl⟩
  exact ⟨⟨x0, x1⟩, rfl⟩)
theorem Zrb {H : Type} {enc : TypeId × Value → H} (W : World) : ZbO enc Tryz.prog W 31 (Zc6 2 Zak) := Zbv Tryz.underlying31 (by kernel_rfl) (of_decide_eq_true (by kernel_rfl)) (by decide) (Ztn W)
theorem ZpJ : "*" ++ "errors.errorString" = "*errors.errorString" := by decide
theorem Zvw (u : TypeId) (h : Tryz.prog.typeName? 3 u = some "*errors.errorString") : u = 372 :=
  typeName_ptr_named (nm := "errors.errorString") (by rw [ZpJ]; kernel_rfl) (by kernel_rfl) (by decide) u (by rw [ZpJ]; exact h)

theorem ZdM (os : Os) (args : Array Value) : laidMetH Tryz.prog Rows.fnExactSessionFetchRow.laid ((World.doorLaid Tryz.prog 85 os).forCall (fun _ _ => 0) ⟨#[], args, []⟩).memory :=
  laidMetH_of_parts3 (fuel := 8) (laidMet_of_run' 8 (by kernel_rfl) (by kernel_rfl)) (by kernel_rfl) (by kernel_rfl)
set_option maxRecDepth 100000 in
set_option maxHeartbeats 1600000 in
theorem fnExactSessionFetch_lifted (os : Os) (started : os.Started) (H : Type) (enc : TypeId × Value → H) :
    ReturnsInLeavingWide { calm := true } Tryz.checked os 3 .any (fun w args => (Rows.fnExactSessionFetchSpec.pre enc Tryz.prog Tryz.f3 Rows.fnExactSessionFetchRow.domain false w args ∧ laidMetH Tryz.prog Rows.fnExactSessionFetchRow.laid w) ∧ sizedMet enc Tryz.prog Tryz.f3 (OpenSpec.ofChange Rows.fnExactSessionFetchSpec) false w args) (Rows.fnExactSessionFetchSpec.post enc Tryz.prog Tryz.f3 false true false false) := by
  refine ZjA (C := Tryz.checked) own started Tryz.func3 (ZqD (enc := enc) (C := Tryz.checked) (os := os) (X := fun w _ => laidMetH Tryz.prog Rows.fnExactSessionFetchRow.laid w) (World.doorLaid Tryz.prog 85 os) #[.agg #[.string ⟨#[]⟩, .slice none 0 0, .slice none 0 0, .int .i64 0, .slice none 0 0], .agg #[.string ⟨#[]⟩, .string ⟨#[]⟩, .string ⟨#[]⟩], .slice none 0 0] 8 rfl (World.shaped_of_RefB (by kernel_rfl) (by kernel_rfl)) (by kernel_rfl) (by kernel_rfl) (by kernel_rfl) (ZdM os _)) ?_
  intro W base args ds gs before hval hW hwt hL
  have hW' := hW
  obtain ⟨p, q, hA0, hV, rfl, hfz, hnd⟩ := hW
  have hA : DataW.TrodAll enc Tryz.prog W 0 (fun _ => true) true Tryz.f3.params.toList args.toList ds p := hA0
  replace hval : ∀ (j : Nat) t v, Tryz.f3.params[j]? = some t → args[j]? = some v → Value.okWide Tryz.prog W .any base t v := hval
  replace hwt : (DataW.weightsEach Tryz.prog (Tryz.f3.params.toList ++ Rows.fnExactSessionFetchSpec.plain.varTypes Tryz.prog) (ds ++ gs)).all (· ≤ reachBytes) = true := hwt
  rw [Tryz.params3] at hA hval hwt
  obtain ⟨v0, vs0, d0, ds0, p0, qq0, hargs, rfl, rfl, h0, r0⟩ := trodAll_cons hA
  obtain ⟨v1, vs1, d1, ds1, p1, qq1, rfl, rfl, rfl, h1, r1⟩ := trodAll_cons r0
  obtain ⟨v2, vs2, d2, ds2, p2, qq2, rfl, rfl, rfl, h2, r2⟩ := trodAll_cons r1
  obtain ⟨rfl, rfl, rfl⟩ := trodAll_nil r2
  obtain rfl : args = #[v0, v1, v2] := by cases args; simp_all
  have e0 := Zis h0 (Ztq W) (weigh hwt (i := 0) rfl rfl)
  obtain ⟨cs0, rfl, _⟩ := okWide_struct Tryz.underlying28 (hval 0 28 v0 rfl rfl)
  obtain ⟨x0, q01, q02, q03, c01, c02, c03, e0, hd0, hu0, hf0, hi0⟩ := e0
  obtain rfl : cs0 = #[str x0.domain, .slice q01 x0.users.length c01, .slice q02 x0.folders.length c02, .int .i64 x0.queue.next, .slice q03 x0.queue.items.length c03] := Array.ext' e0
  have e1 := Zis h1 (ZmX W) (weigh hwt (i := 1) rfl rfl)
  obtain ⟨cs1, rfl, _⟩ := okWide_struct Tryz.underlying30 (hval 1 30 v1 rfl rfl)
  obtain ⟨u1, y1, z1, e1, hs1a, hs1b, hs1c⟩ := e1
  obtain rfl : cs1 = #[str u1, str y1, str z1] := Array.ext' e1
  have e2 := Zis h2 (Zrb W) (weigh hwt (i := 2) rfl rfl)
  obtain ⟨aa2, ll2, cc2, rfl⟩ := okWide_slice Tryz.underlying31 (hval 2 31 v2 rfl rfl)
  obtain ⟨x2, q2, c2, e2, hs2⟩ := e2
  obtain ⟨rfl, rfl, rfl⟩ := Value.slice.inj (List.cons.inj e2).1
  rw [MakeChecks.laidMetH_plain _ _ _ (by kernel_rfl)] at hL
  obtain ⟨a, hE⟩ := ZpI hL (by kernel_rfl) (by kernel_rfl) (by kernel_rfl) (by kernel_rfl) (by kernel_rfl) (by kernel_rfl) (by kernel_rfl) (by kernel_rfl) Tryz.underlying100 Zvw Tryz.underlying372 Tryz.underlying397 rfl rfl Tryz.underlying9 (by kernel_rfl) (by kernel_rfl)
  obtain ⟨code, hb, h⟩ := ZiV q01 q02 q03 c01 c02 c03 x0 hd0 u1 y1 z1 hs1a hs1b hs1c _ _ x2 (ZaH W) a hE hu0 hf0 hi0 hs2
  obtain ⟨M, last, o, w', t', r1, r2, r3, r4⟩ := Ztf 132 Tryz.func3 hb rfl rfl (by kernel_rfl) (Nat.le_of_ble_eq_true rfl) h
  exact ⟨M, last, o, w', t', r1, r2, r3, Conc.Good.mono r4 fun v ⟨hk, _, _, _, hv⟩ => by
    subst hv
    exact ZoZ (tb := 4) (by kernel_rfl) (by kernel_rfl) rfl Tryz.underlying4 (ZkE (by kernel_rfl)) hW' (fun ds' gs' hg hl => by
      match ds', gs', hl, hg with
      | [_, _, _], [_, _, _, _], _, _ => rfl) hk⟩
set_option maxRecDepth 100000 in
set_option maxHeartbeats 0 in
theorem fnExactSessionFetch_closed : joinedFacts Tryz.checked.prog 3 Tryz.f3 Rows.fnExactSessionFetchSpec Rows.fnExactSessionFetchRow = true := by
  unfold joinedFacts
  simp only [Bool.and_eq_true]
  repeat' apply And.intro
  all_goals (as_aux_lemma => kernel_rfl)
set_option maxRecDepth 100000 in
theorem fnExactSessionFetch_named : Tryz.checked.prog.funcNamed Rows.fnExactSessionFetchRow.func = some 3 := by kernel_rfl
set_option maxRecDepth 100000 in
theorem Zdn : Rows.FnExactSessionFetchSaid :=
  OpenClaim.holds_of_wide_leaving_time 3 Tryz.f3 rfl rfl rfl rfl rfl rfl rfl ⟨rfl, rfl, rfl, rfl, rfl⟩ rfl rfl rfl rfl rfl fnExactSessionFetch_named Tryz.func3 fnExactSessionFetch_closed
    (of_decide_eq_true (by kernel_rfl)) (by unfold Func.isWrapper; first | (rw [if_pos (by decide +kernel)]; kernel_rfl) | (rw [if_neg (by decide +kernel)]; exact ⟨rfl, rfl⟩))
    (fun os started H enc _ _ => Zlf (fnExactSessionFetch_lifted os started H enc))
set_option maxRecDepth 100000 in
theorem fnExactSessionFetch_proved : Rows.FnExactSessionFetchCardSaid :=
  Zp6 .later [.sentinel, .sentinel, .sentinel, .sentinel] true (true, "ddc048b8b3cdc1dbb38a7027cc1c01fc0334811876da9a1543f79410ff9c2085") true Zdn (by kernel_rfl) fnExactSessionFetch_row_tie rfl ⟨rfl, rfl⟩ (by kernel_rfl) rfl
    (fun f fn hf hfn => by
      obtain rfl : f = 3 := Option.some.inj (fnExactSessionFetch_named.symm.trans hf) |>.symm
      obtain rfl : fn = Tryz.f3 := (Option.some.inj (Tryz.func3.symm.trans hfn)).symm
      exact ⟨by kernel_rfl, fun j t ht => ZqX (by kernel_rfl) ht⟩)
    (by kernel_rfl)

end Go.Proofs.YtbebcagblefhcaaGreatDoor
