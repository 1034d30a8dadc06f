/-
  LAWS THAT RETURN TRUE FOR EVERY ARGUMENT, with goroutines started and awaited on the way, and the arguments read behind the call as they read before. Conditions: none beyond the given rows.
-/
import Derived.Test.YtkppijmhadbpdaaGreatDoorC
import Derived.Test.YtkppijmhadbpdaaGreatDoorCards
import Derived.Test.YtkppijmhadbpdaaGreatDoorTie
import Derived.Conc.Holds
import Derived.Conc.LeavingOf
import Derived.KernelRfl
namespace Go.Proofs.YtkppijmhadbpdaaGreatDoor
open Go.BL
open Go.ChangeShapes Go.WideShapes Go.ChangeAt Go.RowKit
set_option linter.unusedVariables false
theorem own : ownKnob Tryz.prog.godebug = none := by kernel_rfl
theorem Zmk {H : Type} {enc : TypeId × Value → H} (W : World) : ZcA enc Tryz.prog W 9 Zjm := Zqf Tryz.underlying9
theorem Zs1 {H : Type} {enc : TypeId × Value → H} (W : World) : ZcA enc Tryz.prog W 3 ZcH := Zqg Tryz.underlying3
theorem Zve {H : Type} {enc : TypeId × Value → H} (W : World) : ZcA enc Tryz.prog W 168 ZlR := (ZbS Tryz.underlying168 [(fun cs => ∃ x, Zjm (Za5 W) cs x), (fun cs => ∃ x, Zjm (Za5 W) cs x), (fun cs => ∃ x, ZcH (Za5 W) cs x)] (by kernel_rfl) ⟨Zmk W, Zmk W, Zs1 W, trivial⟩).mono (by
  rintro cs ⟨_, _, rfl, ⟨x0, rfl, h0⟩, _, _, rfl, ⟨x1, rfl, h1⟩, _, _, rfl, ⟨x2, rfl⟩, rfl⟩
  exact ⟨⟨x0, x1, x2⟩, rfl, h0, h1⟩)
theorem ZsW {H : Type} {enc : TypeId × Value → H} (W : World) : ZcA enc Tryz.prog W 43 (ZdY 3 ZlR) := Zca Tryz.underlying43 (by kernel_rfl) (of_decide_eq_true (by kernel_rfl)) (by decide) (Zve W)
theorem Zs2 {H : Type} {enc : TypeId × Value → H} (W : World) : ZcA enc Tryz.prog W 318 ZiA := (ZbS Tryz.underlying318 [(fun cs => ∃ x, Zjm (Za5 W) cs x), (fun cs => ∃ x, ZcH (Za5 W) cs x)] (by kernel_rfl) ⟨Zmk W, Zs1 W, trivial⟩).mono (by
  rintro cs ⟨_, _, rfl, ⟨x0, rfl, h0⟩, _, _, rfl, ⟨x1, rfl⟩, rfl⟩
  exact ⟨⟨x0, x1⟩, rfl, h0⟩)
theorem Zqh {H : Type} {enc : TypeId × Value → H} (W : World) : ZcA enc Tryz.prog W 170 (ZdY 2 ZiA) := Zca Tryz.underlying170 (by kernel_rfl) (of_decide_eq_true (by kernel_rfl)) (by decide) (Zs2 W)
theorem Zvg {H : Type} {enc : TypeId × Value → H} (W : World) : ZcA enc Tryz.prog W 362 ZiJ := (ZbS Tryz.underlying362 [(fun cs => ∃ x, ZcH (Za5 W) cs x), (fun cs => ∃ x, ZcH (Za5 W) cs x), (fun cs => ∃ x, Zjm (Za5 W) cs x)] (by kernel_rfl) ⟨Zs1 W, Zs1 W, Zmk W, trivial⟩).mono (by
  rintro cs ⟨_, _, rfl, ⟨x0, rfl⟩, _, _, rfl, ⟨x1, rfl⟩, _, _, rfl, ⟨x2, rfl, h2⟩, rfl⟩
  exact ⟨⟨x0, x1, x2⟩, rfl, h2⟩)
theorem ZsZ {H : Type} {enc : TypeId × Value → H} (W : World) : ZcA enc Tryz.prog W 171 (ZdY 3 ZiJ) := Zca Tryz.underlying171 (by kernel_rfl) (of_decide_eq_true (by kernel_rfl)) (by decide) (Zvg W)
theorem Zxa {H : Type} {enc : TypeId × Value → H} (W : World) : ZdZ enc Tryz.prog W 173 (fun cs => ∃ n xs q cp, cs = [.int .i64 n, .slice q xs.length cp] ∧ SlB (Za5 W) q cp 3 ZiJ xs) := (ZbS Tryz.underlying173 [(fun cs => ∃ x, ZcH (Za5 W) cs x), (fun cs => ∃ x, ZdY 3 ZiJ (Za5 W) cs x)] (by kernel_rfl) ⟨Zs1 W, ZsZ W, trivial⟩).mono (by
  rintro cs ⟨_, _, rfl, ⟨x0, rfl⟩, _, _, rfl, ⟨x1, q1, c1, rfl, h1⟩, rfl⟩
  exact ⟨x0, x1, q1, c1, rfl, h1⟩)
theorem Zqi {H : Type} {enc : TypeId × Value → H} (W : World) : ZcA enc Tryz.prog W 175 Zff := (ZbS Tryz.underlying175 [(fun cs => ∃ x, Zjm (Za5 W) cs x), (fun cs => ∃ x, Zjm (Za5 W) cs x), (fun cs => ∃ x, ZdY 2 ZiA (Za5 W) cs x), (fun cs => ∃ n xs q cp, cs = [.int .i64 n, .slice q xs.length cp] ∧ SlB (Za5 W) q cp 3 ZiJ xs)] (by kernel_rfl) ⟨Zmk W, Zmk W, Zqh W, Zxa W, trivial⟩).mono (by
  rintro cs ⟨_, _, rfl, ⟨x0, rfl, h0⟩, _, _, rfl, ⟨x1, rfl, h1⟩, _, _, rfl, ⟨x2, q2, c2, rfl, h2⟩, _, _, rfl, ⟨n3, x3, q3, c3, rfl, h3⟩, rfl⟩
  exact ⟨⟨x0, x1, x2, n3, x3⟩, q2, c2, q3, c3, rfl, h2, h3, h0, h1⟩)
theorem Zov {H : Type} {enc : TypeId × Value → H} (W : World) : ZcA enc Tryz.prog W 44 (ZdY 5 Zff) := Zca Tryz.underlying44 (by kernel_rfl) (of_decide_eq_true (by kernel_rfl)) (by decide) (Zqi W)
theorem ZyO {H : Type} {enc : TypeId × Value → H} (W : World) : ZcA enc Tryz.prog W 143 (ZdY 1 Zjm) := Zca Tryz.underlying143 (by kernel_rfl) (of_decide_eq_true (by kernel_rfl)) (by decide) (Zmk W)
theorem Zvh {H : Type} {enc : TypeId × Value → H} (W : World) : ZcA enc Tryz.prog W 250 Ziz := (ZbS Tryz.underlying250 [(fun cs => ∃ x, ZcH (Za5 W) cs x), (fun cs => ∃ x, Zjm (Za5 W) cs x), (fun cs => ∃ x, Zjm (Za5 W) cs x), (fun cs => ∃ x, ZdY 1 Zjm (Za5 W) cs x)] (by kernel_rfl) ⟨Zs1 W, Zmk W, Zmk W, ZyO W, trivial⟩).mono (by
  rintro cs ⟨_, _, rfl, ⟨x0, rfl⟩, _, _, rfl, ⟨x1, rfl, h1⟩, _, _, rfl, ⟨x2, rfl, h2⟩, _, _, rfl, ⟨x3, q3, c3, rfl, h3⟩, rfl⟩
  exact ⟨⟨x0, x1, x2, x3⟩, q3, c3, rfl, h3, h1, h2⟩)
theorem Zs0 {H : Type} {enc : TypeId × Value → H} (W : World) : ZcA enc Tryz.prog W 45 (ZdY 4 Ziz) := Zca Tryz.underlying45 (by kernel_rfl) (of_decide_eq_true (by kernel_rfl)) (by decide) (Zvh W)
theorem ZsY {H : Type} {enc : TypeId × Value → H} (W : World) : ZdZ enc Tryz.prog W 47 (fun cs => ∃ n xs q cp, cs = [.int .i64 n, .slice q xs.length cp] ∧ SlB (Za5 W) q cp 4 Ziz xs) := (ZbS Tryz.underlying47 [(fun cs => ∃ x, ZcH (Za5 W) cs x), (fun cs => ∃ x, ZdY 4 Ziz (Za5 W) cs x)] (by kernel_rfl) ⟨Zs1 W, Zs0 W, trivial⟩).mono (by
  rintro cs ⟨_, _, rfl, ⟨x0, rfl⟩, _, _, rfl, ⟨x1, q1, c1, rfl, h1⟩, rfl⟩
  exact ⟨x0, x1, q1, c1, rfl, h1⟩)
theorem Zvi {H : Type} {enc : TypeId × Value → H} (W : World) : ZdZ enc Tryz.prog W 49 (fun cs => ∃ (x : DHost) (q1 q2 q3 : Option Addr) (c1 c2 c3 : Nat), cs = [str x.domain, .slice q1 x.users.length c1, .slice q2 x.folders.length c2, .int .i64 x.queue.next, .slice q3 x.queue.items.length c3] ∧ x.domain.length ≤ 140737488355328 ∧ SlB (Za5 W) q1 c1 3 ZlR x.users ∧ SlB (Za5 W) q2 c2 5 Zff x.folders ∧ SlB (Za5 W) q3 c3 4 Ziz x.queue.items) := (ZbS Tryz.underlying49 [(fun cs => ∃ x, Zjm (Za5 W) cs x), (fun cs => ∃ x, ZdY 3 ZlR (Za5 W) cs x), (fun cs => ∃ x, ZdY 5 Zff (Za5 W) cs x), (fun cs => ∃ n xs q cp, cs = [.int .i64 n, .slice q xs.length cp] ∧ SlB (Za5 W) q cp 4 Ziz xs)] (by kernel_rfl) ⟨Zmk W, ZsW W, Zov W, ZsY W, trivial⟩).mono (by
  rintro cs ⟨_, _, rfl, ⟨x0, rfl, h0⟩, _, _, rfl, ⟨x1, q1, c1, rfl, h1⟩, _, _, rfl, ⟨x2, q2, c2, rfl, h2⟩, _, _, rfl, ⟨n3, x3, q3, c3, rfl, h3⟩, rfl⟩
  exact ⟨⟨x0, x1, x2, ⟨n3, x3⟩⟩, q1, q2, q3, c1, c2, c3, rfl, h0, h1, h2, h3⟩)
theorem Zou {H : Type} {enc : TypeId × Value → H} (W : World) : ZdZ enc Tryz.prog W 50 (fun cs => ∃ (u y z : Str), cs = [str u, str y, str z] ∧ u.length ≤ 140737488355328 ∧ y.length ≤ 140737488355328 ∧ z.length ≤ 140737488355328) := (ZbS Tryz.underlying50 [(fun cs => ∃ x, Zjm (Za5 W) cs x), (fun cs => ∃ x, Zjm (Za5 W) cs x), (fun cs => ∃ x, Zjm (Za5 W) cs x)] (by kernel_rfl) ⟨Zmk W, Zmk W, Zmk W, trivial⟩).mono (by
  rintro cs ⟨_, _, rfl, ⟨x0, rfl, h0⟩, _, _, rfl, ⟨x1, rfl, h1⟩, _, _, rfl, ⟨x2, rfl, h2⟩, rfl⟩
  exact ⟨x0, x1, x2, rfl, h0, h1, h2⟩)
theorem Zvf {H : Type} {enc : TypeId × Value → H} (W : World) : ZcA enc Tryz.prog W 113 Z1 := (ZbS Tryz.underlying113 [(fun cs => ∃ x, ZcH (Za5 W) cs x), (fun cs => ∃ x, ZcH (Za5 W) cs x)] (by kernel_rfl) ⟨Zs1 W, Zs1 W, trivial⟩).mono (by
  rintro cs ⟨_, _, rfl, ⟨x0, rfl⟩, _, _, rfl, ⟨x1, rfl⟩, rfl⟩
  exact ⟨⟨x0, x1⟩, rfl⟩)
theorem ZsX {H : Type} {enc : TypeId × Value → H} (W : World) : ZcA enc Tryz.prog W 51 (ZdY 2 Z1) := Zca Tryz.underlying51 (by kernel_rfl) (of_decide_eq_true (by kernel_rfl)) (by decide) (Zvf W)
theorem Zrm : "*" ++ "errors.errorString" = "*errors.errorString" := by decide
theorem Zxx (u : TypeId) (h : Tryz.prog.typeName? 3 u = some "*errors.errorString") : u = 372 :=
  typeName_ptr_named (nm := "errors.errorString") (by rw [Zrm]; kernel_rfl) (by kernel_rfl) (by decide) u (by rw [Zrm]; exact h)

theorem ZeV (os : Os) (args : Array Value) : laidMetH Tryz.prog Rows.fnExactSessionCopyRow.laid ((World.doorLaid Tryz.prog 85 os).forCall (fun _ _ => 0) ⟨#[], args, []⟩).memory :=
  laidMetH_of_parts3 (fuel := 8) (laidMet_of_run' 8 (by kernel_rfl) (by kernel_rfl)) (by kernel_rfl) (by kernel_rfl)
set_option maxRecDepth 100000 in
set_option maxHeartbeats 1600000 in
theorem fnExactSessionCopy_lifted (os : Os) (started : os.Started) (H : Type) (enc : TypeId × Value → H) :
    ReturnsInLeavingWide { calm := true } Tryz.checked os 6 .any (fun w args => (Rows.fnExactSessionCopySpec.pre enc Tryz.prog Tryz.f6 Rows.fnExactSessionCopyRow.domain false w args ∧ laidMetH Tryz.prog Rows.fnExactSessionCopyRow.laid w) ∧ sizedMet enc Tryz.prog Tryz.f6 (OpenSpec.ofChange Rows.fnExactSessionCopySpec) false w args) (Rows.fnExactSessionCopySpec.post enc Tryz.prog Tryz.f6 false true false false) := by
  refine ZkI (C := Tryz.checked) own started Tryz.func6 (Zsk (enc := enc) (C := Tryz.checked) (os := os) (X := fun w _ => laidMetH Tryz.prog Rows.fnExactSessionCopyRow.laid w) (World.doorLaid Tryz.prog 85 os) #[.agg #[.string ⟨#[]⟩, .slice none 0 0, .slice none 0 0, .int .i64 0, .slice none 0 0], .agg #[.string ⟨#[]⟩, .string ⟨#[]⟩, .string ⟨#[]⟩], .slice none 0 0, .string ⟨#[]⟩, .string ⟨#[]⟩] 8 rfl (World.shaped_of_RefB (by kernel_rfl) (by kernel_rfl)) (by kernel_rfl) (by kernel_rfl) (by kernel_rfl) (ZeV os _)) ?_
  intro W base args ds gs before hval hW hwt hL
  have hW' := hW
  obtain ⟨p, q, hA0, hV, rfl, hfz, hnd⟩ := hW
  have hA : DataW.TrodAll enc Tryz.prog W 0 (fun _ => true) true Tryz.f6.params.toList args.toList ds p := hA0
  replace hval : ∀ (j : Nat) t v, Tryz.f6.params[j]? = some t → args[j]? = some v → Value.okWide Tryz.prog W .any base t v := hval
  replace hwt : (DataW.weightsEach Tryz.prog (Tryz.f6.params.toList ++ Rows.fnExactSessionCopySpec.plain.varTypes Tryz.prog) (ds ++ gs)).all (· ≤ reachBytes) = true := hwt
  rw [Tryz.params6] at hA hval hwt
  obtain ⟨v0, vs0, d0, ds0, p0, qq0, hargs, rfl, rfl, h0, r0⟩ := trodAll_cons hA
  obtain ⟨v1, vs1, d1, ds1, p1, qq1, rfl, rfl, rfl, h1, r1⟩ := trodAll_cons r0
  obtain ⟨v2, vs2, d2, ds2, p2, qq2, rfl, rfl, rfl, h2, r2⟩ := trodAll_cons r1
  obtain ⟨v3, vs3, d3, ds3, p3, qq3, rfl, rfl, rfl, h3, r3⟩ := trodAll_cons r2
  obtain ⟨v4, vs4, d4, ds4, p4, qq4, rfl, rfl, rfl, h4, r4⟩ := trodAll_cons r3
  obtain ⟨rfl, rfl, rfl⟩ := trodAll_nil r4
  obtain rfl : args = #[v0, v1, v2, v3, v4] := by cases args; simp_all
  have e0 := Zgo h0 (Zvi W) (weigh hwt (i := 0) rfl rfl)
  obtain ⟨cs0, rfl, _⟩ := okWide_struct Tryz.underlying49 (hval 0 49 v0 rfl rfl)
  obtain ⟨x0, q01, q02, q03, c01, c02, c03, e0, hd0, hu0, hf0, hi0⟩ := e0
  obtain rfl : cs0 = #[str x0.domain, .slice q01 x0.users.length c01, .slice q02 x0.folders.length c02, .int .i64 x0.queue.next, .slice q03 x0.queue.items.length c03] := Array.ext' e0
  have e1 := Zgo h1 (Zou W) (weigh hwt (i := 1) rfl rfl)
  obtain ⟨cs1, rfl, _⟩ := okWide_struct Tryz.underlying50 (hval 1 50 v1 rfl rfl)
  obtain ⟨u1, y1, z1, e1, hs1a, hs1b, hs1c⟩ := e1
  obtain rfl : cs1 = #[str u1, str y1, str z1] := Array.ext' e1
  have e2 := Zgo h2 (ZsX W) (weigh hwt (i := 2) rfl rfl)
  obtain ⟨aa2, ll2, cc2, rfl⟩ := okWide_slice Tryz.underlying51 (hval 2 51 v2 rfl rfl)
  obtain ⟨x2, q2, c2, e2, hs2⟩ := e2
  obtain ⟨rfl, rfl, rfl⟩ := Value.slice.inj (List.cons.inj e2).1
  have e3 := Zgo h3 (Zmk W) (weigh hwt (i := 3) rfl rfl)
  obtain ⟨s3, rfl⟩ := okWide_string Tryz.underlying9 (hval 3 9 v3 rfl rfl)
  obtain ⟨x3, e3, g3⟩ := e3
  obtain rfl : s3 = ⟨x3.toArray⟩ := Value.string.inj (List.cons.inj e3).1
  have e4 := Zgo h4 (Zmk W) (weigh hwt (i := 4) rfl rfl)
  obtain ⟨s4, rfl⟩ := okWide_string Tryz.underlying9 (hval 4 9 v4 rfl rfl)
  obtain ⟨x4, e4, g4⟩ := e4
  obtain rfl : s4 = ⟨x4.toArray⟩ := Value.string.inj (List.cons.inj e4).1
  rw [MakeChecks.laidMetH_plain _ _ _ (by kernel_rfl)] at hL
  obtain ⟨a, hE⟩ := Zrl hL (by kernel_rfl) (by kernel_rfl) (by kernel_rfl) (by kernel_rfl) (by kernel_rfl) (by kernel_rfl) (by kernel_rfl) (by kernel_rfl) Tryz.underlying82 Zxx Tryz.underlying372 Tryz.underlying397 rfl rfl Tryz.underlying9 (by kernel_rfl) (by kernel_rfl)
  obtain ⟨code, hb, h⟩ := Zlu q01 q02 q03 c01 c02 c03 x0 hd0 u1 y1 z1 hs1a hs1b hs1c _ _ x2 x3 x4 g3 g4 (Za5 W) a hE hu0 hf0 hi0 hs2
  obtain ⟨M, last, o, w', t', r1, r2, r3, r4⟩ := Zu6 148 Tryz.func6 hb rfl rfl (by kernel_rfl) (Nat.le_of_ble_eq_true rfl) h
  exact ⟨M, last, o, w', t', r1, r2, r3, Conc.Good.mono r4 fun v ⟨hk, _, _, _, hv⟩ => by
    subst hv
    exact ZqC (tb := 4) (by kernel_rfl) (by kernel_rfl) rfl Tryz.underlying4 (ZlY (by kernel_rfl)) hW' (fun ds' gs' hg hl => by
      match ds', gs', hl, hg with
      | [_, _, _, _, _], [_, _, _, _], _, _ => rfl) hk⟩
set_option maxRecDepth 100000 in
set_option maxHeartbeats 0 in
theorem fnExactSessionCopy_closed : joinedFacts Tryz.checked.prog 6 Tryz.f6 Rows.fnExactSessionCopySpec Rows.fnExactSessionCopyRow = true := by
  unfold joinedFacts
  simp only [Bool.and_eq_true]
  repeat' apply And.intro
  all_goals (as_aux_lemma => kernel_rfl)
set_option maxRecDepth 100000 in
theorem fnExactSessionCopy_named : Tryz.checked.prog.funcNamed Rows.fnExactSessionCopyRow.func = some 6 := by kernel_rfl
set_option maxRecDepth 100000 in
theorem ZeG : Rows.FnExactSessionCopySaid :=
  OpenClaim.holds_of_wide_leaving_time 6 Tryz.f6 rfl rfl rfl rfl rfl rfl rfl ⟨rfl, rfl, rfl, rfl, rfl⟩ rfl rfl rfl rfl rfl fnExactSessionCopy_named Tryz.func6 fnExactSessionCopy_closed
    (of_decide_eq_true (by kernel_rfl)) (by unfold Func.isWrapper; first | (rw [if_pos (by decide +kernel)]; kernel_rfl) | (rw [if_neg (by decide +kernel)]; exact ⟨rfl, rfl⟩))
    (fun os started H enc _ _ => ZmB (fnExactSessionCopy_lifted os started H enc))
set_option maxRecDepth 100000 in
theorem fnExactSessionCopy_proved : Rows.FnExactSessionCopyCardSaid :=
  ZrL .later [.sentinel, .sentinel, .sentinel, .sentinel] true (true, "72c2d702cc92e1928875548fe6d7d038f204804e89aeecf5fc0b1f3e9827b80c") true ZeG (by kernel_rfl) fnExactSessionCopy_row_tie rfl ⟨rfl, rfl⟩ (by kernel_rfl) rfl
    (fun f fn hf hfn => by
      obtain rfl : f = 6 := Option.some.inj (fnExactSessionCopy_named.symm.trans hf) |>.symm
      obtain rfl : fn = Tryz.f6 := (Option.some.inj (Tryz.func6.symm.trans hfn)).symm
      exact ⟨by kernel_rfl, fun j t ht => ZsG (by kernel_rfl) ht⟩)
    (by kernel_rfl)

end Go.Proofs.YtkppijmhadbpdaaGreatDoor
