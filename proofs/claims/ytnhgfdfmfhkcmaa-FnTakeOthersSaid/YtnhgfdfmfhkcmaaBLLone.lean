/-
  BL: the logic in a machine of one goroutine: from a body's walk to the kit's 'Calls'.
-/
import Derived.Test.YtnhgfdfmfhkcmaaBLKit
import Derived.RowKit3
namespace Go.BL
open Go.Conc (G)
set_option linter.unusedVariables false

/-- The lone machine. -/
def loneL (P : Program) (Stop : Frame → List Frame → World → Kn → Cells → Prop) : Lg P where
  main := true
  R := fun g B L => ∀ w, Sat B L w → g = G g.frame g.callers ∧ ∃ fr cs w' B' L', Steps P (lone g.frame g.callers w) (lone fr cs w') ∧ Ok B L w B' L' w' ∧ Stop fr cs w' B' L'
  conv := fun {g B B' L L'} hle hs hb hl h w s => by
    obtain ⟨h0, fr, cs, w', B₂, L₂, h1, h2, h3⟩ := h w (hs w s)
    refine ⟨h0, fr, cs, w', B₂, L₂, h1, ⟨hle.trans h2.le, h2.sat, h2.size, fun b hb' hn => h2.keep b hb' fun p hp he => ?_, fun b o hbo => ?_, fun p hp => ?_, h2.fz, h2.tape, h2.os, h2.output⟩, h3⟩
    · obtain ⟨q, hq, e⟩ := hl p hp
      exact hn q hq (e.trans he)
    · rcases h2.newB b o hbo with hx | ⟨p, hp, rfl⟩ | hx
      · obtain ⟨o', ho'⟩ := Option.isSome_iff_exists.1 hx
        rcases hb b o' ho' with hy | hy
        · exact .inl hy
        · exact .inr (.inl hy)
      · obtain ⟨q, hq, e⟩ := hl p hp
        exact .inr (.inl ⟨q, hq, e⟩)
      · exact .inr (.inr hx)
    · rcases h2.newL p hp with ⟨q, hq, e⟩ | hx
      · obtain ⟨r, hr, e'⟩ := hl q hq
        exact .inl ⟨r, hr, e'.trans e⟩
      · exact .inr hx
  step := fun {g B L} hg h w s => by
    obtain ⟨g', w₁, es, B₁, L₁, h1, _, h3, h4⟩ := h w s
    obtain ⟨hg', fr, cs, w₂, B₂, L₂, h5, h6, h7⟩ := h4 w₁ h3.sat
    refine ⟨hg, fr, cs, w₂, B₂, L₂, Steps.head (step_lone_go ?_) h5, h3.trans h6, h7⟩
    have e1 : (G g.frame g.callers) = { frame := g.frame, callers := g.callers, status := .running, dying := none } := rfl
    rw [← e1, ← hg, h1]
    simp only [GStep.bare]
    rw [hg']
    rfl

/-- A body walked: the kit's contract of the function, in a world of which nothing is owned and all is known. -/
def allOf (w : World) : Kn := ⟨fun b => w.heap[b]?⟩
theorem allSat (w : World) : Sat (allOf w) [] w := ⟨fun _ _ h => h, (fun _ h => by cases h), by simp, (fun _ h => by cases h)⟩
theorem grown_of {w w' : World} {B' : Kn} {L' : Cells} (h : Ok (allOf w) [] w B' L' w') : Go.RowKit.Grown w w' := by
  refine ⟨⟨h.os, h.output, fun i hi => ?_⟩, h.fz, h.size⟩
  rw [h.keep i hi (fun _ hp => by cases hp)]
  cases w.heap[i]? with
  | none => trivial
  | some o => cases o <;> first | rfl | exact .inr ⟨rfl, rfl⟩ | exact ⟨rfl, rfl, rfl, fun _ _ => rfl⟩

/-- What was there is there as it was. -/
def Kept (w w' : World) : Prop := (∀ b, b < w.heap.size → w'.heap[b]? = w.heap[b]?) ∧ Go.RowKit.Grown w w'
theorem kept_of {w w' : World} {B' : Kn} {L' : Cells} (h : Ok (allOf w) [] w B' L' w') : Kept w w' :=
  ⟨fun b hb => h.keep b hb (fun _ hp => by cases hp), grown_of h⟩
theorem Kept.same {w w' : World} (h : Kept w w') {p : MemPlace} (hp : p.block < w.heap.size) : w.sameAt w' p := by
  cases p with
  | cell b off =>
    have := h.1 b hp
    simp only [World.sameAt, World.cell?, this]
  | map b => exact h.1 b hp
theorem Sat.left {B : Kn} {L L' : Cells} {w : World} (s : Sat B (L ++ L') w) : Sat B L w := by
  refine ⟨s.ro, fun p hp => s.own p (List.mem_append.2 (.inl hp)), ?_, fun p hp => s.apart p (List.mem_append.2 (.inl hp))⟩
  have := s.nodup
  rw [List.map_append] at this
  exact (List.nodup_append.1 this).1

theorem calls_of {P : Program} {f : FuncId} {fn : Func} {code : Code} {t : Tmp} (n : Nat) (hf : P.funcs[f]? = some fn) (hbd : fn.body = some code) (hn : fn.ntmps = n) (hrs : fn.results.toList = [.tmp t]) {args : List Value} (ha : args.length ≤ n) {Post : Value → Kn → List Cells → Prop} {w : World}
    (h : wpS P n code (bodyQ P [.tmp t] Post) (argEnv args 0) [] (allOf w) []) : Calls P f args.toArray w (fun e w' => ∃ v, e = .returned v ∧ Kept w w' ∧ ∃ B' Ls', Sat B' Ls'.flatten w' ∧ Post v B' Ls') := by
  intro cs
  let b0 : Frame := { fn := f, tmps := #[], todo := [], defers := [], mode := .run, kind := .normal }
  let T0 : Array Value := args.toArray ++ Array.replicate (n - args.length) undef
  have hen : Frame.enter P f args.toArray .normal = fat b0 T0 [] [.code code] := by
    simp [Frame.enter, fat, hf, hbd, hn, b0, T0]
  have hT : Ag T0 (argEnv args 0) := fun i v hv => by
    obtain ⟨_, h2⟩ := argEnv_get args 0 i v hv
    have hlt := lt_of_some (a := args.toArray) (i := i) (x := v) (by simpa using h2)
    simp only [T0]
    rw [Array.getElem?_append_left hlt]
    simpa using h2
  let Stop : Frame → List Frame → World → Kn → Cells → Prop := fun fr cs' w' B' L' => cs' = cs ∧ fr.fn = f ∧ ∃ v Ls', fr.leaving P w' (.returned v) ∧ Post v B' Ls' ∧ Sat B' Ls'.flatten w'
  have key := h ⟨loneL P Stop, b0, cs, [], by simp [b0]⟩ [] T0 (by simp [T0]; omega) hT fun e S' D' B' L' T' hle hq hn' hT' => by
    obtain ⟨he, rfl, vs, Lr, hr, ⟨gl, hp⟩, hq⟩ := hq
    have fin : ∀ fr : Frame, fr.fn = f → fr.mode = .returning → fr.defers = [] → fr.kind = .normal → fr.tmps = T' → (loneL P Stop).R (G fr cs) B' (L'.flatten ++ []) := fun fr f1 f2 f3 f4 f5 w₁ s₁ => by
      refine ⟨rfl, fr, cs, w₁, B', L'.flatten ++ [], Steps.refl _ _, Ok.refl s₁, rfl, f1, resVal vs, Lr, ?_, hq, ?_⟩
      · refine ⟨f2, f3, f4, fn, by rw [f1]; exact hf, ?_⟩
        match vs, hr with
        | [v], ⟨h1, _⟩ =>
          have hr2 : fn.results = #[.tmp t] := by apply Array.ext'; rw [hrs]
          have h2 := hT' t v h1
          simp [results, hr2, f5, resVal, Sem.run, Array.getD_eq_getD_getElem?, h2, Pure.pure, Bind.bind, Sem.bind, Functor.map]
      · exact (s₁.perm (by rw [List.append_nil]; exact hp)).left
    rcases he with rfl | rfl
    · refine ⟨rfl, fun todo => ?_⟩
      exact fin _ rfl rfl rfl rfl rfl
    · exact (loneL P Stop).ctl rfl (fun w => st_end rfl) (fin _ rfl rfl rfl rfl rfl)
  rw [hen]
  obtain ⟨_, fr, cs', w', B', L', h1, h2, rfl, h3, v, Ls', h4, h5, h6⟩ := key w (by simpa using allSat w)
  refine ⟨.returned v, w', fr, ⟨v, rfl, kept_of (by simpa using h2), B', Ls', h6, h5⟩, h1, h3, h4⟩
end Go.BL
