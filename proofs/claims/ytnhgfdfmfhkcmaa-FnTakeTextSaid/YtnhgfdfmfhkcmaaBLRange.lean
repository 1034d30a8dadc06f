/-
  BL: 'for .. range f' over a function: its loop in memory, its rounds, its end.
-/
import Derived.Test.YtnhgfdfmfhkcmaaBLBorrow
namespace Go.BL
open Go.Conc (G)
set_option linter.unusedVariables false

section
variable {P : Program} {B : Kn} {L L₁ : Cells} {l : Nat} {lp : Loop}
theorem hb_getLoop {Q : Loop → Kn → Cells → Prop} (h : HasO B L l (.loop lp)) (q : Q lp B L) : hb P (Instr.getLoop l) Q B L := by
  simp only [Instr.getLoop, hb_bind]
  exact ⟨.loop lp, h, rfl, rfl, q⟩
theorem perm_has (hp : L.Perm ((l, .loop lp) :: L₁)) : HasO B L l (.loop lp) := .inr (hp.mem_iff.2 (List.mem_cons_self ..))
theorem hb_yield {Q : Next → Kn → Cells → Prop} {args : Array Value} (h : HasO B L l (.loop lp)) (hs : args.size = lp.params.size)
    (q : Q (.round l lp.fn ((lp.params.zip args).foldl (fun tmps (x : Tmp × Value) => tmps.setIfInBounds x.1 x.2) lp.tmps) lp.assign lp.body) B L) : hb P (Instr.yield l args) Q B L := by
  simp only [Instr.yield, hb_bind]
  refine hb_getLoop h ?_
  rw [if_neg (by simp [hs])]
  exact q
theorem hb_beginRound {Q : Unit → Kn → Cells → Prop} (hp : L.Perm ((l, .loop lp) :: L₁)) (hst : lp.state = .ready) (q : Q () B ((l, .loop { lp with state := .busy }) :: L₁)) : hb P (Instr.beginRound l) Q B L := by
  simp only [Instr.beginRound, hb_bind]
  refine hb_getLoop (perm_has hp) ?_
  refine ⟨⟨rfl, rfl⟩, .loop lp, L₁, hp, rfl, ?_⟩
  show hb P (match lp.state with | .ready => _ | .done => _ | .busy => _ | .exhausted => _) Q B _
  rw [hst]
  exact q
theorem hb_endRound {Q : Value → Kn → Cells → Prop} (hp : L.Perm ((l, .loop lp) :: L₁)) (q : Q (.bool true) B ((l, .loop { lp with state := .ready, pending := none }) :: L₁)) : hb P (Instr.endRound l none) Q B L := by
  simp only [Instr.endRound, hb_bind]
  refine hb_getLoop (perm_has hp) ?_
  exact ⟨⟨rfl, rfl⟩, .loop lp, L₁, hp, rfl, q⟩
theorem hb_endLoop {Q : Option Code → Kn → Cells → Prop} (hp : L.Perm ((l, .loop lp) :: L₁)) (hst : (lp.state == .busy) = false) (q : Q lp.pending B ((l, .loop { lp with state := .exhausted }) :: L₁)) : hb P (Instr.endLoop l) Q B L := by
  simp only [Instr.endLoop, hb_bind]
  refine hb_getLoop (perm_has hp) ?_
  simp only [hst, Bool.false_eq_true, if_false, hb_bind]
  exact ⟨⟨rfl, rfl⟩, .loop lp, L₁, hp, rfl, q⟩
theorem hb_enterLoop {Q : Nat × List Deferred → Kn → Cells → Prop} {fn : FuncId} {T : Array Value} {ps : Array Tmp} {asg body : Code}
    (q : ∀ r l, Q (l, [{ target := .collected r, args := #[] }]) B ((l, .loop { state := .ready, pending := none, fn := fn, tmps := T, params := ps, assign := asg, body := body, defers := r }) :: (r, .deferred (some [])) :: L)) : hb P (Instr.enterLoop fn T ps asg body none) Q B L := by
  simp only [Instr.enterLoop, hb_bind]
  refine ⟨rfl, fun r _ _ => ?_⟩
  refine ⟨rfl, fun l _ _ => ?_⟩
  exact q r l
theorem hb_takeDeferred {Q : List Deferred → Kn → Cells → Prop} {r : Nat} {ds : List Deferred} (hp : L.Perm ((r, .deferred (some ds)) :: L₁)) (q : Q ds B ((r, .deferred none) :: L₁)) : hb P (Instr.takeDeferred r) Q B L := by
  simp only [Instr.takeDeferred, hb_bind]
  refine ⟨.deferred (some ds), .inr (hp.mem_iff.2 (List.mem_cons_self ..)), rfl, rfl, ?_⟩
  exact ⟨⟨rfl, rfl⟩, .deferred (some ds), L₁, hp, rfl, q⟩
end

section moves
variable {P : Program} {X : Lg P} {b : Frame} {T : Array Value} {D : List Deferred} {k : List Item} {cs : List Frame} {B : Kn} {L L₁ : Cells} {l : Nat} {lp : Loop}
theorem x_begin (hr : b.roundOf = some l) (hke : b.kind ≠ .early) (hp : L.Perm ((l, .loop lp) :: L₁)) (hst : lp.state = .ready)
    (h : X.R (G (fat b T D k) cs) B ((l, .loop { lp with state := .busy }) :: L₁)) : X.R (G (fat b T D (.beginRound :: k)) cs) B L := X.step rfl fun w s => by
  have hq : hb P (do Instr.beginRound l; Pure.pure Next.skip : Sem Next) (fun nx B' L' => nx = .skip ∧ B' = B ∧ L' = (l, .loop { lp with state := .busy }) :: L₁) B L := by
    simp only [hb_bind]
    exact hb_beginRound hp hst ⟨rfl, rfl, rfl⟩
  obtain ⟨a, w', es, B', L', h1, h2, h3, rfl, rfl, rfl⟩ := hb_sound _ _ _ _ hq w #[] s
  simp only [Array.empty_append] at h1
  have ha := apply_skip (fr := fat b T D (.beginRound :: k)) (cs := cs) hke h1
  refine ⟨G (fat b T D k) cs, w', seen P b.fn es, B', _, ?_, fun e he => h2 e (seen_mem he), h3, h⟩
  have ha' : stepG.apply P true (fat b T D (.beginRound :: k)) cs none (do Instr.beginRound l; Pure.pure Next.skip) w = .go (G (fat b T D k) cs) w' (seen P b.fn es) := ha
  simp only [fat, hr, G] at ha'
  simp only [G, stepG, stepG.exec, fat, hr, Option.elim]
  exact ha'
theorem x_roundEnd {c : Frame} (hr : b.roundOf = some l) (hke : b.kind = .normal) (hp : L.Perm ((l, .loop lp) :: L₁))
    (h : X.R (G (c.finish (.bool true)) cs) B ((l, .loop { lp with state := .ready, pending := none }) :: L₁)) : X.R (G (fat b T D []) (c :: cs)) B L := X.step rfl fun w s => by
  have hq : hb P (Instr.endRound l none) (fun v B' L' => v = .bool true ∧ B' = B ∧ L' = (l, .loop { lp with state := .ready, pending := none }) :: L₁) B L := hb_endRound hp ⟨rfl, rfl, rfl⟩
  obtain ⟨a, w', es, B', L', h1, h2, h3, rfl, rfl, rfl⟩ := hb_sound _ _ _ _ hq w #[] s
  simp only [Array.empty_append] at h1
  refine ⟨G (c.finish (.bool true)) cs, w', seen P b.fn es, B', _, ?_, fun e he => h2 e (seen_mem he), h3, h⟩
  have hd : doReturn P X.main (fat b T D []) (c :: cs) none (.bool true) w' = .go (G (c.finish (.bool true)) cs) w' #[] := by simp [doReturn, fat, hke, G]
  simp only [fat, hr, hke, G] at hd
  obtain ⟨r1, r2⟩ := run_of_runT h1
  simp [G, stepG, stepG.exec, fat, hr, hke, r1, r2, GStep.after, hd]
theorem x_endRange (hp : L.Perm ((l, .loop lp) :: L₁)) (hst : (lp.state == .busy) = false) (hpe : lp.pending = none)
    (h : X.R (G (fat b T D k) cs) B ((l, .loop { lp with state := .exhausted }) :: L₁)) : X.R (G (fat b T D (.endRangeFunc l :: k)) cs) B L := X.step rfl fun w s => by
  have hq : hb P (Instr.endLoop l) (fun v B' L' => v = none ∧ B' = B ∧ L' = (l, .loop { lp with state := .exhausted }) :: L₁) B L := hb_endLoop hp hst ⟨hpe, rfl, rfl⟩
  obtain ⟨a, w', es, B', L', h1, h2, h3, rfl, rfl, rfl⟩ := hb_sound _ _ _ _ hq w #[] s
  simp only [Array.empty_append] at h1
  refine ⟨G (fat b T D k) cs, w', seen P b.fn es, B', _, ?_, fun e he => h2 e (seen_mem he), h3, h⟩
  obtain ⟨r1, r2⟩ := run_of_runT h1
  simp [G, stepG, stepG.exec, fat, r1, r2, GStep.after]
theorem x_collect {r : Nat} {todo : List Item} (hp : L.Perm ((r, .deferred (some [])) :: L₁))
    (h : X.R (G { fat b T D todo with mode := .returning } cs) B ((r, .deferred none) :: L₁)) : X.R (G { fat b T ({ target := .collected r, args := #[] } :: D) todo with mode := .returning } cs) B L := X.step rfl fun w s => by
  have hq : hb P (Instr.takeDeferred r) (fun v B' L' => v = [] ∧ B' = B ∧ L' = (r, .deferred none) :: L₁) B L := hb_takeDeferred hp ⟨rfl, rfl, rfl⟩
  obtain ⟨a, w', es, B', L', h1, h2, h3, rfl, rfl, rfl⟩ := hb_sound _ _ _ _ hq w #[] s
  simp only [Array.empty_append] at h1
  refine ⟨G { fat b T D todo with mode := .returning } cs, w', seen P b.fn es, B', _, ?_, fun e he => h2 e (seen_mem he), h3, h⟩
  obtain ⟨r1, r2⟩ := run_of_runT h1
  simp [G, stepG, unwind, fat, r1, r2, GStep.after]
theorem x_range {f : Operand} {F : FuncId} {cap : Array Value} {ps : Array Tmp} {asg body : Code} (hr : b.roundOf = none) (hke : b.kind ≠ .early) (hf : evT T f = .func (.func F) #[] cap) (hen : enters P F = true)
    (h : ∀ r l, X.R (G (Frame.enter P F (#[.func (.yield l) #[] #[]] ++ cap) .normal) (fat b T ({ target := .collected r, args := #[] } :: D) (.inRangeFunc l :: k) :: cs)) B
      ((l, .loop { state := .ready, pending := none, fn := b.fn, tmps := T, params := ps, assign := asg, body := body, defers := r }) :: (r, .deferred (some [])) :: L)) : X.R (G (fat b T D (.code (.rangeFunc f ps asg body) :: k)) cs) B L := X.step rfl fun w s => by
  have hq : hb P (Instr.enterLoop b.fn T ps asg body none) (fun v B' L' => ∃ r l, v = (l, [{ target := .collected r, args := #[] }]) ∧ B' = B ∧ L' = (l, .loop { state := .ready, pending := none, fn := b.fn, tmps := T, params := ps, assign := asg, body := body, defers := r }) :: (r, .deferred (some [])) :: L) B L :=
    hb_enterLoop fun r l => ⟨r, l, rfl, rfl, rfl⟩
  obtain ⟨a, w', es, B', L', h1, h2, h3, r, l, rfl, rfl, rfl⟩ := hb_sound _ _ _ _ hq w #[] s
  simp only [Array.empty_append] at h1
  let fr := fat b T ({ target := .collected r, args := #[] } :: D) (.inRangeFunc l :: k)
  let call : Call := { callee := .value f, args := #[.const (.func (.yield l) #[] #[])], argTypes := #[] }
  have hq2 : hb P (do let d ← resolve fr.eval call 0; invoke d.target d.args : Sem Next) (fun nx B₂ L₂ => nx = .enter F (#[.func (.yield l) #[] #[]] ++ cap) ∧ B₂ = B' ∧ L₂ = (l, .loop { state := .ready, pending := none, fn := b.fn, tmps := T, params := ps, assign := asg, body := body, defers := r }) :: (r, .deferred (some [])) :: L) B' ((l, .loop { state := .ready, pending := none, fn := b.fn, tmps := T, params := ps, assign := asg, body := body, defers := r }) :: (r, .deferred (some [])) :: L) := by
    have e1 : fr.eval = evT T := fat_eval b T _ _
    simp only [call, resolve, hb_bind, hb_pure, e1, hf, Deferred.ofValue, invoke]
    refine callFunc_hb hen ⟨?_, rfl, rfl⟩
    simp [evT]
  obtain ⟨a2, w2, es2, B₂, L₂, g1, g2, g3, rfl, rfl, rfl⟩ := hb_sound _ _ _ _ hq2 w' #[] h3.sat
  simp only [Array.empty_append] at g1
  have ha := apply_enter (fr := fr) (cs := cs) hke (by intro a b c d r; simp [fr, fat]) g1
  refine ⟨_, w2, seen P b.fn es ++ seen P b.fn es2, B₂, _, ?_, fun e he => ?_, h3.trans g3, h r l⟩
  · have ha' : stepG.apply P true fr cs none (do let d ← resolve fr.eval call 0; invoke d.target d.args) w' = .go (G (Frame.enter P F (#[.func (.yield l) #[] #[]] ++ cap) .normal) (fr :: cs)) w2 (seen P b.fn es2) := ha
    simp only [fr, fat, call, hr, G] at ha'
    simp only [G, stepG, stepG.exec, fat, hr, h1, GStep.after, List.singleton_append, ha']
  · rcases Array.mem_append.1 he with he | he
    · exact h2 e (seen_mem he)
    · exact Ev.after h3 (g2 e (seen_mem he))
end moves
end Go.BL
namespace Go.BL
open Go.Conc (G)
/-- A round of a loop over a function, begun with these temporaries. -/
def RoundB (P : Program) (l : Nat) (fn : FuncId) (T : Array Value) (asg body : Code) (B : Kn) (s : Cells) (Post : Kn → Cells → Prop) : Prop :=
  ∀ (X : Lg P) (c : Frame) (cs : List Frame) (F : Cells), (∀ B' s', B.le B' → Post B' s' → X.R (G (c.finish (.bool true)) cs) B' (s' ++ F)) → X.R (G (Frame.round l fn T asg body .normal) (c :: cs)) B (s ++ F)
/-- What the end of a round's body owes. -/
def rndQ (l : Nat) (lp : Loop) (Post : Kn → Cells → Prop) : Exit → Post4 := fun e S D B L =>
  e = .normal ∧ L[0]? = some [(l, .loop { lp with state := .busy })] ∧ ∃ s' gl, ((L.set 0 [(l, .loop { lp with state := .ready, pending := none })]).flatten).Perm (s' ++ gl) ∧ Post B s'
theorem roundB_of {P : Program} {l : Nat} {fn : FuncId} {n : Nat} {T : Array Value} {asg body : Code} {B : Kn} {s : Cells} {Post : Kn → Cells → Prop} {lp : Loop} {L : List Cells} (hT : T.size = n) (S : Env) (hS : Ag T S) (hs : s.Perm ((l, .loop lp) :: L.flatten)) (hst : lp.state = .ready)
    (h : wpS P n asg (fun e S' D' B' L' => e = .normal ∧ D' = [] ∧ L'[0]? = some [(l, .loop lp)] ∧ wpS P n body (rndQ l lp Post) S' [] B' (L'.set 0 [(l, .loop { lp with state := .busy })])) S [] B ([(l, .loop lp)] :: L)) : RoundB P l fn T asg body B s Post := fun X c cs F hA => by
  let b0 : Frame := { fn := fn, tmps := #[], todo := [], defers := [], mode := .run, kind := .normal, roundOf := some l }
  have e0 : Frame.round l fn T asg body .normal = fat b0 T [] [.code asg, .beginRound, .code body] := rfl
  rw [e0]
  refine X.perm (L' := ([(l, .loop lp)] :: L).flatten ++ F) (by simpa using hs.append_right F) ?_
  refine h ⟨X, b0, c :: cs, F, by simp [b0]⟩ [.beginRound, .code body] T hT hS fun e S' D' B' L' T' hle hq hn' hT' => ?_
  obtain ⟨rfl, rfl, h0, hb⟩ := hq
  obtain ⟨r, p1, p2⟩ := set_perm F [(l, .loop { lp with state := .busy })] h0
  refine x_begin rfl (by simp [b0]) (by simpa using p1) hst ?_
  refine X.perm (by simpa using p2.symm) ?_
  refine hb ⟨X, b0, c :: cs, F, by simp [b0]⟩ [] T' hn' hT' fun e₂ S₂ D₂ B₂ L₂ T₂ hle₂ hq₂ hn₂ hT₂ => ?_
  obtain ⟨rfl, h1, s', gl, hp, hq⟩ := hq₂
  obtain ⟨r₂, p3, p4⟩ := set_perm F [(l, .loop { lp with state := .ready, pending := none })] h1
  refine x_roundEnd rfl rfl (lp := { lp with state := .busy }) (by simpa using p3) ?_
  refine X.drop (r := s' ++ F) (gl := gl) ?_ (hA B₂ s' (hle.trans hle₂) hq)
  refine (List.Perm.trans (by simpa using p4.symm) (hp.append_right F)).trans ?_
  rw [List.append_assoc, List.append_assoc]
  exact List.Perm.append_left _ List.perm_append_comm
theorem apply_round {P : Program} {fr : Frame} {cs : List Frame} {s : Sem Next} {w w' : World} {l : Nat} {f : FuncId} {T : Array Value} {asg body : Code} {es : Array Event} (hk : fr.kind ≠ .early) (h : s.runT P w #[] = (.ok (.round l f T asg body) w', es)) :
    stepG.apply P true fr cs none s w = .go (G (Frame.round l f T asg body .normal) (fr :: cs)) w' (seen P fr.fn es) := by
  have hk' : (fr.kind == CallKind.early) = false := by simpa using hk
  obtain ⟨hr, he⟩ := run_of_runT h
  rw [← he]
  simp [stepG.apply, hr, hk', GStep.after, G]
section
variable {P : Program} {n : Nat} {ops : Array Oper} {i : Nat} {K : PostV} {S : Env} {D : List Deferred} {B : Kn} {L : List Cells} {Q : Exit → Post4}
variable {dst : Option Tmp} {ty : TypeId} {pos : String} {after : Array Edge} {g : Option (Nat × Bool)}
def argsT (ps : Array Tmp) (T : Array Value) (vs : List Value) : Array Value := (ps.zip vs.toArray).foldl (fun tmps (x : Tmp × Value) => tmps.setIfInBounds x.1 x.2) T
/-- The function that is ranged over hands on its values: a round. -/
theorem w_callY {x : Operand} {l j : Nat} {s : Cells} {lp : Loop} {xs : List Operand} {vs : List Value} {ats : Array TypeId} {Post : Kn → Cells → Prop} (hj : L[j]? = some s) (hl : (l, Obj.loop lp) ∈ s) (hg : guardOk ops S g = some true) (hd : dstOk n dst = true)
    (hx : ev S x = some (.func (.yield l) #[] #[])) (ha : evs S xs = some vs) (hs : vs.length = lp.params.size) (hc : RoundB P l lp.fn (argsT lp.params lp.tmps vs) lp.assign lp.body B s Post)
    (h : ∀ B' s', B.le B' → Post B' s' → K (.bool true) D B' (L.set j s')) : opX P n ops i ⟨dst, .call ⟨.value x, xs.toArray, ats⟩, ty, pos, after, g⟩ K S D B L := ⟨hd, fun C todo k T ho hn hT hA => by
  refine C.X.step rfl fun w st => ?_
  have hq : hb P (execOp (evT T) ⟨dst, .call ⟨.value x, xs.toArray, ats⟩, ty, pos, after, g⟩) (fun nx B' L' => nx = .round l lp.fn (argsT lp.params lp.tmps vs) lp.assign lp.body ∧ B' = B ∧ L' = L.flatten ++ C.F) B (L.flatten ++ C.F) := by
    simp only [execOp, resolve, ev_evT hT hx, Deferred.ofValue, hb_bind, hb_pure, invoke]
    refine hb_yield (lp := lp) (.inr (List.mem_append.2 (.inl (List.mem_flatten.2 ⟨s, List.mem_of_getElem? hj, hl⟩)))) ?_ ⟨?_, rfl, rfl⟩
    · rw [List.map_toArray, evs_evT hT ha]; simpa using hs
    · rw [List.map_toArray, evs_evT hT ha]; simp [argsT]
  obtain ⟨a, w', es, B', L', h1, h2, h3, rfl, rfl, rfl⟩ := hb_sound _ _ _ _ hq w #[] st
  simp only [Array.empty_append] at h1
  rw [st_oper rfl ho (guardOk_wanted hT hg)]
  have hk : (fat C.b T D (.inRegion ops (i :: todo) :: k)).kind ≠ .early := C.early
  refine ⟨_, w', _, B', L.flatten ++ C.F, apply_round hk h1, fun e he => h2 e (seen_mem he), h3, ?_⟩
  obtain ⟨r, p1, p2⟩ := set_perm C.F [] hj
  refine C.X.perm p1 (hc C.X _ C.cs r fun B₂ s' hle hp => ?_)
  obtain ⟨r2, p3, p4⟩ := set_perm C.F s' hj
  have hr : r.Perm r2 := (List.perm_append_left_iff s).1 (p1.symm.trans p3)
  show C.X.R (G ((fat C.b T D (.inRegion ops (i :: todo) :: k)).finish (.bool true)) C.cs) B₂ _
  rw [fat_finish ho]
  exact C.X.perm ((List.Perm.append_left s' hr).trans p4.symm) (hA _ D B₂ (L.set j s') hle (h B₂ s' hle hp))⟩
/-- THE JUDGEMENT of code that is no round's. -/
def wpT (P : Program) (n : Nat) (c : Code) (Q : Exit → Post4) : Post4 := fun S D B L =>
  ∀ (C : Cx P) (k : List Item) (T : Array Value), C.b.roundOf = none → T.size = n → Ag T S →
    (∀ e S' D' B' L' T', B.le B' → Q e S' D' B' L' → T'.size = n → Ag T' S' → After C k T' D' B' L' e) → C.X.R (G (fat C.b T D (.code c :: k)) C.cs) B (L.flatten ++ C.F)
theorem t_of {c : Code} (h : wpS P n c Q S D B L) : wpT P n c Q S D B L := fun C k T _ hn hT hA => h C k T hn hT hA
theorem t_seq {x y : Code} (h : wpS P n x (thn (wpT P n y Q) Q) S D B L) : wpT P n (.seq x y) Q S D B L := fun C k T hr hn hT hA => by
  refine C.X.ctl rfl (fun w => st_seq) (h C (.code y :: k) T hn hT fun e S' D' B' L' T' hle hq hn' hT' => ?_)
  cases e with
  | normal => exact hq C k T' hr hn' hT' fun e₂ S₂ D₂ B₂ L₂ T₂ hle₂ hq₂ => hA e₂ S₂ D₂ B₂ L₂ T₂ (hle.trans hle₂) hq₂
  | exit id => exact After.push rfl (by simp) (hA (.exit id) S' D' B' L' T' hle hq hn' hT')
  | ret => exact After.push (x := .code y) rfl (by simp) (hA .ret S' D' B' L' T' hle hq hn' hT')
  | goto l => exact (hA (.goto l) S' D' B' L' T' hle hq hn' hT')
  | panic ch => exact (hA (.panic ch) S' D' B' L' T' hle hq hn' hT')
  | outgrown => exact (hA .outgrown S' D' B' L' T' hle hq hn' hT')
theorem t_seqT {x y : Code} (h : wpT P n x (thn (wpS P n y Q) Q) S D B L) : wpT P n (.seq x y) Q S D B L := fun C k T hr hn hT hA => by
  refine C.X.ctl rfl (fun w => st_seq) (h C (.code y :: k) T hr hn hT fun e S' D' B' L' T' hle hq hn' hT' => ?_)
  cases e with
  | normal => exact hq C k T' hn' hT' fun e₂ S₂ D₂ B₂ L₂ T₂ hle₂ hq₂ => hA e₂ S₂ D₂ B₂ L₂ T₂ (hle.trans hle₂) hq₂
  | exit id => exact After.push rfl (by simp) (hA (.exit id) S' D' B' L' T' hle hq hn' hT')
  | ret => exact After.push (x := .code y) rfl (by simp) (hA .ret S' D' B' L' T' hle hq hn' hT')
  | goto l => exact (hA (.goto l) S' D' B' L' T' hle hq hn' hT')
  | panic ch => exact (hA (.panic ch) S' D' B' L' T' hle hq hn' hT')
  | outgrown => exact (hA .outgrown S' D' B' L' T' hle hq hn' hT')
theorem t_block {id : Nat} {c : Code} (h : wpT P n c (inB id Q) S D B L) : wpT P n (.block id c) Q S D B L := fun C k T hr hn hT hA => by
  refine C.X.ctl rfl (fun w => st_block) (h C (.inBlock id :: k) T hr hn hT fun e S' D' B' L' T' hle hq hn' hT' => ?_)
  cases e with
  | normal => exact C.X.ctl rfl (fun w => st_inBlock) (hA .normal S' D' B' L' T' hle hq hn' hT')
  | exit id' =>
    by_cases hid : id' = id
    · subst hid
      have hq' : Q .normal S' D' B' L' := by simpa [inB] using hq
      exact ⟨k, by simp [exitTo], hA .normal S' D' B' L' T' hle hq' hn' hT'⟩
    · have hb : Nat.beq id' id = false := by
        cases h : Nat.beq id' id with
        | false => rfl
        | true => exact absurd (Nat.eq_of_beq_eq_true h) hid
      have hq' : Q (.exit id') S' D' B' L' := by simpa [inB, hb] using hq
      obtain ⟨k', hk', hg⟩ := hA (.exit id') S' D' B' L' T' hle hq' hn' hT'
      have : (id == id') = false := by simp; exact fun h => hid h.symm
      exact ⟨k', by simp [exitTo, this, hk'], hg⟩
  | ret => exact hA .ret S' D' B' L' T' hle hq hn' hT'
  | goto l => exact hA (.goto l) S' D' B' L' T' hle hq hn' hT'
  | panic ch => exact hA (.panic ch) S' D' B' L' T' hle hq hn' hT'
  | outgrown => exact hA .outgrown S' D' B' L' T' hle hq hn' hT'
theorem t_seq_region {id : Nat} {l : List Oper} {y : Code} (h : runW P n l.toArray 0 l (wpT P n y Q) S D B L) : wpT P n (.seq (.region id l.toArray false) y) Q S D B L :=
  t_seq (w_region h)
theorem t_keep {c : Code} (S' : Env) (hs : Sub S' S) (h : wpT P n c Q S' D B L) : wpT P n c Q S D B L := fun C k T hr hn hT hA => h C k T hr hn (hT.sub hs) hA
theorem t_tidy {c : Code} (S' : Env) (L' : List Cells) (hs : Sub S' S) (hl : L = L') (h : wpT P n c Q S' D B L') : wpT P n c Q S D B L := by subst hl; exact t_keep S' hs h
theorem t_pub {c : Code} (i : Nat) {l : Cells} (hi : L[i]? = some l) (h : ∀ B', B.le B' → (∀ p, p ∈ l → B'.mem p.1 = some p.2) → wpT P n c Q S D B' (L.set i [])) : wpT P n c Q S D B L := fun C k T hr hn hT hA => by
  obtain ⟨r, h1, h2⟩ := set_perm C.F [] hi
  exact C.X.publish rfl h1 fun B' hle hm => C.X.perm (by simpa using h2.symm) (h B' hle hm C k T hr hn hT fun e S' D' B'' L' T' hle' hq => hA e S' D' B'' L' T' (hle.trans hle') hq)
/-- A LOOP OVER A FUNCTION, by the function's contract. -/
theorem t_range {f : Operand} {F : FuncId} {cap : Array Value} {ps : Array Tmp} {asg body : Code} {J : Kn → List Cells → Prop} (hf : ev S f = some (.func (.func F) #[] cap)) (hen : enters P F = true)
    (hc : ∀ fn T r l, T.size = n → Ag T S → CallsB P F (.func (.yield l) #[] #[] :: cap.toList) B [(l, .loop { state := .ready, pending := none, fn := fn, tmps := T, params := ps, assign := asg, body := body, defers := r }) :: L.flatten] (fun v B' Ls => ∃ lp L' s, Ls = [s] ∧ s.Perm ((l, Obj.loop lp) :: L'.flatten) ∧ (lp.state == .busy) = false ∧ lp.pending = none ∧ J B' L'))
    (h : ∀ r B' L', B.le B' → J B' L' → Q .normal S ({ target := .collected r, args := #[] } :: D) B' (L' ++ [[(r, .deferred (some []))]])) : wpT P n (.rangeFunc f ps asg body) Q S D B L := fun C k T hr hn hT hA => by
  refine x_range hr C.early (ev_evT hT hf) hen fun r l => ?_
  have e1 : (#[Value.func (.yield l) #[] #[]] ++ cap) = (Value.func (.yield l) #[] #[] :: cap.toList).toArray := by apply Array.ext'; simp
  rw [e1]
  refine C.X.perm (L' := [(l, Obj.loop { state := .ready, pending := none, fn := C.b.fn, tmps := T, params := ps, assign := asg, body := body, defers := r }) :: L.flatten].flatten ++ ((r, .deferred (some [])) :: C.F)) ?_ (hc C.b.fn T r l hn hT C.X .normal _ C.cs ((r, .deferred (some [])) :: C.F) (.inl rfl) fun v B' Ls hle hq => ?_)
  · simp only [List.flatten_cons, List.flatten_nil, List.append_nil, List.cons_append]
    exact List.Perm.cons _ List.perm_middle.symm
  · obtain ⟨lp, L', s, rfl, hsp, h1, h2, hJ⟩ := hq
    show C.X.R (G (fat C.b T ({ target := .collected r, args := #[] } :: D) (.endRangeFunc l :: k)) C.cs) B' _
    refine x_endRange (lp := lp) (L₁ := L'.flatten ++ ((r, .deferred (some [])) :: C.F)) (by simpa using hsp.append_right ((r, .deferred (some [])) :: C.F)) h1 h2 ?_
    refine C.X.drop (r := (L' ++ [[(r, Obj.deferred (some []))]]).flatten ++ C.F) (gl := [(l, .loop { lp with state := .exhausted })]) ?_ (hA .normal S _ B' _ T hle (h r B' L' hle hJ) hn hT)
    refine List.perm_append_comm (l₁ := [(l, Obj.loop { lp with state := .exhausted })]) |>.trans ?_
    simp
end
/-- What the end of a body owes that has ranged over a function once. -/
def bodyR (P : Program) (rs : List ResultVar) (Post : Value → Kn → List Cells → Prop) : Exit → Post4 := fun e S D B L =>
  (e = .ret ∨ e = .normal) ∧ ∃ r j, D = [{ target := .collected r, args := #[] }] ∧ L[j]? = some [(r, .deferred (some []))] ∧ ∃ vs Lr, resAll P S B (L.set j []) rs vs ∧ (∃ gl, (L.set j []).flatten.Perm (Lr.flatten ++ gl)) ∧ Post (resVal vs) B Lr
theorem callsB_bodyT {P : Program} {f : FuncId} {fn : Func} {code : Code} {rs : List ResultVar} (n : Nat) (hf : P.funcs[f]? = some fn) (hb : fn.body = some code) (hn : fn.ntmps = n) (hrs : fn.results.toList = rs) {args : List Value} (ha : args.length ≤ n) {B : Kn} {Ls : List Cells} {Post : Value → Kn → List Cells → Prop}
    (h : wpT P n code (bodyR P rs Post) (argEnv args 0) [] B Ls) : CallsB P f args B Ls Post := fun X kind c cs F hk hA => by
  have hke : kind ≠ .early := by rcases hk with rfl | ⟨rfl, _⟩ <;> simp
  let b0 : Frame := { fn := f, tmps := #[], todo := [], defers := [], mode := .run, kind := kind }
  let T0 : Array Value := args.toArray ++ Array.replicate (n - args.length) undef
  have hen : Frame.enter P f args.toArray kind = fat b0 T0 [] [.code code] := by
    simp [Frame.enter, fat, hf, hb, hn, b0, T0]
  rw [hen]
  have hT : Ag T0 (argEnv args 0) := fun i v hv => by
    obtain ⟨_, h2⟩ := argEnv_get args 0 i v hv
    have hlt := lt_of_some (a := args.toArray) (i := i) (x := v) (by simpa using h2)
    simp only [T0]
    rw [Array.getElem?_append_left hlt]
    simpa using h2
  refine h ⟨X, b0, c :: cs, F, hke⟩ [] T0 rfl (by simp [T0]; omega) hT fun e S' D' B' L' T' hle hq hn' hT' => ?_
  obtain ⟨he, r, j, rfl, hj, vs, Lr, hr, ⟨gl, hp⟩, hq⟩ := hq
  rw [← hrs] at hr
  have key : ∀ todo, X.R (G { fat b0 T' [{ target := .collected r, args := #[] }] todo with mode := .returning } (c :: cs)) B' (L'.flatten ++ F) := fun todo => by
    obtain ⟨q, p1, p2⟩ := set_perm F [] hj
    refine x_collect (L₁ := q) (by simpa using p1) ?_
    refine X.drop (r := (L'.set j []).flatten ++ F) (gl := [(r, .deferred none)]) ?_ ?_
    · refine (List.Perm.cons _ (by simpa using p2.symm)).trans ?_
      exact List.perm_append_comm (l₁ := [(r, Obj.deferred none)])
    · exact leave_step hf hk rfl rfl rfl rfl hT' hr hp (hA _ B' Lr hle hq)
  rcases he with rfl | rfl
  · exact ⟨rfl, key⟩
  · exact X.ctl rfl (fun w => st_end rfl) (key _)
end Go.BL
