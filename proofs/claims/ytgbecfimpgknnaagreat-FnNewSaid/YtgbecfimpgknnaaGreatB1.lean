/-
  THE WALK'S LOGIC: owned cells and known cells, goroutines started and awaited, calls, loops, data, and plain laws on lists: no program in sight.
-/
import Derived.Test.YtgbecfimpgknnaaGreatB0
namespace Go.BL
set_option linter.unusedVariables false
set_option linter.unusedSimpArgs false
set_option linter.unusedSectionVars false
open Go.Conc (G)
set_option linter.unusedVariables false
def zrow (z : List Value) (c : Nat) : List Value := (List.replicate c z).flatten
theorem zrow_len {z : List Value} {c : Nat} : (zrow z c).length = c * z.length := by
  induction c with
  | zero => simp [zrow]
  | succ c ih =>
    simp only [zrow, List.replicate_succ, List.flatten_cons, List.length_append] at ih ⊢
    rw [ih, Nat.succ_mul, Nat.add_comm]
theorem zrow_get {z : List Value} : ∀ {c i : Nat}, i < c * z.length → (zrow z c)[i]? = z[i % z.length]?
  | 0, i, h => by simp at h
  | c + 1, i, h => by
    have e : zrow z (c + 1) = z ++ zrow z c := by simp [zrow, List.replicate_succ]
    rw [e]
    by_cases hi : i < z.length
    · rw [List.getElem?_append_left hi, Nat.mod_eq_of_lt hi]
    · have hz : 0 < z.length := by
        rcases Nat.eq_zero_or_pos z.length with h0 | h0
        · rw [h0] at h; simp at h
        · exact h0
      rw [List.getElem?_append_right (by omega), zrow_get (by rw [Nat.succ_mul] at h; omega)]
      congr 1
      conv => rhs; rw [show i = (i - z.length) + z.length from by omega, Nat.add_mod_right]
theorem zcells_eq {z : List Value} {c : Nat} : (Array.range (c * z.length)).map (fun i => z.toArray[i % z.toArray.size]!) = (zrow z c).toArray := by
  apply Array.ext'
  apply List.ext_getElem?
  intro i
  simp only [Array.toList_map, Array.toList_range, List.getElem?_map, List.size_toArray]
  by_cases hi : i < c * z.length
  · have hz : 0 < z.length := by
      rcases Nat.eq_zero_or_pos z.length with h0 | h0
      · rw [h0] at hi; simp at hi
      · exact h0
    rw [List.getElem?_range hi, zrow_get hi, Option.map_some]
    have hm : i % z.length < z.length := Nat.mod_lt _ hz
    rw [getElem!_pos z.toArray _ (by simpa using hm)]
    simp [List.getElem?_eq_getElem hm]
  · have h1 : (List.range (c * z.length))[i]? = none := by simp; omega
    have h2 : (zrow z c)[i]? = none := by rw [List.getElem?_eq_none_iff, zrow_len]; omega
    rw [h1, h2]; rfl
section
variable {P : PJ} {n : Nat} {ops : Array Oper} {i : Nat} {K : PostV} {S : Env} {D : List Deferred} {B : Kn} {L : List Cells}
variable {dst : Option Tmp} {ty : TypeId} {pos : String} {after : Array Edge} {g : Option (Nat × Bool)}
theorem hb_newRow {P : Program} {B : Kn} {L : Cells} {Q : Addr → Kn → Cells → Prop} {e : TypeId} {cs : Array Value} (h : ∀ b, Q ⟨b, 0, none⟩ B ((b, .cells cs e) :: L)) : hb P (newRow e cs) Q B L := by
  simp only [newRow, hb_bind, hb_pure]
  exact ⟨rfl, fun b _ _ => h b⟩
theorem w_makeSlice {t e : TypeId} {x y : Operand} {m c sz by_ : Nat} {z : Value} (zs : List Value) (hg : guardOk ops S g = some true) (hd : dstOk n dst = true) (he : elemOk P t e sz by_ = true) (hz : zeroOf P e = some z) (hzs : z.cells = zs.toArray) (hzl : zs.length = sz)
    (hx : ∃ k, ∃ q : Int, ev S x = some (.int k q) ∧ q = m) (hy : ∃ k, ∃ q : Int, ev S y = some (.int k q) ∧ q = c) (hmc : m ≤ c) (hfit : c * by_ ≤ 140737488355328)
    (h : ∀ b, K (.slice (some ⟨b, 0, none⟩) m c) D B (L ++ [box1 b (zrow zs c) e])) : opX P n ops i ⟨dst, .makeSlice t x y, ty, pos, after, g⟩ K S D B L :=
  opX_hb hg hd fun ρ hρ F => by
    unfold elemOk at he
    split at he
    · rename_i e' inf hut hie
      simp only [Bool.and_eq_true, beq_iff_eq] at he
      obtain ⟨⟨⟨⟨rfl, hsz⟩, hby⟩, hpos⟩, hzz⟩ := he
      have hby0 : 0 < by_ := by simpa using hpos
      have hsi : sizeIs P e' = some sz := by simp [sizeIs, hie, hsz]
      obtain ⟨k1, q1, h1, rfl⟩ := hx
      obtain ⟨k2, q2, h2, rfl⟩ := hy
      have hc0 : c ≤ 140737488355328 := Nat.le_trans (Nat.le_mul_of_pos_right c hby0) hfit
      have wr : ∀ q : Nat, q ≤ 140737488355328 → IntKind.wrap .i64 (q : Int) = q := fun q hq => wrI64 (by omega) (by omega)
      have t1 : (decide ((c : Int) < 0) || decide ((by_ : Int) * (c : Int) > 2 ^ 48)) = false := by
        have : (by_ : Int) * (c : Int) ≤ 140737488355328 := by
          rw [← Int.natCast_mul]
          have : by_ * c ≤ 140737488355328 := by rw [Nat.mul_comm]; exact hfit
          omega
        simp only [Bool.or_eq_false_iff, decide_eq_false_iff_not]
        refine ⟨by omega, by omega⟩
      have t2 : (decide ((m : Int) < 0) || decide ((m : Int) > (c : Int))) = false := by
        simp only [Bool.or_eq_false_iff, decide_eq_false_iff_not]
        omega
      simp only [execOp, Instr.makeSlice, hb_bind, hb_underlying hut, asInt, asIntOf, hρ x _ h1, hρ y _ h2, hb_pure, hb_typeInfo hie, hby, wr c hc0, wr m (by omega), t1, t2, Bool.false_or, Bool.or_eq_true, Bool.false_eq_true, if_false]
      rw [if_neg (by
        simp only [Bool.or_eq_false_iff] at t1 t2
        rw [t1.1, t1.2, t2.1, t2.2]; simp)]
      simp only [Int.toNat_natCast, hb_bind]
      refine hb_askRoom ?_
      simp only [hb_sizeOf hsi, hb_bind]
      by_cases h0 : c * sz = 0
      · rw [if_pos h0]
        simp only [hb_bind, hb_pure, h0]
        refine hb_newRow fun b => ?_
        have hzr : zrow zs c = [] := List.eq_nil_of_length_eq_zero (by rw [zrow_len, hzl]; exact h0)
        refine ⟨L ++ [box1 b (zrow zs c) e'], ?_, h b⟩
        rw [hzr]
        have e0 : Array.map (fun x => (#[] : Array Value)[x % (#[] : Array Value).size]!) (Array.range 0) = ([] : List Value).toArray := by simp
        rw [e0]
        exact .of (flat_snoc L (box1 b [] e') F)
      · rw [if_neg h0]
        simp only [hb_bind, hb_zeroValue hz, hb_pure, hzs]
        rw [← hzl, zcells_eq]
        refine hb_newRow fun b => ?_
        exact ⟨L ++ [box1 b (zrow zs c) e'], .of (flat_snoc L (box1 b (zrow zs c) e') F), h b⟩
    · cases he
end
section
variable {P : PJ} {C : Cx P} {n : Nat} {k : List Item} {T : Array Value} {S : Env} {D : List Deferred} {B : Kn} {L : List Cells}
theorem cx_seq {x y : Code} (h : C.X.R (G (fat C.b T D (.code x :: .code y :: k)) C.cs) B (L.flatten ++ C.F)) : C.X.R (G (fat C.b T D (.code (.seq x y) :: k)) C.cs) B (L.flatten ++ C.F) :=
  C.X.ctl rfl (fun w => st_seq) h
theorem cx_block {id : Nat} {c : Code} (h : C.X.R (G (fat C.b T D (.code c :: .inBlock id :: k)) C.cs) B (L.flatten ++ C.F)) : C.X.R (G (fat C.b T D (.code (.block id c) :: k)) C.cs) B (L.flatten ++ C.F) :=
  C.X.ctl rfl (fun w => st_block) h
theorem cx_inBlock {id : Nat} (h : C.X.R (G (fat C.b T D k) C.cs) B (L.flatten ++ C.F)) : C.X.R (G (fat C.b T D (.inBlock id :: k)) C.cs) B (L.flatten ++ C.F) :=
  C.X.ctl rfl (fun w => st_inBlock) h
theorem cx_skip (h : C.X.R (G (fat C.b T D k) C.cs) B (L.flatten ++ C.F)) : C.X.R (G (fat C.b T D (.code .skip :: k)) C.cs) B (L.flatten ++ C.F) :=
  C.X.ctl rfl (fun w => st_skip) h
theorem cx_exit {id : Nat} {k' : List Item} (hk : exitTo id k = some k') (h : C.X.R (G (fat C.b T D k') C.cs) B (L.flatten ++ C.F)) : C.X.R (G (fat C.b T D (.code (.exit id) :: k)) C.cs) B (L.flatten ++ C.F) :=
  C.X.ctl rfl (fun w => st_exit hk) h
theorem cx_cond {t : Bool} {c : Operand} {x y : Code} (hc : ev S c = some (.bool t)) (hT : Ag T S) (h : C.X.R (G (fat C.b T D (.code (if t then x else y) :: k)) C.cs) B (L.flatten ++ C.F)) : C.X.R (G (fat C.b T D (.code (.cond c x y) :: k)) C.cs) B (L.flatten ++ C.F) :=
  C.X.ctl rfl (fun w => st_cond (ev_evT hT hc)) h
theorem cx_region {id : Nat} {ops : Array Oper} (h : C.X.R (G (fat C.b T D (.inRegion ops (List.range ops.size) :: k)) C.cs) B (L.flatten ++ C.F)) : C.X.R (G (fat C.b T D (.code (.region id ops false) :: k)) C.cs) B (L.flatten ++ C.F) :=
  C.X.ctl rfl (fun w => st_region) h
theorem cx_region_end {ops : Array Oper} (h : C.X.R (G (fat C.b T D k) C.cs) B (L.flatten ++ C.F)) : C.X.R (G (fat C.b T D (.inRegion ops [] :: k)) C.cs) B (L.flatten ++ C.F) :=
  C.X.ctl rfl (fun w => st_region_end) h
end
theorem sizeOf_events {P : Program} {t : TypeId} {k : Nat} (h : sizeIs P t = some k) (w : World) (es : Array Event) : (sizeOf t).events P w es = es := by
  obtain ⟨i, hi, _⟩ := Option.map_eq_some_iff.1 h
  simp [sizeOf, typeInfo, Go.program, hi, Sem.events, Sem.runT, Bind.bind, Sem.bind, Pure.pure]
section
variable {P : PJ} {C : Cx P} {n : Nat} {k : List Item} {T : Array Value} {S : Env} {D : List Deferred} {B : Kn} {L : List Cells}
theorem cx_reg {id : Nat} {l : List Oper} (hn : T.size = n) (hT : Ag T S) (h : runW P n l.toArray 0 l (fun S' D' B' L' => ∀ T', T'.size = n → Ag T' S' → C.X.R (G (fat C.b T' D' k) C.cs) B' (L'.flatten ++ C.F)) S D B L) : C.X.R (G (fat C.b T D (.code (.region id l.toArray false) :: k)) C.cs) B (L.flatten ++ C.F) := by
  refine C.X.ctl rfl (fun w => st_region) ?_
  rw [List.size_toArray, List.range_eq_range']
  exact runW_sound l 0 (fun j => by simp) h C k T hn hT fun S' D' B' L' T' hle hq hn' hT' => C.X.ctl rfl (fun w => st_region_end) (hq T' hn' hT')
theorem cx_pub {g : Goroutine} (hs : g = G g.frame g.callers) (i : Nat) {l : Cells} (hi : L[i]? = some l) (h : ∀ B', B.le B' → (∀ p, p ∈ l → B'.mem p.1 = some p.2) → C.X.R g B' ((L.set i []).flatten ++ C.F)) : C.X.R g B (L.flatten ++ C.F) := by
  obtain ⟨r, h1, h2⟩ := set_perm C.F [] hi
  exact C.X.publish hs h1 fun B' hle hm => C.X.perm (by simpa using h2.symm) (h B' hle hm)
theorem cx_op {ops : Array Oper} {i : Nat} {todo : List Nat} {o : Oper} (ho : ops[i]? = some o) (hn : T.size = n) (hT : Ag T S) (h : opW P n ops i o (fun S' D' B' L' => ∀ T', T'.size = n → Ag T' S' → C.X.R (G (fat C.b T' D' (.inRegion ops todo :: k)) C.cs) B' (L'.flatten ++ C.F)) S D B L) : C.X.R (G (fat C.b T D (.inRegion ops (i :: todo) :: k)) C.cs) B (L.flatten ++ C.F) :=
  h C todo k T ho hn hT fun S' D' B' L' T' _ hq hn' hT' => hq T' hn' hT'
theorem Ag.sub' {T : Array Value} {S S' : Env} (h : Ag T S) (hs : Sub S' S) : Ag T S' := h.sub hs
end
end Go.BL
namespace Go.BL
set_option linter.unusedVariables false
set_option linter.unusedSimpArgs false
set_option linter.unusedSectionVars false
set_option linter.unusedVariables false
structure SlB {α : Type} (B : Kn) (q : Option Addr) (cp w : Nat) (R : Rel α) (xs : List α) : Prop where
  rows : RowsR B q w R xs
  cap : xs.length ≤ cp
  len : xs.length ≤ 140737488355328
theorem SlB.mono {α : Type} {B B' : Kn} {q : Option Addr} {cp w : Nat} {R : Rel α} {xs : List α} (h : SlB B q cp w R xs) (hR : Mono R) (hle : B.le B') : SlB B' q cp w R xs := ⟨h.rows.mono hR hle, h.cap, h.len⟩
theorem SlB.base {α : Type} {B : Kn} {q : Option Addr} {cp w : Nat} {R : Rel α} {xs : List α} (h : SlB B q cp w R xs) {i : Nat} {z : α} (hz : xs[i]? = some z) : ∃ b o, q = some ⟨b, o, none⟩ := h.rows.base hz
theorem SlB.elem {α : Type} {B : Kn} {b o cp w : Nat} {R : Rel α} {xs : List α} (h : SlB B (some ⟨b, o, none⟩) cp w R xs) {i : Nat} {z : α} (hz : xs[i]? = some z) : ∃ row, R B row z ∧ RowAt' B b (o + i * w) row := h.rows.elem hz
def StrB : Rel Str := fun _ row x => row = [str x] ∧ x.length ≤ 140737488355328
theorem StrB.mono : Mono StrB := fun _ _ _ h => h
def UserB : Rel DUser := fun _ row x => row = [str x.name, str x.pass, .int .i64 x.quota] ∧ x.name.length ≤ 140737488355328 ∧ x.pass.length ≤ 140737488355328
theorem UserB.mono : Mono UserB := fun _ _ _ h => h
def GrantB : Rel DGrant := fun _ row x => row = [str x.user, .int .i64 x.rights] ∧ x.user.length ≤ 140737488355328
theorem GrantB.mono : Mono GrantB := fun _ _ _ h => h
def MailB : Rel DMail := fun _ row x => row = [.int .i64 x.uid, .int .i64 x.flags, str x.text] ∧ x.text.length ≤ 140737488355328
theorem MailB.mono : Mono MailB := fun _ _ _ h => h
def ItemB : Rel DItem := fun B row x => ∃ q cp, row = [.int .i64 x.id, str x.fr, str x.text, .slice q x.left.length cp] ∧ SlB B q cp 1 StrB x.left ∧ x.fr.length ≤ 140737488355328 ∧ x.text.length ≤ 140737488355328
theorem ItemB.mono : Mono ItemB := by rintro B B' hle row x ⟨q, cp, h1, h2, h3, h4⟩; exact ⟨q, cp, h1, h2.mono StrB.mono hle, h3, h4⟩
def FolderB : Rel DFolder := fun B row x => ∃ q cp q' cp', row = [str x.owner, str x.name, .slice q x.grants.length cp, .int .i64 x.next, .slice q' x.mail.length cp'] ∧ SlB B q cp 2 GrantB x.grants ∧ SlB B q' cp' 3 MailB x.mail ∧ x.owner.length ≤ 140737488355328 ∧ x.name.length ≤ 140737488355328
theorem FolderB.mono : Mono FolderB := by rintro B B' hle row x ⟨q, cp, q', cp', h1, h2, h3, h4⟩; exact ⟨q, cp, q', cp', h1, h2.mono GrantB.mono hle, h3.mono MailB.mono hle, h4⟩
end Go.BL
namespace Go.BL
set_option linter.unusedVariables false
set_option linter.unusedSimpArgs false
set_option linter.unusedSectionVars false
open Go.Conc (G)
set_option linter.unusedVariables false
def FolderO (Tg Tm : TypeId) : RelO DFolder := fun row x ins => ∃ q c q' c' i1 i2, row = [str x.owner, str x.name, .slice q x.grants.length c, .int .i64 x.next, .slice q' x.mail.length c'] ∧ ins = i1 ++ i2 ∧ VecR Kn.none i1 q c Tg 2 GrantR x.grants ∧ VecR Kn.none i2 q' c' Tm 3 MailR x.mail ∧
  x.owner.length ≤ 2000000 ∧ x.name.length ≤ 2000000 ∧ x.grants.length ≤ 2000000 ∧ x.mail.length ≤ 2000000
theorem FolderO.known {Tg Tm : TypeId} {B : Kn} {row : List Value} {x : DFolder} {ins : Cells} (h : FolderO Tg Tm row x ins) (hm : ∀ q, q ∈ ins → B.mem q.1 = some q.2) : FolderR B row x := by
  obtain ⟨q, c, q', c', i1, i2, h1, rfl, h2, h3, h4, h5, h6, h7⟩ := h
  exact ⟨q, c, q', c', h1, ⟨h2.rowsF GrantR.any fun p hp => hm p (List.mem_append.2 (.inl hp)), h2.cap, h6⟩, ⟨h3.rowsF MailR.any fun p hp => hm p (List.mem_append.2 (.inr hp)), h3.cap, h7⟩, h4, h5⟩
theorem All3.set {α : Type} {R : RelO α} {rows : List (List Value)} {xs : List α} {s : Cells} (h : All3 R rows xs s) {row : List Value} {z : α} {ins : Cells} (hz : R row z ins) : ∀ k, k < xs.length → ∃ s' gl, All3 R (rows.set k row) (xs.set k z) s' ∧ (s ++ ins).Perm (s' ++ gl) := by
  induction h with
  | nil => intro k hk; simp at hk
  | @cons row0 x ins0 rest rows xs h1 h2 ih =>
    intro k hk
    cases k with
    | zero =>
      refine ⟨ins ++ rest, ins0, .cons hz h2, ?_⟩
      exact permC fun f g h0 ha hc => by simp only [ha]; omega
    | succ k =>
      obtain ⟨s', gl, h3, h4⟩ := ih k (by simpa using hk)
      refine ⟨ins0 ++ s', gl, .cons h1 h3, ?_⟩
      rw [List.append_assoc, List.append_assoc]
      exact List.Perm.append_left _ h4
theorem VecD.ptr {α : Type} {l : Cells} {p : Option Addr} {c : Nat} {T : TypeId} {w : Nat} {R : RelO α} {xs : List α} (h : VecD l p c T w R xs) (hx : 0 < xs.length) : ∃ b, p = some ⟨b, 0, Option.none⟩ := by
  obtain ⟨rows, blk, ins, _, _, _, _, ⟨_, h0, _, _⟩ | ⟨b, arr, rfl, _⟩⟩ := h
  · omega
  · exact ⟨b, rfl⟩
section
variable {P : PJ} {n : Nat} {ops : Array Oper} {i : Nat} {K : PostV} {S : Env} {D : List Deferred} {B : Kn} {L : List Cells} {Q : Exit → Post4}
variable {dst : Option Tmp} {ty : TypeId} {pos : String} {after : Array Edge} {g : Option (Nat × Bool)}
end
section
variable {P : PJ} {n : Nat} {ops : Array Oper} {i : Nat} {K : PostV} {S : Env} {D : List Deferred} {B BV : Kn} {L : List Cells}
variable {dst : Option Tmp} {ty : TypeId} {pos : String} {after : Array Edge} {g : Option (Nat × Bool)}
end
theorem VecR.ptr {α : Type} {B : Kn} {l : Cells} {p : Option Addr} {c : Nat} {T : TypeId} {w : Nat} {R : Rel α} {xs : List α} (h : VecR B l p c T w R xs) (hx : 0 < xs.length) : ∃ b, p = some ⟨b, 0, none⟩ := by
  obtain ⟨rows, _, _, _, ⟨_, h0, _, _⟩ | ⟨b, arr, rfl, _⟩⟩ := h
  · omega
  · exact ⟨b, rfl⟩
def fill {α : Type} (xs : List α) (d : α) (k : Nat) : List α := xs.take k ++ List.replicate (xs.length - k) d
section
variable {P : PJ} {C : Cx P} {k : List Item} {n : Nat} {ops : Array Oper} {i : Nat} {S : Env} {D : List Deferred} {B BV : Kn} {L : List Cells} {Q : Exit → Post4}
variable {α : Type} {xs : List α} {l : Cells} {p : Option Addr} {cp : Nat} {T : TypeId} {w : Nat}
end
end Go.BL
namespace Go.BL
set_option linter.unusedVariables false
set_option linter.unusedSimpArgs false
set_option linter.unusedSectionVars false
open Go.ChangeShapes Go.WideShapes Go.ChangeAt Go.RowKit
set_option linter.unusedVariables false
section
variable {H : Type} (enc : TypeId × Value → H) (P : Program) (W : World)
def OpensP (t : TypeId) (p : List Value → Prop) : Prop := ∀ (fuel : Nat) (cs : List Value) (d : DataW H) (ps : List MemPlace), DataW.trod enc P W 0 (fun _ => true) true fuel t cs = some (d, ps) → (∀ m, m ∈ d.weights P t → m ≤ reachBytes) → p cs
end
section
variable {H : Type} {enc : TypeId × Value → H} {P : Program} {W : World}
theorem OpensP.mono {t : TypeId} {p p' : List Value → Prop} (h : OpensP enc P W t p) (hp : ∀ cs, p cs → p' cs) : OpensP enc P W t p' := fun fuel cs d ps ht hw => hp cs (h fuel cs d ps ht hw)
end
end Go.BL
namespace Go.BL
set_option linter.unusedVariables false
set_option linter.unusedSimpArgs false
set_option linter.unusedSectionVars false
section
variable {P : PJ} {n : Nat} {ops : Array Oper} {i : Nat} {K : PostV} {S : Env} {D : List Deferred} {B : Kn} {L : List Cells}
variable {dst : Option Tmp} {ty : TypeId} {pos : String} {after : Array Edge} {g : Option (Nat × Bool)}
end
end Go.BL
namespace Go.BL
set_option linter.unusedVariables false
set_option linter.unusedSimpArgs false
set_option linter.unusedSectionVars false
open Go
set_option linter.unusedVariables false
set_option linter.unusedSimpArgs false
def nameB (c : UInt8) : Bool := (decide (97 ≤ c.toNat) && decide (c.toNat ≤ 122)) || (decide (48 ≤ c.toNat) && decide (c.toNat ≤ 57))
def nameOk (l : List UInt8) : Bool := l.all nameB && decide (1 ≤ l.length) && decide (l.length ≤ 8)
theorem all_stop {l : List UInt8} {k : Nat} {c : UInt8} (hc : l[k]? = some c) (h : nameB c = false) : l.all nameB = false := by
  rw [Bool.eq_false_iff]; intro ha
  have := List.all_eq_true.1 ha c (List.mem_of_getElem? hc)
  rw [h] at this; cases this
theorem all_step {l : List UInt8} {k : Nat} {c : UInt8} (hc : l[k]? = some c) (h : nameB c = true) (ha : (l.take k).all nameB = true) : (l.take (k + 1)).all nameB = true := by
  rw [List.take_add_one, hc]; simp only [Option.toList_some, List.all_append, ha, List.all_cons, h, List.all_nil]; rfl
def word (l : List UInt8) (i : Nat) : List UInt8 := (l.drop i).takeWhile nameB
def wordOk (w : List UInt8) : Bool := decide (1 ≤ w.length) && decide (w.length ≤ 8)
theorem some_true {o : Option UInt8} {f : UInt8 → Bool} (h : (match o with | some c => f c | none => false) = true) : ∃ c, o = some c ∧ f c = true := by
  cases o with
  | none => cases h
  | some c => exact ⟨c, rfl, h⟩
theorem lt_of_get {α : Type} {l : List α} {k : Nat} {c : α} (h : l[k]? = some c) : k < l.length := (List.getElem?_eq_some_iff.1 h).1
theorem takeWhile_end {p : UInt8 → Bool} : ∀ {m : List UInt8} {k : Nat}, (m.take k).all p = true → (∀ c, m[k]? = some c → p c = false) → m.takeWhile p = m.take k
  | [], k, _, _ => by simp
  | c :: m, 0, _, h => by simp [List.takeWhile, h c rfl]
  | c :: m, k + 1, ha, h => by
    simp only [List.take_succ_cons, List.all_cons, Bool.and_eq_true] at ha
    simp only [List.takeWhile, ha.1, List.take_succ_cons]
    rw [takeWhile_end ha.2 (fun c hc => h c (by simpa using hc))]
theorem word_end {l : List UInt8} {i k : Nat} (ha : ((l.drop i).take k).all nameB = true) (h : ∀ c, l[i + k]? = some c → nameB c = false) : word l i = (l.drop i).take k :=
  takeWhile_end ha (fun c hc => h c (by simpa using hc))
theorem drop_take_word {l : List UInt8} {i k : Nat} : (l.take (i + k)).drop i = (l.drop i).take k := by
  rw [List.drop_take, Nat.add_sub_cancel_left]
theorem two_eq {a b c d : Value} (h : a = c) (h' : b = d) : Value.tuple #[a, b] = Value.tuple #[c, d] := by rw [h, h']
def more : Nat → List UInt8 → Nat → Bool × Nat
  | 0, _, i => (true, i)
  | n + 1, l, i => if l[i]? = some 46 then (if wordOk (word l (i + 1)) = true then more n l (i + 1 + (word l (i + 1)).length) else (false, i + 1 + (word l (i + 1)).length)) else (true, i)
def dom (l : List UInt8) (i : Nat) : Bool × Nat := if wordOk (word l i) = true then more 2 l (i + (word l i).length) else (false, i + (word l i).length)
def domText (l : List UInt8) (i : Nat) : List UInt8 := if (dom l i).1 = true then (l.take (dom l i).2).drop i else []
def domOk (l : List UInt8) (i : Nat) : Bool := (dom l i).1 && decide ((dom l i).2 - i ≤ 20)
theorem dom_bad {l : List UInt8} {i : Nat} (h : wordOk (word l i) = false) : dom l i = (false, i + (word l i).length) := by simp [dom, h]
theorem dom_good {l : List UInt8} {i : Nat} (h : wordOk (word l i) = true) : dom l i = more 2 l (i + (word l i).length) := by simp [dom, h]
theorem word_le {l : List UInt8} {i : Nat} (h : i ≤ l.length) : i + (word l i).length ≤ l.length := by
  have := List.IsPrefix.length_le (List.takeWhile_prefix nameB (l := l.drop i))
  rw [List.length_drop] at this
  unfold word; omega
theorem more_stop {l : List UInt8} {n j : Nat} (h : ¬ l[j]? = some 46) : more n l j = (true, j) := by
  cases n with
  | zero => rfl
  | succ n => rw [more, if_neg h]
theorem more_bad {l : List UInt8} {n j : Nat} (hn : 1 ≤ n) (h : l[j]? = some 46) (hw : wordOk (word l (j + 1)) = false) : more n l j = (false, j + 1 + (word l (j + 1)).length) := by
  cases n with
  | zero => omega
  | succ n => rw [more, if_pos h, if_neg (by simp [hw])]
theorem more_good {l : List UInt8} {n j : Nat} (hn : 1 ≤ n) (h : l[j]? = some 46) (hw : wordOk (word l (j + 1)) = true) : more n l j = more (n - 1) l (j + 1 + (word l (j + 1)).length) := by
  cases n with
  | zero => omega
  | succ n => rw [more, if_pos h, if_pos hw]; rfl
theorem takeWhile_len {p : UInt8 → Bool} : ∀ l : List UInt8, (l.takeWhile p).length = l.length ↔ l.all p = true
  | [] => by simp
  | c :: l => by
    have h := takeWhile_len (p := p) l
    cases hc : p c with
    | true => simp [List.takeWhile, hc] at h ⊢; exact h
    | false => simp [List.takeWhile, hc]
theorem nameOk_word {l : List UInt8} : nameOk l = (wordOk (word l 0) && decide ((word l 0).length = l.length)) := by
  have h := takeWhile_len (p := nameB) l
  have e : word l 0 = l.takeWhile nameB := by simp [word]
  rw [Bool.eq_iff_iff]
  simp only [nameOk, wordOk, e, Bool.and_eq_true, decide_eq_true_eq]
  constructor
  · rintro ⟨⟨h1, h2⟩, h3⟩
    have := h.2 h1
    omega
  · rintro ⟨⟨h1, h2⟩, h3⟩
    exact ⟨⟨h.1 h3, by omega⟩, by omega⟩
theorem more_le {l : List UInt8} : ∀ (n j : Nat), j ≤ l.length → (more n l j).2 ≤ l.length
  | 0, j, h => h
  | n + 1, j, h => by
    rw [more]
    split
    · rename_i e
      have := lt_of_get e
      have h2 := word_le (l := l) (i := j + 1) (by omega)
      split
      · exact more_le n _ h2
      · exact h2
    · exact h
theorem dom_le {l : List UInt8} {i : Nat} (h : i ≤ l.length) : (dom l i).2 ≤ l.length := by
  unfold dom
  have h2 := word_le h
  split
  · exact more_le 2 _ h2
  · exact h2
def glue (a : List UInt8) : List (List UInt8) → List (List UInt8)
  | [] => [a]
  | p :: ps => (a ++ p) :: ps
def cut (x : UInt8) : List UInt8 → List (List UInt8)
  | [] => [[]]
  | c :: r => if c = x then [] :: cut x r else glue [c] (cut x r)
theorem cut_ne (x : UInt8) : ∀ l, cut x l ≠ []
  | [] => by simp [cut]
  | c :: r => by
    rw [cut]
    split
    · simp
    · cases cut x r <;> simp [glue]
theorem glue_nil {m : List (List UInt8)} (h : m ≠ []) : glue [] m = m := by
  cases m with
  | nil => exact absurd rfl h
  | cons p ps => rfl
theorem glue_glue (a b : List UInt8) (m : List (List UInt8)) : glue a (glue b m) = glue (a ++ b) m := by
  cases m <;> simp [glue]
structure CutSt where
  i : Nat
  f : Nat
  m : Nat
  ps : List (List UInt8)
  q : Option Addr
  cp : Nat
  s : Cells
theorem u8_eq {a b : UInt8} (h : (a.toNat : Int) = b.toNat) : a = b := UInt8.toNat_inj.1 (by exact_mod_cast h)
theorem cut_hit {l : List UInt8} {x c : UInt8} {i : Nat} (h : l[i]? = some c) (e : c = x) : cut x (l.drop i) = [] :: cut x (l.drop (i + 1)) := by
  obtain ⟨hlt, he⟩ := List.getElem?_eq_some_iff.1 h
  rw [List.drop_eq_getElem_cons hlt, he, cut, if_pos e]
theorem cut_miss {l : List UInt8} {x c : UInt8} {i : Nat} (h : l[i]? = some c) (e : c ≠ x) : cut x (l.drop i) = glue [c] (cut x (l.drop (i + 1))) := by
  obtain ⟨hlt, he⟩ := List.getElem?_eq_some_iff.1 h
  rw [List.drop_eq_getElem_cons hlt, he, cut, if_neg e]
theorem u8_ne {a b : UInt8} (h : ¬ (a.toNat : Int) = b.toNat) : a ≠ b := fun e => h (by rw [e])
theorem take_more {l : List UInt8} {c : UInt8} {i f : Nat} (h : l[i]? = some c) (hf : f ≤ i) : (l.take i).drop f ++ [c] = (l.take (i + 1)).drop f := by
  have hlt := lt_of_get h
  rw [List.take_add_one, h]
  simp only [Option.toList_some]
  rw [List.drop_append_of_le_length (by rw [List.length_take]; omega)]
theorem glue_hit (a : List UInt8) (m : List (List UInt8)) : glue a ([] :: m) = a :: m := by simp [glue]
def specDom (l : List UInt8) : Bool := (cut 46 l).all nameOk && decide ((cut 46 l).length ≤ 3) && decide (l.length ≤ 20)
theorem glue_len {a : List UInt8} {m : List (List UInt8)} {n : Nat} (h : ∀ p, p ∈ m → p.length ≤ n) : ∀ p, p ∈ glue a m → p.length ≤ a.length + n := by
  cases m with
  | nil => intro p hp; simp [glue] at hp; subst hp; omega
  | cons q qs =>
    intro p hp
    simp only [glue, List.mem_cons] at hp
    rcases hp with rfl | hp
    · rw [List.length_append]; have := h q (List.mem_cons_self ..); omega
    · have := h p (List.mem_cons_of_mem _ hp); omega
theorem cut_len (x : UInt8) : ∀ (l p : List UInt8), p ∈ cut x l → p.length ≤ l.length
  | [], p, h => by simp [cut] at h; subst h; simp
  | c :: r, p, h => by
    rw [cut] at h
    split at h
    · rcases List.mem_cons.1 h with rfl | h
      · simp
      · have := cut_len x r p h; simp; omega
    · have := glue_len (cut_len x r) p h; simp at this ⊢; omega
theorem all_stop2 {l : List (List UInt8)} {k : Nat} {c : List UInt8} (hc : l[k]? = some c) (h : nameOk c = false) : l.all nameOk = false := by
  rw [Bool.eq_false_iff]; intro ha
  have := List.all_eq_true.1 ha c (List.mem_of_getElem? hc)
  rw [h] at this; cases this
theorem all_step2 {l : List (List UInt8)} {k : Nat} {c : List UInt8} (hc : l[k]? = some c) (h : nameOk c = true) (ha : (l.take k).all nameOk = true) : (l.take (k + 1)).all nameOk = true := by
  rw [List.take_add_one, hc]; simp only [Option.toList_some, List.all_append, ha, List.all_cons, h, List.all_nil]; rfl
theorem cut_count (x : UInt8) : ∀ l : List UInt8, (cut x l).length ≤ l.length + 1
  | [] => by simp [cut]
  | c :: r => by
    have h := cut_count x r
    rw [cut]
    split
    · simp; omega
    · cases hq : cut x r with
      | nil => exact absurd hq (cut_ne x r)
      | cons p ps => rw [hq] at h; simp [glue] at h ⊢; omega
end Go.BL
namespace Go.BL
set_option linter.unusedVariables false
set_option linter.unusedSimpArgs false
set_option linter.unusedSectionVars false
open Go
set_option linter.unusedVariables false
set_option linter.unusedSimpArgs false
theorem cut_none {x : UInt8} : ∀ {l : List UInt8}, x ∉ l → cut x l = [l]
  | [], _ => rfl
  | c :: r, h => by
    rw [cut, if_neg (fun e => h (by rw [e]; exact List.mem_cons_self ..)), cut_none (fun hm => h (List.mem_cons_of_mem _ hm))]
    rfl
theorem cut_first {x : UInt8} {b : List UInt8} : ∀ {a : List UInt8}, x ∉ a → cut x (a ++ x :: b) = a :: cut x b
  | [], _ => by simp [cut]
  | c :: r, h => by
    rw [List.cons_append, cut, if_neg (fun e => h (by rw [e]; exact List.mem_cons_self ..)), cut_first (fun hm => h (List.mem_cons_of_mem _ hm))]
    rfl
theorem split_first {x : UInt8} : ∀ {l : List UInt8}, x ∈ l → ∃ a b, l = a ++ x :: b ∧ x ∉ a
  | c :: r, h => by
    by_cases e : c = x
    · exact ⟨[], r, by simp [e], by simp⟩
    · have hr : x ∈ r := (List.mem_cons.1 h).resolve_left (Ne.symm e)
      obtain ⟨a, b, h1, h2⟩ := split_first hr
      exact ⟨c :: a, b, by simp [h1], by simp [Ne.symm e, h2]⟩
theorem word_shift (l : List UInt8) (i j : Nat) : word l (i + j) = word (l.drop i) j := by
  unfold word; rw [List.drop_drop]
theorem more_shift (l : List UInt8) (i : Nat) : ∀ n j, more n l (i + j) = ((more n (l.drop i) j).1, i + (more n (l.drop i) j).2)
  | 0, j => rfl
  | n + 1, j => by
    simp only [more, List.getElem?_drop]
    rw [show i + j + 1 = i + (j + 1) from by omega, word_shift]
    split
    · split
      · rw [show i + (j + 1) + (word (l.drop i) (j + 1)).length = i + (j + 1 + (word (l.drop i) (j + 1)).length) from by omega, more_shift l i n]
      · simp only [Prod.mk.injEq, true_and]; omega
    · rfl
theorem word_all {l : List UInt8} (h : l.all nameB = true) : word l 0 = l := by
  have := (takeWhile_len (p := nameB) l).2 h
  have h2 := List.takeWhile_prefix nameB (l := l)
  simp only [word, List.drop_zero]
  exact List.IsPrefix.eq_of_length h2 this
theorem word_cat_all {a b : List UInt8} {x : UInt8} (hx : nameB x = false) (h : a.all nameB = true) : word (a ++ x :: b) 0 = a := by
  simp only [word, List.drop_zero]
  induction a with
  | nil => simp [List.takeWhile, hx]
  | cons c a ih =>
    simp only [List.all_cons, Bool.and_eq_true] at h
    simp only [List.cons_append, List.takeWhile, h.1, ih h.2]
theorem word_cat_not {a : List UInt8} (b : List UInt8) (h : a.all nameB = false) : (word (a ++ b) 0).length < a.length ∧ word (a ++ b) 0 = word a 0 := by
  simp only [word, List.drop_zero]
  induction a with
  | nil => simp at h
  | cons c a ih =>
    cases hc : nameB c with
    | false => simp [List.takeWhile, hc]
    | true =>
      have h' : a.all nameB = false := by simpa [hc] using h
      have := ih h'
      simp only [List.cons_append, List.takeWhile, hc, List.length_cons]
      exact ⟨by omega, by rw [this.2]⟩
theorem get_cat {a : List UInt8} (b : List UInt8) {k : Nat} (h : k < a.length) : (a ++ b)[k]? = a[k]? := List.getElem?_append_left h
theorem get_none_of {x : UInt8} {a : List UInt8} (h : x ∉ a) (k : Nat) : a[k]? ≠ some x := fun e => h (List.mem_of_getElem? e)
theorem names_cut : ∀ (n : Nat) (b : List UInt8), (wordOk (word b 0) = true ∧ more n b (word b 0).length = (true, b.length)) ↔ ((cut 46 b).all nameOk = true ∧ (cut 46 b).length ≤ n + 1) := by
  intro n
  induction n with
  | zero =>
    intro b
    by_cases hd : (46 : UInt8) ∈ b
    · obtain ⟨a, r, rfl, ha⟩ := split_first hd
      rw [cut_first ha]
      have hlen : (word (a ++ 46 :: r) 0).length ≤ a.length := by
        cases hna : a.all nameB with
        | true => rw [word_cat_all (by decide) hna]; exact Nat.le_refl _
        | false => exact Nat.le_of_lt (word_cat_not _ hna).1
      constructor
      · rintro ⟨_, h2⟩
        simp only [more, Prod.mk.injEq, true_and] at h2
        rw [List.length_append, List.length_cons] at h2
        omega
      · rintro ⟨_, h2⟩
        have := cut_ne 46 r
        simp only [List.length_cons] at h2
        exact absurd (List.eq_nil_of_length_eq_zero (by omega)) this
    · rw [cut_none hd]
      simp only [more, List.all_cons, List.all_nil, Bool.and_true, List.length_cons, List.length_nil, Nat.zero_add, Nat.le_refl, and_true, Prod.mk.injEq, true_and, nameOk_word, Bool.and_eq_true, decide_eq_true_eq]
  | succ n ih =>
    intro b
    by_cases hd : (46 : UInt8) ∈ b
    · obtain ⟨a, r, rfl, ha⟩ := split_first hd
      rw [cut_first ha]
      cases hna : a.all nameB with
      | true =>
        rw [word_cat_all (by decide) hna]
        have hg : (a ++ 46 :: r)[a.length]? = some 46 := by simp
        have hdr : (a ++ 46 :: r).drop (a.length + 1) = r := by rw [List.drop_append]; simp
        have hw : word (a ++ 46 :: r) (a.length + 1) = word r 0 := by
          have := word_shift (a ++ 46 :: r) (a.length + 1) 0
          rw [Nat.add_zero, hdr] at this; exact this
        have hm : more n (a ++ 46 :: r) (a.length + 1 + (word r 0).length) = ((more n r (word r 0).length).1, a.length + 1 + (more n r (word r 0).length).2) := by
          rw [more_shift, hdr]
        simp only [more, hg, if_true, hw, hm, List.all_cons, Bool.and_eq_true, List.length_cons]
        have hna' : nameOk a = wordOk a := by rw [nameOk_word, word_all hna]; simp
        have hi := ih r
        constructor
        · rintro ⟨h1, h2⟩
          split at h2
          · rename_i h3
            simp only [Prod.mk.injEq, List.length_append, List.length_cons] at h2
            have := hi.1 ⟨h3, by ext1; exact h2.1; simp only []; omega⟩
            exact ⟨⟨by rw [hna']; exact h1, this.1⟩, by omega⟩
          · simp at h2
        · rintro ⟨⟨h1, h2⟩, h3⟩
          obtain ⟨h4, h5⟩ := hi.2 ⟨h2, by omega⟩
          refine ⟨by rw [← hna']; exact h1, ?_⟩
          rw [if_pos h4, h5]
          simp; omega
      | false =>
        obtain ⟨h1, h2⟩ := word_cat_not (46 :: r) hna
        have hne : nameOk a = false := by simp [nameOk, hna]
        constructor
        · rintro ⟨_, h3⟩
          rw [more_stop (by rw [get_cat _ h1]; exact get_none_of ha _)] at h3
          simp only [Prod.mk.injEq, true_and, List.length_append, List.length_cons] at h3
          omega
        · rintro ⟨h3, _⟩
          simp [hne] at h3
    · rw [cut_none hd]
      rw [more_stop (get_none_of hd _)]
      simp only [List.all_cons, List.all_nil, Bool.and_true, List.length_cons, List.length_nil, Prod.mk.injEq, true_and, nameOk_word, Bool.and_eq_true, decide_eq_true_eq]
      constructor
      · rintro ⟨h1, h2⟩; exact ⟨⟨h1, h2⟩, by omega⟩
      · rintro ⟨⟨h1, h2⟩, _⟩; exact ⟨h1, h2⟩
theorem domOk_iff (b : List UInt8) : ((dom b 0).1 = true ∧ (dom b 0).2 ≤ 20 ∧ (dom b 0).2 = b.length) ↔ specDom b = true := by
  have h := names_cut 2 b
  simp only [specDom, Bool.and_eq_true, decide_eq_true_eq]
  constructor
  · rintro ⟨h1, h2, h3⟩
    cases hw : wordOk (word b 0) with
    | false => simp [dom, hw] at h1
    | true =>
      simp only [dom, hw, if_true, Nat.zero_add] at h1 h2 h3
      have := h.1 ⟨hw, by ext1; exact h1; exact h3⟩
      exact ⟨⟨this.1, this.2⟩, by omega⟩
  · rintro ⟨⟨h1, h2⟩, h3⟩
    obtain ⟨h4, h5⟩ := h.2 ⟨h1, h2⟩
    simp only [dom, h4, if_true, Nat.zero_add, h5]
    exact ⟨trivial, h3, trivial⟩
end Go.BL
namespace Go.BL
set_option linter.unusedVariables false
set_option linter.unusedSimpArgs false
set_option linter.unusedSectionVars false
open Go
set_option linter.unusedVariables false
set_option linter.unusedSimpArgs false
theorem all_next {α : Type} {p : α → Prop} {l : List α} {k : Nat} {x : α} (hx : l[k]? = some x) (h : ∀ y, y ∈ l.take k → p y) (hp : p x) : ∀ y, y ∈ l.take (k + 1) → p y := by
  intro y hy
  rw [List.take_add_one, hx] at hy
  simp only [Option.toList_some, List.mem_append, List.mem_singleton] at hy
  rcases hy with hy | rfl
  · exact h y hy
  · exact hp
def idxU (us : List DUser) (u : Str) : Int := match us.findIdx? (fun x => decide (x.name = u)) with | some i => i | none => -1
theorem idxU_hit {us : List DUser} {u : Str} {k : Nat} {x : DUser} (hx : us[k]? = some x) (he : x.name = u) (h : ∀ y, y ∈ us.take k → y.name ≠ u) : idxU us u = k := by
  have : us.findIdx? (fun x => decide (x.name = u)) = some k := by
    rw [List.findIdx?_eq_some_iff_getElem]
    obtain ⟨hk, rfl⟩ := List.getElem?_eq_some_iff.1 hx
    refine ⟨hk, by simpa using he, fun j hj => ?_⟩
    have := h us[j] (by rw [List.mem_take_iff_getElem]; exact ⟨j, by omega, rfl⟩)
    simpa using this
  rw [idxU, this]
theorem idxU_none {us : List DUser} {u : Str} (h : ∀ y, y ∈ us → y.name ≠ u) : idxU us u = -1 := by
  have : us.findIdx? (fun x => decide (x.name = u)) = none := by
    rw [List.findIdx?_eq_none_iff]
    intro x hx
    simpa using h x hx
  rw [idxU, this]
theorem take_eq_next {α : Type} {as bs : List α} {k : Nat} {x y : α} (hx : as[k]? = some x) (hy : bs[k]? = some y) (e : x = y) (h : as.take k = bs.take k) : as.take (k + 1) = bs.take (k + 1) := by
  rw [List.take_add_one, List.take_add_one, hx, hy, e, h]
theorem eqF_len {α : Type} {as bs : List α} {inst : Decidable (as = bs)} (h : ¬ (as.length : Int) = bs.length) : false = decide (as = bs) := by
  symm; rw [decide_eq_false_iff_not]; intro e; exact h (by rw [e])
theorem eqF_elem {α : Type} {as bs : List α} {inst : Decidable (as = bs)} {k : Nat} {x y : α} (hx : as[k]? = some x) (hy : bs[k]? = some y) (e : ¬ x = y) : false = decide (as = bs) := by
  symm; rw [decide_eq_false_iff_not]; intro h; rw [h, hy] at hx; exact e (Option.some.inj hx).symm
theorem eqT {α : Type} {as bs : List α} {inst : Decidable (as = bs)} {k : Nat} (hl : as.length = bs.length) (hk : k = as.length) (h : as.take k = bs.take k) : true = decide (as = bs) := by
  symm; rw [decide_eq_true_eq]
  rw [List.take_of_length_le (by omega), List.take_of_length_le (by omega)] at h; exact h
theorem memF {α : Type} {as : List α} {x : α} {inst : Decidable (x ∈ as)} (h : ∀ y, y ∈ as → y ≠ x) : false = decide (x ∈ as) := by
  symm; rw [decide_eq_false_iff_not]; intro hx; exact h x hx rfl
theorem memT {α : Type} {as : List α} {x y : α} {inst : Decidable (x ∈ as)} {k : Nat} (hy : as[k]? = some y) (e : y = x) : true = decide (x ∈ as) := by
  symm; rw [decide_eq_true_eq]; subst e; exact List.mem_of_getElem? hy
theorem take_end {α : Type} {p : α → Prop} {l : List α} {k : Nat} (hk : ¬ (k : Int) < l.length) (h : ∀ y, y ∈ l.take k → p y) : ∀ y, y ∈ l → p y := by
  rwa [List.take_of_length_le (by omega)] at h
theorem dropCons {α : Type} {l : List α} {k : Nat} {x : α} (h : l[k]? = some x) : l.drop k = x :: l.drop (k + 1) := by
  obtain ⟨hlt, he⟩ := List.getElem?_eq_some_iff.1 h
  rw [List.drop_eq_getElem_cons hlt, he]
theorem dropEnd {α : Type} {l : List α} {k : Nat} (h : ¬ (k : Int) < l.length) : l.drop k = [] := List.drop_eq_nil_of_le (by omega)
def namesOk (l : List Str) : Bool := l.all nameOk && decide l.Nodup && decide (l.length ≤ 3)
def letterOk (x : DLetter) : Bool := nameOk x.fr && namesOk x.to_ && decide (0 < x.to_.length) && decide (x.text.length ≤ 20)
def itemOk (x : DItem) : Bool := letterOk ⟨x.fr, x.left, x.text⟩
def scanQ : Int → List DItem → Option Int
  | last, [] => some last
  | last, x :: r => if (last + 1 ≤ x.id ∧ x.id ≤ 99) ∧ itemOk x = true then scanQ x.id r else none
def queueOk (q : DQueue) : Bool := match scanQ 0 q.items with
  | some last => decide (last + 1 ≤ q.next) && decide (q.next ≤ 100) && decide (q.items.length ≤ 6)
  | none => false
theorem nd_next {α : Type} {l : List α} {k : Nat} {x : α} (hx : l[k]? = some x) (h : (l.take k).Nodup) (hn : ¬ x ∈ l.take k) : (l.take (k + 1)).Nodup := by
  rw [List.take_add_one, hx]
  simp only [Option.toList_some]
  rw [List.nodup_append]
  exact ⟨h, by simp, fun a ha b hb => by rw [List.mem_singleton.1 hb]; exact fun e => hn (e ▸ ha)⟩
theorem nd_stop {α : Type} {l : List α} {k : Nat} {x : α} (hx : l[k]? = some x) (h : x ∈ l.take k) : ¬ l.Nodup := by
  intro hn
  have e : l = l.take k ++ l.drop k := (List.take_append_drop k l).symm
  rw [e, dropCons hx, List.nodup_append] at hn
  exact hn.2.2 x h x (List.mem_cons_self ..) rfl
theorem namesOk_bad1 {l : List Str} {k : Nat} {x : Str} (hx : l[k]? = some x) (h : nameOk x = false) : false = namesOk l := by
  simp [namesOk, all_stop2 hx h]
theorem namesOk_bad2 {l : List Str} {k : Nat} {x : Str} (hx : l[k]? = some x) (h : x ∈ l.take k) : false = namesOk l := by
  simp [namesOk, nd_stop hx h]
theorem namesOk_end {l : List Str} {k : Nat} (hk : ¬ (k : Int) < l.length) (ha : (l.take k).all nameOk = true) (hn : (l.take k).Nodup) : decide ((l.length : Int) ≤ 3) = namesOk l := by
  rw [List.take_of_length_le (by omega)] at ha hn
  rw [Bool.eq_iff_iff]; simp only [namesOk, ha, decide_eq_true hn, Bool.true_and, decide_eq_true_eq]; omega
def idxP {α : Type} (p : α → Bool) (xs : List α) : Int := match xs.findIdx? p with | some i => i | none => -1
theorem idxP_hit {α : Type} {p : α → Bool} {xs : List α} {k : Nat} {x : α} (hx : xs[k]? = some x) (he : p x = true) (h : ∀ y, y ∈ xs.take k → p y = false) : idxP p xs = k := by
  have : xs.findIdx? p = some k := by
    rw [List.findIdx?_eq_some_iff_getElem]
    obtain ⟨hk, rfl⟩ := List.getElem?_eq_some_iff.1 hx
    refine ⟨hk, he, fun j hj => ?_⟩
    have := h xs[j] (by rw [List.mem_take_iff_getElem]; exact ⟨j, by omega, rfl⟩)
    simpa using this
  rw [idxP, this]
theorem idxP_none {α : Type} {p : α → Bool} {xs : List α} (h : ∀ y, y ∈ xs → p y = false) : idxP p xs = -1 := by
  have : xs.findIdx? p = none := by
    rw [List.findIdx?_eq_none_iff]
    intro x hx
    simpa using h x hx
  rw [idxP, this]
theorem idxP_mem {α : Type} {p : α → Bool} {xs : List α} : (0 ≤ idxP p xs) ↔ ∃ x, x ∈ xs ∧ p x = true := by
  cases h : xs.findIdx? p with
  | none =>
    rw [List.findIdx?_eq_none_iff] at h
    simp only [idxP, List.findIdx?_eq_none_iff.2 h]
    refine ⟨fun e => absurd e (by omega), fun ⟨x, hx, hp⟩ => ?_⟩
    rw [h x hx] at hp; cases hp
  | some i =>
    simp only [idxP, h]
    rw [List.findIdx?_eq_some_iff_getElem] at h
    obtain ⟨hi, hp, _⟩ := h
    exact ⟨fun _ => ⟨_, List.getElem_mem hi, hp⟩, fun _ => by omega⟩
def idxS (xs : List Str) (v : Str) : Int := idxP (fun x => decide (x = v)) xs
theorem idxS_mem {xs : List Str} {v : Str} : (0 ≤ idxS xs v) ↔ v ∈ xs := by
  rw [idxS, idxP_mem]; simp
theorem queueBad {q : DQueue} (h : scanQ 0 q.items = none) : false = queueOk q := by simp [queueOk, h]
theorem queueEnd {q : DQueue} {last : Int} (h : scanQ 0 q.items = some last) : (decide (last + 1 ≤ q.next) && decide (q.next ≤ 100) && decide (q.items.length ≤ 6)) = queueOk q := by simp [queueOk, h]
theorem scan_step {q : DQueue} {k : Nat} {last : Int} {x : DItem} (hs : scanQ 0 q.items = scanQ last (q.items.drop k)) (hx : q.items[k]? = some x) : scanQ 0 q.items = if (last + 1 ≤ x.id ∧ x.id ≤ 99) ∧ itemOk x = true then scanQ x.id (q.items.drop (k + 1)) else none := by
  rw [hs, dropCons hx, scanQ]
theorem sameQ_no {a b : DQueue} {k : Nat} {x y : DItem} (hx : a.items[k]? = some x) (hy : b.items[k]? = some y) (e : ¬ x = y) : false = decide (a = b) := by
  symm; rw [decide_eq_false_iff_not]; rintro rfl; rw [hx] at hy; exact e (Option.some.inj hy)
theorem letterOk_alt (x : DLetter) : letterOk x = (nameOk x.fr && (decide (1 ≤ x.to_.length) && namesOk x.to_) && decide ((x.text.length : Int) ≤ 20)) := by
  rw [Bool.eq_iff_iff]; simp only [letterOk, Bool.and_eq_true, decide_eq_true_eq]
  constructor
  · rintro ⟨⟨⟨a, b⟩, c⟩, d⟩; exact ⟨⟨a, by omega, b⟩, by omega⟩
  · rintro ⟨⟨a, c, b⟩, d⟩; exact ⟨⟨⟨a, b⟩, by omega⟩, by omega⟩
theorem BytesAt.mono {B B' : Kn} {q : Option Addr} {m : Nat} (h : BytesAt B q m) (hle : B.le B') : BytesAt B' q m := fun j hj => by
  obtain ⟨a, c, h1, h2, h3⟩ := h j hj
  exact ⟨a, c, h1, h2, h3.mono hle⟩
structure Gh (α : Type) where
  k : Nat
  p : Nat
  l : Cells
  a : Option Addr
  c : Nat
  xs : List α
theorem take_snoc {α : Type} {l : List α} {k : Nat} {x : α} (hx : l[k]? = some x) : l.take (k + 1) = l.take k ++ [x] := by
  rw [List.take_add_one, hx]; rfl
theorem scan_le : ∀ {xs : List DItem} {l r : Int}, scanQ l xs = some r → l ≤ r
  | [], l, r, h => by simp only [scanQ, Option.some.injEq] at h; omega
  | x :: xs, l, r, h => by
    rw [scanQ] at h
    split at h
    · rename_i e; have := scan_le h; omega
    · cases h
theorem queueOk_next {q : DQueue} (h : queueOk q = true) : 1 ≤ q.next ∧ q.next ≤ 100 ∧ q.items.length ≤ 6 := by
  unfold queueOk at h
  split at h
  · rename_i last e
    have := scan_le e
    simp only [Bool.and_eq_true, decide_eq_true_eq] at h
    omega
  · cases h
structure Gh2 (α β : Type) where
  k : Nat
  p : Nat
  l : Cells
  a : Option Addr
  c : Nat
  xs : List α
  e : β
structure GQ where
  k : Nat
  p : Nat
  l : Cells
  a : Option Addr
  c : Nat
  q : DQueue
structure GM where
  b : Nat
  p : Nat
  l : Cells
  a : Option Addr
  c : Nat
  q : DQueue
  f : Bool
structure QOf where
  p : Option Addr
  ys : List DItem
  xs : List DItem
  l : Cells
  q : Option Addr
  c : Nat
  cells : Cells
theorem VecR.slice0 {α : Type} {B : Kn} {l : Cells} {p : Option Addr} {c : Nat} {T : TypeId} {w sz : Nat} {R : Rel α} {xs : List α} (h : VecR B l p c T w R xs) : (if c = 0 then p else p.map (fun a => a.add (0 * sz))) = p := by
  obtain ⟨rows, _, _, _, ⟨rfl, _, rfl, _⟩ | ⟨b, arr, rfl, _, _, _, _⟩⟩ := h
  · rfl
  · split
    · rfl
    · rw [Nat.zero_mul]; simp [Addr.add_off]
theorem queueOk_no {q : DQueue} (h : ¬ (q.items.length ≤ 6 ∧ 1 ≤ q.next ∧ q.next ≤ 100)) : false = queueOk q := by
  symm; rw [Bool.eq_false_iff]; intro hq
  have := queueOk_next hq
  omega
end Go.BL
namespace Go.BL
set_option linter.unusedVariables false
set_option linter.unusedSimpArgs false
set_option linter.unusedSectionVars false
open Go
set_option linter.unusedVariables false
set_option linter.unusedSimpArgs false
def hat (xs : List Int) (k : Nat) : Int := xs.getD k 0
def swp (xs : List Int) (i j : Nat) : List Int := (xs.set i (hat xs j)).set j (hat xs i)
def IsHeap (xs : List Int) : Prop := ∀ k, 0 < k → k < xs.length → hat xs ((k - 1) / 2) ≤ hat xs k
def HeapBut (xs : List Int) (j : Nat) : Prop := (∀ k, 0 < k → k < xs.length → k ≠ j → hat xs ((k - 1) / 2) ≤ hat xs k) ∧ (∀ k, 0 < k → k < xs.length → (k - 1) / 2 = j → 0 < j → hat xs ((j - 1) / 2) ≤ hat xs k)
theorem hat_get {xs : List Int} {k : Nat} {a : Int} (h : xs[k]? = some a) : hat xs k = a := by simp [hat, List.getD, h]
theorem get_hat {xs : List Int} {k : Nat} (h : k < xs.length) : xs[k]? = some (hat xs k) := by simp [hat, List.getD, List.getElem?_eq_getElem h]
theorem swp_len (xs : List Int) (i j : Nat) : (swp xs i j).length = xs.length := by simp [swp]
theorem hat_swp {xs : List Int} {i j : Nat} (hi : i < xs.length) (hj : j < xs.length) (k : Nat) : hat (swp xs i j) k = if k = j then hat xs i else if k = i then hat xs j else hat xs k := by
  simp only [hat, swp, List.getD, List.getElem?_set]
  by_cases h1 : k = j
  · subst h1; simp [hj]
  · have h1' : ¬j = k := fun h => h1 h.symm
    by_cases h2 : k = i
    · subst h2; simp [hi, h1, h1']
    · have h2' : ¬i = k := fun h => h2 h.symm
      simp [h1, h1', h2, h2']
theorem swp_perm {xs : List Int} {i j : Nat} (hi : i < xs.length) (hj : j < xs.length) : (swp xs i j).Perm xs := by
  rw [List.perm_iff_count]
  intro a
  unfold swp
  rw [List.count_set (by simpa using hj), List.count_set hi]
  have e1 : (xs.set i (hat xs j))[j]'(by simpa using hj) = hat xs j := by
    rw [List.getElem_set]; split
    · rfl
    · simp [hat, List.getD, List.getElem?_eq_getElem hj]
  have e2 : xs[i] = hat xs i := by simp [hat, List.getD, List.getElem?_eq_getElem hi]
  rw [e1, e2]
  have hp : ∀ v, (v == a) = true → v ∈ xs → 0 < List.count a xs := fun v hv hm => by
    rw [beq_iff_eq] at hv; subst hv; exact List.count_pos_iff.2 hm
  have hm1 : hat xs i ∈ xs := by rw [← e2]; exact List.getElem_mem _
  by_cases h1 : (hat xs i == a) = true <;> by_cases h2 : (hat xs j == a) = true <;> simp [h1, h2] <;> (try have := hp _ h1 hm1; omega)
theorem up_zero {xs : List Int} (h : HeapBut xs 0) : IsHeap xs := fun k h0 hk => h.1 k h0 hk (by omega)
theorem up_done {xs : List Int} {j : Nat} (h : HeapBut xs j) (hj : hat xs ((j - 1) / 2) ≤ hat xs j) : IsHeap xs := fun k h0 hk => by
  by_cases e : k = j
  · subst e; exact hj
  · exact h.1 k h0 hk e
theorem up_step {xs : List Int} {j : Nat} (h0 : 0 < j) (hj : j < xs.length) (h : HeapBut xs j) (hlt : hat xs j < hat xs ((j - 1) / 2)) : HeapBut (swp xs ((j - 1) / 2) j) ((j - 1) / 2) := by
  have hi : (j - 1) / 2 < xs.length := by omega
  have H := fun k => hat_swp hi hj k
  generalize hii : (j - 1) / 2 = i at *
  refine ⟨fun k hk0 hk hne => ?_, fun k hk0 hk hpar hi0 => ?_⟩
  · rw [swp_len] at hk
    rw [H, H]
    by_cases e1 : k = j
    · subst e1
      rw [hii]; rw [if_neg (by omega), if_pos rfl, if_pos rfl]; omega
    · rw [if_neg e1, if_neg hne]
      by_cases e2 : (k - 1) / 2 = j
      · rw [if_pos e2]; have := h.2 k hk0 hk e2 h0; rw [hii] at this; exact this
      · rw [if_neg e2]
        by_cases e3 : (k - 1) / 2 = i
        · rw [if_pos e3]; have := h.1 k hk0 hk e1; rw [e3] at this; omega
        · rw [if_neg e3]; exact h.1 k hk0 hk e1
  · rw [swp_len] at hk
    rw [H, H]
    have hpi : (i - 1) / 2 ≠ i := by omega
    have hpj : (i - 1) / 2 ≠ j := by omega
    rw [if_neg hpj, if_neg hpi]
    have hii2 := h.1 i hi0 hi (by omega)
    by_cases e1 : k = j
    · rw [if_pos e1]; exact hii2
    · rw [if_neg e1, if_neg (by omega)]
      have := h.1 k hk0 hk e1; rw [hpar] at this; omega
theorem heap_min {xs : List Int} (h : IsHeap xs) : ∀ k, k < xs.length → hat xs 0 ≤ hat xs k := fun k => by
  induction k using Nat.strongRecOn with
  | ind k ih =>
    intro hk
    by_cases h0 : k = 0
    · subst h0; exact Int.le_refl _
    · have h1 := ih ((k - 1) / 2) (by omega) (by omega)
      have h2 := h k (by omega) hk
      omega
def HeapN (xs : List Int) (n : Nat) : Prop := ∀ k, 0 < k → k < n → hat xs ((k - 1) / 2) ≤ hat xs k
def DownBut (xs : List Int) (n i : Nat) : Prop := (∀ k, 0 < k → k < n → (k - 1) / 2 ≠ i → hat xs ((k - 1) / 2) ≤ hat xs k) ∧ (∀ k, 0 < k → k < n → (k - 1) / 2 = i → 0 < i → hat xs ((i - 1) / 2) ≤ hat xs k)
theorem down_leaf {xs : List Int} {n i : Nat} (h : DownBut xs n i) (hl : n ≤ 2 * i + 1) : HeapN xs n := fun k h0 hk => h.1 k h0 hk (by omega)
theorem down_done {xs : List Int} {n i : Nat} (h : DownBut xs n i) (hc : ∀ k, 0 < k → k < n → (k - 1) / 2 = i → hat xs i ≤ hat xs k) : HeapN xs n := fun k h0 hk => by
  by_cases e : (k - 1) / 2 = i
  · rw [e]; exact hc k h0 hk e
  · exact h.1 k h0 hk e
theorem down_step {xs : List Int} {n i j : Nat} (hn : n ≤ xs.length) (hj0 : 0 < j) (hj : j < n) (hpj : (j - 1) / 2 = i) (h : DownBut xs n i) (hmin : ∀ k, 0 < k → k < n → (k - 1) / 2 = i → hat xs j ≤ hat xs k) (hlt : hat xs j < hat xs i) : DownBut (swp xs i j) n j := by
  have hi : i < xs.length := by omega
  have hij : i ≠ j := by omega
  have H := fun k => hat_swp hi (show j < xs.length by omega) k
  refine ⟨fun k hk0 hk hne => ?_, fun k hk0 hk hpar _ => ?_⟩
  · rw [H, H, if_neg hne]
    by_cases e1 : k = j
    · subst e1; rw [if_pos hpj, if_pos rfl]; omega
    · rw [if_neg e1]
      by_cases e2 : (k - 1) / 2 = i
      · rw [if_pos e2, if_neg (by omega)]; exact hmin k hk0 hk e2
      · rw [if_neg e2]
        by_cases e3 : k = i
        · rw [if_pos e3]; subst e3; exact h.2 j hj0 hj hpj hk0
        · rw [if_neg e3]; exact h.1 k hk0 hk e2
  · rw [H, H, hpj, if_neg hij, if_pos rfl, if_neg (by omega), if_neg (by omega)]
    have := h.1 k hk0 hk (by omega)
    rwa [hpar] at this
theorem tdivP (k : Nat) : Int.tdiv ((k : Int) - 1) 2 = (((k - 1) / 2 : Nat) : Int) := by
  cases k with
  | zero => rfl
  | succ k => rw [show ((k + 1 : Nat) : Int) - 1 = (k : Int) from by omega, Int.tdiv_eq_ediv_of_nonneg (by omega)]; simp
theorem hat_app {xs : List Int} {z : Int} {k : Nat} (h : k < xs.length) : hat (xs ++ [z]) k = hat xs k := by
  simp [hat, List.getD, List.getElem?_append_left h]
theorem push_but {xs : List Int} {z : Int} (h : IsHeap xs) : HeapBut (xs ++ [z]) xs.length := by
  refine ⟨fun k h0 hk hne => ?_, fun k h0 hk hp _ => ?_⟩
  · rw [List.length_append, List.length_singleton] at hk
    rw [hat_app (by omega), hat_app (by omega)]
    exact h k h0 (by omega)
  · rw [List.length_append, List.length_singleton] at hk
    omega
theorem pop_but {xs : List Int} (h : IsHeap xs) (h0 : 0 < xs.length) : DownBut (swp xs 0 (xs.length - 1)) (xs.length - 1) 0 := by
  refine ⟨fun k hk0 hk hne => ?_, fun k hk0 hk hpar hh => absurd hh (by omega)⟩
  rw [hat_swp h0 (by omega), hat_swp h0 (by omega), if_neg (by omega), if_neg (by omega), if_neg (by omega), if_neg (by omega)]
  exact h k hk0 (by omega)
theorem swp_last {xs : List Int} (h0 : 0 < xs.length) : hat (swp xs 0 (xs.length - 1)) (xs.length - 1) = hat xs 0 := by rw [hat_swp h0 (by omega), if_pos rfl]
theorem hat_take {xs : List Int} {n k : Nat} (h : k < n) : hat (xs.take n) k = hat xs k := by simp [hat, List.getD, List.getElem?_take, h]
theorem heapN_take {ys : List Int} {n : Nat} (h : HeapN ys n) (hn : n ≤ ys.length) : IsHeap (ys.take n) := fun k h0 hk => by
  rw [List.length_take] at hk
  rw [hat_take (by omega), hat_take (by omega)]
  exact h k h0 (by omega)
theorem pop_perm {xs ys : List Int} (h0 : 0 < ys.length) (hp : ys.Perm xs) {z : Int} (hz : hat ys (ys.length - 1) = z) : (z :: ys.take (ys.length - 1)).Perm xs := by
  refine List.Perm.trans ?_ hp
  have e : ys = ys.take (ys.length - 1) ++ [z] := by
    have h1 := take_snoc (get_hat (xs := ys) (k := ys.length - 1) (by omega))
    rw [show ys.length - 1 + 1 = ys.length from by omega, List.take_length] at h1
    rw [hz] at h1; exact h1
  have h2 : (z :: ys.take (ys.length - 1)).Perm (ys.take (ys.length - 1) ++ [z]) := (List.perm_append_singleton z _).symm
  rwa [← e] at h2
theorem heap_nil : IsHeap [] := fun k h0 hk => by simp at hk
def asc : Int → Int → List Int → Bool
  | _, _, [] => true
  | b, l, x :: r => decide (b < x) && decide (x ≤ l) && asc x l r
theorem asc_all : ∀ {r : List Int} {b l z : Int}, asc b l r = true → z ∈ r → b < z
  | [], _, _, _, _, hz => by cases hz
  | x :: r, b, l, z, h, hz => by
    simp only [asc, Bool.and_eq_true, decide_eq_true_eq] at h
    rcases List.mem_cons.1 hz with rfl | hz
    · exact h.1.1
    · have := asc_all h.2 hz; omega
theorem hat_mem {xs : List Int} {k : Nat} (h : k < xs.length) : hat xs k ∈ xs := List.mem_of_getElem? (get_hat h)
theorem asc_bad1 {b l x : Int} {r ys : List Int} (hp : ys.Perm (x :: r)) (hh : IsHeap ys) (hne : hat ys 0 ≠ x) : false = asc b l (x :: r) := by
  symm; rw [Bool.eq_false_iff]
  intro h
  have h0 : 0 < ys.length := by rw [hp.length_eq]; simp
  have hm := hp.mem_iff.1 (hat_mem h0)
  simp only [asc, Bool.and_eq_true, decide_eq_true_eq] at h
  rcases List.mem_cons.1 hm with e | hm
  · exact hne e
  · have h1 := asc_all h.2 hm
    obtain ⟨k, hk⟩ := List.mem_iff_getElem?.1 (hp.mem_iff.2 (List.mem_cons_self (a := x) (l := r)))
    have h2 := heap_min hh k (List.getElem?_eq_some_iff.1 hk).1
    rw [hat_get hk] at h2
    omega
theorem asc_bad2 {b l x : Int} {r : List Int} (h : x ≤ b) : false = asc b l (x :: r) := by simp [asc, show ¬ b < x from by omega]
theorem asc_bad3 {b l x : Int} {r : List Int} (h : l < x) : false = asc b l (x :: r) := by simp [asc, show ¬ x ≤ l from by omega]
theorem asc_go {b l x : Int} {r : List Int} (h : ¬ x ≤ b) (h2 : ¬ l < x) : asc b l (x :: r) = asc x l r := by simp [asc, show b < x from by omega, show x ≤ l from by omega]
theorem scan_asc : ∀ {xs : List DItem} {b : Int} {l : Int}, l ≤ 99 → (match scanQ b xs with | some r => decide (r ≤ l) | none => false) = (decide (b ≤ l) && xs.all itemOk && asc b l (xs.map (·.id)))
  | [], b, l, _ => by simp [scanQ, asc]
  | x :: xs, b, l, hl => by
    have ih := scan_asc (xs := xs) (b := x.id) hl
    rw [scanQ, List.map_cons, List.all_cons, asc]
    by_cases h1 : b + 1 ≤ x.id
    · by_cases h2 : itemOk x = true
      · by_cases h3 : x.id ≤ 99
        · rw [if_pos ⟨⟨h1, h3⟩, h2⟩, ih, h2]
          by_cases h4 : x.id ≤ l
          · simp [h4, show b ≤ l from by omega, show b < x.id from by omega]
          · simp [h4]
        · rw [if_neg (fun h => h3 h.1.2)]
          simp [show ¬ x.id ≤ l from by omega]
      · rw [if_neg (fun h => h2 h.2)]
        simp [h2]
    · rw [if_neg (fun h => h1 h.1.1)]
      simp [show ¬ b < x.id from by omega]
theorem queueOk_asc (q : DQueue) : queueOk q = (decide (q.items.length ≤ 6) && decide (1 ≤ q.next) && decide (q.next ≤ 100) && q.items.all itemOk && asc 0 (q.next - 1) (q.items.map (·.id))) := by
  by_cases h : q.next ≤ 100
  · have := scan_asc (xs := q.items) (b := 0) (l := q.next - 1) (by omega)
    unfold queueOk
    cases hs : scanQ 0 q.items with
    | none =>
      rw [hs] at this
      simp only at this
      rw [Bool.eq_iff_iff]
      simp only [Bool.and_eq_true, decide_eq_true_eq, Bool.false_eq_true, false_iff]
      rintro ⟨⟨⟨⟨_, h1⟩, _⟩, h2⟩, h3⟩
      rw [h2, h3] at this
      simp at this; omega
    | some r =>
      rw [hs] at this
      simp only at this
      rw [Bool.eq_iff_iff] at this ⊢
      simp only [Bool.and_eq_true, decide_eq_true_eq] at this ⊢
      constructor
      · rintro ⟨⟨h1, h2⟩, h3⟩
        obtain ⟨⟨a, b⟩, c⟩ := this.1 (by omega)
        exact ⟨⟨⟨⟨h3, by omega⟩, h⟩, b⟩, c⟩
      · rintro ⟨⟨⟨⟨h1, h2⟩, h3⟩, h4⟩, h5⟩
        have := this.2 ⟨⟨by omega, h4⟩, h5⟩
        omega
  · unfold queueOk
    cases scanQ 0 q.items <;> simp [h]
theorem all_no {α : Type} {p : α → Bool} {l : List α} {k : Nat} {x : α} (hx : l[k]? = some x) (h : p x = false) : l.all p = false := by
  rw [Bool.eq_false_iff]; intro hp
  rw [List.all_eq_true] at hp
  have := hp x (List.mem_of_getElem? hx)
  rw [h] at this; cases this
theorem all_up {α : Type} {p : α → Bool} {l : List α} {k : Nat} {x : α} (hx : l[k]? = some x) (h : p x = true) (ha : (l.take k).all p = true) : (l.take (k + 1)).all p = true := by
  rw [take_snoc hx, List.all_append, ha]; simp [h]
theorem queueOk_bad {q : DQueue} {k : Nat} {x : DItem} (hx : q.items[k]? = some x) (h : itemOk x = false) : false = queueOk q := by
  rw [queueOk_asc, all_no hx h]; simp
theorem queueOk_end {q : DQueue} {k : Nat} (hk : ¬ (k : Int) < q.items.length) (ha : (q.items.take k).all itemOk = true) (h6 : q.items.length ≤ 6) (h1 : 1 ≤ q.next) (h2 : q.next ≤ 100) : asc 0 (q.next - 1) (q.items.map (·.id)) = queueOk q := by
  rw [List.take_of_length_le (by omega)] at ha
  rw [queueOk_asc, ha]; simp [h6, h1, h2]
structure QLf where
  p : Option Addr
  ys : List DItem
  xs : List DItem
  cells : Cells
structure QN where
  k : Nat
  a : Option Addr
  c : Nat
end Go.BL
namespace Go.BL
set_option linter.unusedVariables false
set_option linter.unusedSimpArgs false
set_option linter.unusedSectionVars false
open Go
set_option linter.unusedVariables false
set_option linter.unusedSimpArgs false
def mailOk (m : DMail) : Bool := (decide (1 ≤ m.uid) && decide (m.uid ≤ 99)) && (decide (0 ≤ m.flags) && decide (m.flags ≤ 31)) && decide (m.text.length ≤ 20)
def scn {α β : Type} (p : β → α → Bool) (nx : β → α → β) (b0 : β) (xs : List α) : Bool × β := xs.foldl (fun s x => (s.1 && p s.2 x, nx s.2 x)) (true, b0)
theorem scn_nil {α β : Type} {p : β → α → Bool} {nx : β → α → β} {b0 : β} {xs : List α} : scn p nx b0 (xs.take 0) = (true, b0) := by simp [scn]
theorem scn_next {α β : Type} {p : β → α → Bool} {nx : β → α → β} {b0 : β} {xs : List α} {k : Nat} {x : α} (hx : xs[k]? = some x) : scn p nx b0 (xs.take (k + 1)) = ((scn p nx b0 (xs.take k)).1 && p (scn p nx b0 (xs.take k)).2 x, nx (scn p nx b0 (xs.take k)).2 x) := by
  have : xs.take (k + 1) = xs.take k ++ [x] := by rw [List.take_add_one, hx]; rfl
  rw [this, scn, List.foldl_append]; rfl
theorem scn_false {α β : Type} {p : β → α → Bool} {nx : β → α → β} : ∀ (xs : List α) (b : β), (xs.foldl (fun (s : Bool × β) x => (s.1 && p s.2 x, nx s.2 x)) (false, b)).1 = false
  | [], _ => rfl
  | x :: xs, b => by simp only [List.foldl_cons, Bool.false_and]; exact scn_false xs _
theorem scn_bad {α β : Type} {p : β → α → Bool} {nx : β → α → β} {b0 : β} {xs : List α} {k : Nat} (h : (scn p nx b0 (xs.take k)).1 = false) : (scn p nx b0 xs).1 = false := by
  have e : xs = xs.take k ++ xs.drop k := (List.take_append_drop k xs).symm
  have : scn p nx b0 xs = (xs.drop k).foldl (fun s x => (s.1 && p s.2 x, nx s.2 x)) (scn p nx b0 (xs.take k)) := by
    conv => lhs; rw [e, scn, List.foldl_append]
    rfl
  rw [this]
  rcases hs : scn p nx b0 (xs.take k) with ⟨b, c⟩
  rw [hs] at h
  simp only at h
  subst h
  exact scn_false _ _
theorem scn_hit {α β : Type} {p : β → α → Bool} {nx : β → α → β} {b0 : β} {xs : List α} {k : Nat} {x : α} (hx : xs[k]? = some x) (h : p (scn p nx b0 (xs.take k)).2 x = false) : (scn p nx b0 xs).1 = false :=
  scn_bad (k := k + 1) (by rw [scn_next hx, h, Bool.and_false])
theorem scn_step {α β : Type} {p : β → α → Bool} {nx : β → α → β} {b0 b : β} {xs : List α} {k : Nat} {x : α} (hx : xs[k]? = some x) (hs : scn p nx b0 (xs.take k) = (true, b)) (h : p b x = true) : scn p nx b0 (xs.take (k + 1)) = (true, nx b x) := by
  rw [scn_next hx, hs]; simp [h]
theorem scn_end {α β : Type} {p : β → α → Bool} {nx : β → α → β} {b0 b : β} {xs : List α} {k : Nat} (hs : scn p nx b0 (xs.take k) = (true, b)) (hk : xs.length ≤ k) : scn p nx b0 xs = (true, b) := by
  rwa [List.take_of_length_le hk] at hs
def mailP (b : Int) (m : DMail) : Bool := mailOk m && decide (b < m.uid)
def mailScan (ms : List DMail) : Bool × Int := scn mailP (fun _ m => m.uid) 0 ms
def boxOk (b : DBox) : Bool := (mailScan b.mail).1 && (decide ((mailScan b.mail).2 + 1 ≤ b.next) && decide (b.next ≤ 100)) && decide (b.mail.length ≤ 10)
def sizeMs (ms : List DMail) : Nat := (ms.map (·.text.length)).sum
theorem sizeMs_next {ms : List DMail} {k : Nat} {x : DMail} (hx : ms[k]? = some x) : sizeMs (ms.take (k + 1)) = sizeMs (ms.take k) + x.text.length := by
  have : ms.take (k + 1) = ms.take k ++ [x] := by rw [List.take_add_one, hx]; rfl
  simp [sizeMs, this]
theorem boxOk_bad {b : DBox} (h : (mailScan b.mail).1 = false) : boxOk b = false := by simp [boxOk, h]
theorem boxOk_end {b : DBox} {l : Int} (h : mailScan b.mail = (true, l)) : boxOk b = ((decide (l + 1 ≤ b.next) && decide (b.next ≤ 100)) && decide (b.mail.length ≤ 10)) := by simp [boxOk, h]
theorem mailOk_uid {m : DMail} (h : mailOk m = true) : 0 ≤ m.uid ∧ m.uid ≤ 99 := by
  simp only [mailOk, Bool.and_eq_true, decide_eq_true_eq] at h; omega
theorem sizeMs_end {ms : List DMail} {k n : Nat} (h : n = sizeMs (ms.take k)) (hk : ms.length ≤ k) : n = sizeMs ms := by rwa [List.take_of_length_le hk] at h
def boxSize (b : DBox) : Int := if boxOk b then (sizeMs b.mail : Int) else -1
def anyone : Str := [97, 110, 121, 111, 110, 101]
def userOk (u : DUser) : Bool := nameOk u.name && decide (u.name ≠ anyone) && nameOk u.pass && (decide (0 ≤ u.quota) && decide (u.quota ≤ 200))
theorem less_total : ∀ (a b : Str), Op.bytesLess a b = !(Op.bytesLess b a || decide (b = a))
  | [], [] => by simp [Op.bytesLess]
  | [], _ :: _ => by simp [Op.bytesLess]
  | _ :: _, [] => by simp [Op.bytesLess]
  | a :: x, b :: y => by
    have ih := less_total x y
    simp only [Op.bytesLess, ih]
    rcases UInt8.lt_or_lt_of_ne (a := a) (b := b) with h
    by_cases e : a = b
    · subst e
      have : ¬ a < a := UInt8.lt_irrefl a
      simp [this, ih]
    · rcases h e with h | h
      · have h2 : ¬ b < a := UInt8.lt_asymm h
        simp [h, h2, e, Ne.symm e]
      · have h2 : ¬ a < b := UInt8.lt_asymm h
        simp [h, h2, e]
def userP (b : Str) (u : DUser) : Bool := userOk u && Op.bytesLess b u.name
def userScan (us : List DUser) : Bool × Str := scn userP (fun _ u => u.name) [] us
def usersOk (us : List DUser) : Bool := (userScan us).1 && (decide (1 ≤ us.length) && decide (us.length ≤ 4))
theorem usersOk_bad {us : List DUser} (h : (userScan us).1 = false) : usersOk us = false := by simp [usersOk, h]
theorem usersOk_end {us : List DUser} {b : Str} (h : userScan us = (true, b)) : usersOk us = (decide (1 ≤ us.length) && decide (us.length ≤ 4)) := by simp [usersOk, h]
def noUser : DUser := ⟨[], [], 0⟩
def findU (t : DUser → Bool) (us : List DUser) : DUser × Bool := match us.find? t with | some x => (x, true) | none => (noUser, false)
theorem find_none {α : Type} {t : α → Bool} {xs : List α} (h : ∀ y, y ∈ xs → t y = false) : xs.find? t = none := List.find?_eq_none.2 fun y hy => by simp [h y hy]
theorem find_hit {α : Type} {t : α → Bool} {xs : List α} {k : Nat} {x : α} (hx : xs[k]? = some x) (ht : t x = true) (h : ∀ y, y ∈ xs.take k → t y = false) : xs.find? t = some x := by
  have hlt := (List.getElem?_eq_some_iff.1 hx).1
  have e : xs = xs.take k ++ (x :: xs.drop (k + 1)) := by
    rw [← (List.getElem?_eq_some_iff.1 hx).2, ← List.drop_eq_getElem_cons hlt, List.take_append_drop]
  rw [e, List.find?_append, find_none h]; simp [ht]
theorem findU_hit {t : DUser → Bool} {us : List DUser} {k : Nat} {x : DUser} (hx : us[k]? = some x) (ht : t x = true) (h : ∀ y, y ∈ us.take k → t y = false) : findU t us = (x, true) := by simp [findU, find_hit hx ht h]
theorem findU_none {t : DUser → Bool} {us : List DUser} (h : ∀ y, y ∈ us → t y = false) : findU t us = (noUser, false) := by simp [findU, find_none h]
theorem rowK_box {B : Kn} {b : Nat} {T : TypeId} {vs : List Value} (h : ∀ p, p ∈ box1 b vs T → B.mem p.1 = some p.2) : RowAt' B b 0 vs := fun L j u hu =>
  ⟨rfl, vs.toArray, T, (0, 0), .inl (h (b, .cells vs.toArray T) (List.mem_singleton.2 rfl)), by simpa using hu⟩
def userFind (us : List DUser) (n : Str) : DUser × Bool := if usersOk us then findU (fun y => decide (y.name = n)) us else (noUser, false)
def inF (o n : Str) (f : DFolder) : Bool := decide (f.owner = o) && decide (f.name = n)
def itemFits (us : List DUser) (x : DItem) : Bool := (userFind us x.fr).2 && x.left.all fun n => (userFind us n).2
theorem allB_bad {α : Type} {p : α → Bool} {xs : List α} {k : Nat} {x : α} (hx : xs[k]? = some x) (h : p x = false) : xs.all p = false := by
  rw [List.all_eq_false]; exact ⟨x, List.mem_of_getElem? hx, by simp [h]⟩
theorem allB_end {α : Type} {p : α → Bool} {xs : List α} (h : ∀ y, y ∈ xs → p y = true) : xs.all p = true := List.all_eq_true.2 h
def lessF (a b : DFolder) : Bool := Op.bytesLess a.owner b.owner || (decide (a.owner = b.owner) && Op.bytesLess a.name b.name)
theorem less_irr (a : Str) : Op.bytesLess a a = false := by
  have := less_total a a
  cases h : Op.bytesLess a a with
  | false => rfl
  | true => rw [h] at this; simp at this
end Go.BL
namespace Go.BL
set_option linter.unusedVariables false
set_option linter.unusedSimpArgs false
set_option linter.unusedSectionVars false
open Go
set_option linter.unusedVariables false
set_option linter.unusedSimpArgs false
inductive Prev {α β : Type} (f : α → β) (z : β) (xs : List α) : Nat → β → Prop
  | zero : Prev f z xs 0 z
  | succ {k : Nat} {x : α} : xs[k]? = some x → Prev f z xs (k + 1) (f x)
theorem Prev.at {α β : Type} {f : α → β} {z : β} {xs : List α} {k : Nat} {b : β} {y : α} (h : Prev f z xs k b) (hy : xs[((k : Int) - 1).toNat]? = some y) (hk : 0 < (k : Int)) : b = f y := by
  cases h with
  | zero => omega
  | succ hx =>
    rename_i k x
    rw [show (((k + 1 : Nat) : Int) - 1).toNat = k from by omega, hx] at hy
    cases hy; rfl
theorem Prev.at0 {α β : Type} {f : α → β} {z : β} {xs : List α} {k : Nat} {b : β} (h : Prev f z xs k b) (hk : (k : Int) ≤ 0) : b = z := by
  cases h with
  | zero => rfl
  | succ hx => omega
theorem scn_hit' {α β : Type} {p : β → α → Bool} {nx : β → α → β} {b0 b : β} {xs : List α} {k : Nat} {x : α} (hx : xs[k]? = some x) (hs : scn p nx b0 (xs.take k) = (true, b)) (h : p b x = false) : (scn p nx b0 xs).1 = false :=
  scn_hit hx (by rw [congrArg Prod.snd hs]; exact h)
theorem usersOk_hit {us : List DUser} {k : Nat} {x : DUser} {nm : Str} (hx : us[k]? = some x) (hs : userScan (us.take k) = (true, nm)) (h : userP nm x = false) : usersOk us = false :=
  usersOk_bad (scn_hit' hx hs h)
theorem nil_less {s : Str} (h : 0 < s.length) : Op.bytesLess [] s = true := by
  cases s with
  | nil => cases h
  | cons a s => rfl
theorem nameOk_pos {s : Str} (h : nameOk s = true) : 0 < s.length := by
  cases s with
  | nil => simp [nameOk] at h
  | cons a s => simp
def grantP (b : Str) (g : DGrant) : Bool := nameOk g.user && (decide (1 ≤ g.rights) && decide (g.rights ≤ 63)) && Op.bytesLess b g.user
def grantScan (gs : List DGrant) : Bool × Str := scn grantP (fun _ g => g.user) [] gs
def aclOk (gs : List DGrant) : Bool := (grantScan gs).1 && decide (gs.length ≤ 4)
theorem aclOk_hit {gs : List DGrant} {k : Nat} {x : DGrant} {nm : Str} (hx : gs[k]? = some x) (hs : grantScan (gs.take k) = (true, nm)) (h : grantP nm x = false) : aclOk gs = false := by
  rw [aclOk, show (grantScan gs).1 = false from scn_hit' hx hs h, Bool.false_and]
theorem aclOk_end {gs : List DGrant} {b : Str} (h : grantScan gs = (true, b)) : aclOk gs = decide (gs.length ≤ 4) := by rw [aclOk, h, Bool.true_and]
def DFolder.box (f : DFolder) : DBox := ⟨f.next, f.mail⟩
def inbox : Str := [105, 110, 98, 111, 120]
def folderIn (us : List DUser) (f : DFolder) : Bool := decide (0 ≤ idxU us f.owner) && nameOk f.name && aclOk f.grants && boxOk f.box
def folderP (us : List DUser) (b : Option DFolder) (f : DFolder) : Bool := folderIn us f && (match b with | none => true | some y => lessF y f)
def folderScan (us : List DUser) (fs : List DFolder) : Bool × Option DFolder := scn (folderP us) (fun _ f => some f) none fs
def foldersOk (us : List DUser) (fs : List DFolder) : Bool := (folderScan us fs).1 && decide (fs.length ≤ 8)
theorem foldersOk_hit {us : List DUser} {fs : List DFolder} {k : Nat} {x : DFolder} {b : Option DFolder} (hx : fs[k]? = some x) (hs : folderScan us (fs.take k) = (true, b)) (h : folderP us b x = false) : foldersOk us fs = false := by
  rw [foldersOk, show (folderScan us fs).1 = false from scn_hit' hx hs h, Bool.false_and]
theorem foldersOk_end {us : List DUser} {fs : List DFolder} {b : Option DFolder} (h : folderScan us fs = (true, b)) : foldersOk us fs = decide (fs.length ≤ 8) := by rw [foldersOk, h, Bool.true_and]
def usedF (fs : List DFolder) (u : Str) : Nat := (fs.map fun f => if f.owner = u then sizeMs f.mail else 0).sum
theorem usedF_next {fs : List DFolder} {u : Str} {k : Nat} {x : DFolder} (hx : fs[k]? = some x) : usedF (fs.take (k + 1)) u = usedF (fs.take k) u + if x.owner = u then sizeMs x.mail else 0 := by
  have : fs.take (k + 1) = fs.take k ++ [x] := by rw [List.take_add_one, hx]; rfl
  simp [usedF, this]
theorem usedF_end {fs : List DFolder} {u : Str} {k n : Nat} (h : n = usedF (fs.take k) u) (hk : fs.length ≤ k) : n = usedF fs u := by rwa [List.take_of_length_le hk] at h
def knownU (us : List DUser) (ns : List Str) : Bool := ns.all fun n => decide (0 ≤ idxU us n)
def userFits (fs : List DFolder) (u : DUser) : Bool := decide (0 ≤ idxP (inF u.name inbox) fs) && decide ((usedF fs u.name : Int) ≤ u.quota)
def itemKnown (us : List DUser) (x : DItem) : Bool := decide (0 ≤ idxU us x.fr) && knownU us x.left
def hostOk (h : DHost) : Bool := specDom h.domain && usersOk h.users && queueOk h.queue && foldersOk h.users h.folders && h.users.all (userFits h.folders) && h.queue.items.all (itemKnown h.users)
theorem sizeMs_le {B : Kn} {q : Option Addr} {cp : Nat} {ms : List DMail} (h : SlK B q cp 3 MailR ms) : sizeMs ms ≤ 4000000000000 := by
  have h1 : ∀ m, m ∈ ms → m.text.length ≤ 2000000 := fun m hm => by
    obtain ⟨i, hi⟩ := List.mem_iff_getElem?.1 hm
    obtain ⟨b, o, row, _, h2, _⟩ := h.rows i m hi
    exact h2.2
  have h2 : ∀ l : List DMail, (∀ m, m ∈ l → m.text.length ≤ 2000000) → sizeMs l ≤ l.length * 2000000 := by
    intro l
    induction l with
    | nil => intro _; simp [sizeMs]
    | cons m l ih =>
      intro hl
      have := ih fun y hy => hl y (List.mem_cons_of_mem _ hy)
      have := hl m (List.mem_cons_self ..)
      simp only [sizeMs, List.map_cons, List.sum_cons, List.length_cons] at *
      omega
  have := h2 ms h1
  have := h.len
  omega
theorem hostOk_user {h : DHost} {k : Nat} {u : DUser} (hu : h.users[k]? = some u) (hf : userFits h.folders u = false) : hostOk h = false := by
  rw [hostOk, allB_bad hu hf, Bool.and_false, Bool.false_and]
theorem hostOk_item {h : DHost} {k : Nat} {y : DItem} (hy : h.queue.items[k]? = some y) (hf : itemKnown h.users y = false) : hostOk h = false := by
  rw [hostOk, allB_bad hy hf, Bool.and_false]
theorem hostOk_end {h : DHost} (h1 : specDom h.domain = true) (h2 : usersOk h.users = true) (h3 : queueOk h.queue = true) (h4 : foldersOk h.users h.folders = true) (h5 : h.users.all (userFits h.folders) = true) (h6 : h.queue.items.all (itemKnown h.users) = true) : hostOk h = true := by
  rw [hostOk, h1, h2, h3, h4, h5, h6]; rfl
theorem userFits_no1 {fs : List DFolder} {u : DUser} (h : idxP (inF u.name inbox) fs < 0) : userFits fs u = false := by
  rw [userFits, decide_eq_false (by omega), Bool.false_and]
theorem userFits_no2 {fs : List DFolder} {u : DUser} (h : u.quota < usedF fs u.name) : userFits fs u = false := by
  rw [userFits, decide_eq_false (p := (usedF fs u.name : Int) ≤ u.quota) (by omega), Bool.and_false]
theorem userFits_yes {fs : List DFolder} {u : DUser} (h : 0 ≤ idxP (inF u.name inbox) fs) (h' : (usedF fs u.name : Int) ≤ u.quota) : userFits fs u = true := by
  rw [userFits, decide_eq_true h, decide_eq_true h']; rfl
theorem itemKnown_no1 {us : List DUser} {x : DItem} (h : idxU us x.fr < 0) : itemKnown us x = false := by rw [itemKnown, decide_eq_false (by omega), Bool.false_and]
theorem itemKnown_no2 {us : List DUser} {x : DItem} (h : knownU us x.left = false) : itemKnown us x = false := by rw [itemKnown, h, Bool.and_false]
theorem itemKnown_yes {us : List DUser} {x : DItem} (h : 0 ≤ idxU us x.fr) (h' : knownU us x.left = true) : itemKnown us x = true := by rw [itemKnown, decide_eq_true h, h']; rfl
theorem less_trans : ∀ {a b c : Str}, Op.bytesLess a b = true → Op.bytesLess b c = true → Op.bytesLess a c = true
  | [], [], _, h, _ => by simp [Op.bytesLess] at h
  | _ :: _, [], _, h, _ => by simp [Op.bytesLess] at h
  | _, _ :: _, [], _, h => by simp [Op.bytesLess] at h
  | [], _ :: _, _ :: _, _, _ => by simp [Op.bytesLess]
  | a :: x, b :: y, c :: z, h, h' => by
    simp only [Op.bytesLess, Bool.or_eq_true, decide_eq_true_eq, Bool.and_eq_true, beq_iff_eq] at h h' ⊢
    rcases h with h | ⟨rfl, h⟩
    · rcases h' with h' | ⟨rfl, h'⟩
      · exact .inl (UInt8.lt_trans h h')
      · exact .inl h
    · rcases h' with h' | ⟨rfl, h'⟩
      · exact .inl h'
      · exact .inr ⟨rfl, less_trans h h'⟩
def kvOf (gs : List DGrant) : List (Str × Int) := gs.map fun g => (g.user, g.rights)
theorem grants_below : ∀ (xs : List DGrant) (b0 b : Str), xs.foldl (fun s x => (s.1 && grantP s.2 x, x.user)) (true, b0) = (true, b) → (∀ y, y ∈ xs → y.user = b ∨ Op.bytesLess y.user b = true) ∧ (b = b0 ∨ Op.bytesLess b0 b = true)
  | [], b0, b, h => by
    cases h; exact ⟨by simp, .inl rfl⟩
  | x :: xs, b0, b, h => by
    simp only [List.foldl_cons, Bool.true_and] at h
    cases hp : grantP b0 x with
    | false =>
      rw [hp] at h
      have := scn_false (p := grantP) (nx := fun _ g => g.user) xs x.user
      rw [h] at this; cases this
    | true =>
      rw [hp] at h
      obtain ⟨h1, h2⟩ := grants_below xs x.user b h
      have hl : Op.bytesLess b0 x.user = true := by
        simp only [grantP, Bool.and_eq_true] at hp; exact hp.2
      refine ⟨fun y hy => ?_, .inr ?_⟩
      · rcases List.mem_cons.1 hy with rfl | hy
        · rcases h2 with h2 | h2
          · exact .inl h2.symm
          · exact .inr h2
        · exact h1 y hy
      · rcases h2 with rfl | h2
        · exact hl
        · exact less_trans hl h2
theorem mput_new {kvs : List (Str × Int)} {k : Str} {v : Int} (h : k ∉ kvs.map (·.1)) : mput kvs k v = kvs ++ [(k, v)] := by
  induction kvs with
  | nil => rfl
  | cons p r ih =>
    simp only [List.map_cons, List.mem_cons, not_or] at h
    simp only [mput, if_neg h.1, ih h.2, List.cons_append]
theorem kv_next {gs : List DGrant} {k : Nat} {m : DGrant} {nm : Str} (hm : gs[k]? = some m) (hs : grantScan (gs.take k) = (true, nm)) (hl : Op.bytesLess nm m.user = true) : mput (kvOf (gs.take k)) m.user m.rights = kvOf (gs.take (k + 1)) := by
  have h1 := (grants_below _ _ _ hs).1
  rw [mput_new]
  · rw [kvOf, kvOf, List.take_add_one, hm]; simp
  · intro hc
    simp only [kvOf, List.map_map, List.mem_map, Function.comp] at hc
    obtain ⟨y, hy, e⟩ := hc
    rcases h1 y hy with h | h
    · rw [← e, h, less_irr] at hl; cases hl
    · rw [e] at h
      have := less_trans hl h
      rw [less_irr] at this; cases this
def MapPost (gs : List DGrant) (B : Kn) : Value → Kn → List Cells → Prop := fun v B' Ls => ∃ m l, v = .tuple #[.map m, .bool (aclOk gs)] ∧ Ls = [l] ∧ B' = B ∧ (aclOk gs = true → ∃ b, m = some b ∧ MapL l b (kvOf gs))
theorem endMap0 {P : PJ} {S : Env} {B : Kn} {L : List Cells} {rs : List ResultVar} {gs : List DGrant} (e : Exit) (he : e = .ret ∨ e = .normal) (vs : List Value) (hr : resAll P S B L rs vs) (h : aclOk gs = false) (hv : resVal vs = .tuple #[.map none, .bool false] := by rfl) : bodyQ P rs (MapPost gs B) e S [] B L :=
  endE e he vs hr ⟨none, [], by rw [hv, h], rfl, rfl, fun hc => by rw [h] at hc; cases hc⟩
theorem endMap1 {P : PJ} {S : Env} {B : Kn} {L : List Cells} {rs : List ResultVar} {gs : List DGrant} (e : Exit) (he : e = .ret ∨ e = .normal) (vs : List Value) {b : Nat} {l : Cells} {r : List Cells} (hp : pickAll L [0] = some ([l], r)) (hr : resAll P S B L rs vs) (h : aclOk gs = true) (hm : MapL l b (kvOf gs)) (hv : resVal vs = .tuple #[.map (some b), .bool true] := by rfl) : bodyQ P rs (MapPost gs B) e S [] B L :=
  endN e he vs [0] hp hr ⟨some b, l, by rw [hv, h], rfl, rfl, fun _ => ⟨b, rfl, hm⟩⟩
def cmpF (f : DFolder) (ow nm : Str) : Int := if Lib.compareBytes f.owner ow ≠ 0 then Lib.compareBytes f.owner ow else Lib.compareBytes f.name nm
theorem cmpF_less (f g : DFolder) : 0 ≤ cmpF f g.owner g.name ↔ lessF f g = false := by
  have h1 := cmp_iff f.owner g.owner
  have h2 := cmp_iff f.name g.name
  unfold cmpF lessF
  by_cases e : f.owner = g.owner
  · have e0 := h1.2.2 e
    have e1 : Op.bytesLess f.owner g.owner = false := by rw [e]; exact less_irr _
    rw [if_neg (fun h => h e0), e1, decide_eq_true e, Bool.true_and, Bool.false_or, Bool.eq_false_iff, ne_eq, ← h2.1]; omega
  · have e0 : Lib.compareBytes f.owner g.owner ≠ 0 := fun h => e (h1.2.1 h)
    rw [if_pos e0, decide_eq_false e, Bool.false_and, Bool.or_false, Bool.eq_false_iff, ne_eq, ← h1.1]; omega
def usedI (fs : List DFolder) (u : Str) : Int := (fs.map fun f => if f.owner = u then boxSize ⟨f.next, f.mail⟩ else 0).sum
theorem usedI_next {fs : List DFolder} {u : Str} {k : Nat} {x : DFolder} (hx : fs[k]? = some x) : usedI (fs.take (k + 1)) u = usedI (fs.take k) u + if x.owner = u then boxSize ⟨x.next, x.mail⟩ else 0 := by
  have : fs.take (k + 1) = fs.take k ++ [x] := by rw [List.take_add_one, hx]; rfl
  simp [usedI, this]
theorem usedI_end {fs : List DFolder} {u : Str} {k : Nat} {n : Int} (h : n = usedI (fs.take k) u) (hk : fs.length ≤ k) : n = usedI fs u := by rwa [List.take_of_length_le hk] at h
theorem mails_ok : ∀ (xs : List DMail) (b0 b : Int), xs.foldl (fun s x => (s.1 && mailP s.2 x, x.uid)) (true, b0) = (true, b) → ∀ y, y ∈ xs → mailOk y = true
  | [], _, _, _, _, h => by cases h
  | x :: xs, b0, b, h, y, hy => by
    simp only [List.foldl_cons, Bool.true_and] at h
    cases hp : mailP b0 x with
    | false =>
      rw [hp] at h
      have := scn_false (p := mailP) (nx := fun _ m => m.uid) xs x.uid
      rw [h] at this; cases this
    | true =>
      rw [hp] at h
      rcases List.mem_cons.1 hy with rfl | hy
      · simp only [mailP, Bool.and_eq_true] at hp; exact hp.1
      · exact mails_ok xs x.uid b h y hy
theorem boxOk_mails {b : DBox} (h : boxOk b = true) : (∀ y, y ∈ b.mail → mailOk y = true) ∧ b.mail.length ≤ 10 := by
  simp only [boxOk, Bool.and_eq_true, decide_eq_true_eq] at h
  exact ⟨mails_ok b.mail 0 (mailScan b.mail).2 (Prod.ext h.1.1 rfl), h.2⟩
theorem sizeMs_le20 : ∀ l : List DMail, (∀ m, m ∈ l → mailOk m = true) → sizeMs l ≤ l.length * 20
  | [], _ => by simp [sizeMs]
  | m :: l, h => by
    have h1 := sizeMs_le20 l fun y hy => h y (List.mem_cons_of_mem _ hy)
    have h2 := h m (List.mem_cons_self ..)
    simp only [mailOk, Bool.and_eq_true, decide_eq_true_eq] at h2
    simp only [sizeMs, List.map_cons, List.sum_cons, List.length_cons] at *
    omega
theorem boxSize_bd (b : DBox) : -1 ≤ boxSize b ∧ boxSize b ≤ 200 := by
  unfold boxSize
  split
  · rename_i h
    obtain ⟨h1, h2⟩ := boxOk_mails h
    have := sizeMs_le20 _ h1
    omega
  · omega
theorem usedI_bd (fs : List DFolder) (u : Str) : -1 * fs.length ≤ usedI fs u ∧ usedI fs u ≤ fs.length * 200 := by
  induction fs with
  | nil => simp [usedI]
  | cons f fs ih =>
    have := boxSize_bd ⟨f.next, f.mail⟩
    simp only [usedI, List.map_cons, List.sum_cons, List.length_cons] at *
    split <;> omega
def exceedsB (x : DHost) (u : Str) (more : Int) : Bool := !(userFind x.users u).2 || decide ((userFind x.users u).1.quota < usedI x.folders u + more)
def userFitB (x : DHost) (w : DUser) : Bool := decide (0 ≤ idxP (inF w.name inbox) x.folders) && !exceedsB x w.name 0
theorem userFitB_no1 {x : DHost} {w : DUser} (h : idxP (inF w.name inbox) x.folders < 0) : userFitB x w = false := by rw [userFitB, decide_eq_false (by omega), Bool.false_and]
theorem userFitB_no2 {x : DHost} {w : DUser} (h : exceedsB x w.name 0 = true) : userFitB x w = false := by rw [userFitB, h]; simp
theorem userFitB_yes {x : DHost} {w : DUser} (h : 0 ≤ idxP (inF w.name inbox) x.folders) (h' : exceedsB x w.name 0 = false) : userFitB x w = true := by rw [userFitB, h', decide_eq_true h]; rfl
def usersFitB (x : DHost) : Bool := x.users.all (userFitB x)
def BoolR : Rel Bool := fun _ row x => row = [.bool x]
theorem BoolR.mono : Mono BoolR := fun _ _ _ h => h
theorem BoolR.one {B : Kn} : ∀ row y, BoolR B row y → row.all oneC = true ∧ row.length = 1 := by rintro _ y rfl; exact ⟨rfl, rfl⟩
def folderI (us : List DUser) (f : DFolder) : Bool := (userFind us f.owner).2 && nameOk f.name && aclOk f.grants && boxOk f.box
theorem ptr_addC (C i : Nat) : (some (ptr (Addr.add ⟨C, 0, none⟩ ((i : Int).toNat * 1))) : Option Value) = some (ptr ⟨C, i, none⟩) := by
  rw [Addr.add_off _ _ rfl]; simp
def valF (x : DHost) (i : Nat) : Value := .bool (match x.folders[i]? with | some m => folderI x.users m | none => false)
theorem valF_get {x : DHost} {i : Nat} {m : DFolder} (h : x.folders[i]? = some m) : valF x i = .bool (folderI x.users m) := by simp [valF, h]
theorem valF_rows {B : Kn} {x : DHost} {C : Nat} {T : TypeId} (hm : ∀ p, p ∈ [(C, Obj.cells ((List.range x.folders.length).map (valF x)).toArray T (0, 0))] → B.mem p.1 = some p.2) (hl : x.folders.length ≤ 2000000) : SlK B (some ⟨C, 0, none⟩) (x.folders.map (folderI x.users)).length 1 BoolR (x.folders.map (folderI x.users)) := by
  refine ⟨fun i y hy => ⟨C, 0, [.bool y], rfl, rfl, fun j u hu => ?_⟩, by simp, by simpa using hl⟩
  have hj : j = 0 := by
    cases j with
    | zero => rfl
    | succ j => simp at hu
  subst hj
  simp only [List.getElem?_cons_zero, Option.some.injEq] at hu
  subst hu
  rw [List.getElem?_map] at hy
  obtain ⟨m, hm', rfl⟩ := Option.map_eq_some_iff.1 hy
  have hi : i < x.folders.length := (List.getElem?_eq_some_iff.1 hm').1
  refine ⟨rfl, _, T, (0, 0), .inl (hm _ (List.mem_singleton.2 rfl)), ?_⟩
  simp only [Nat.mul_one, Nat.zero_add, Nat.add_zero, List.getElem?_toArray, List.getElem?_map, List.getElem?_range hi, Option.map_some, valF_get hm']
theorem allB_contains {us : List DUser} {fs : List DFolder} : (!decide (0 ≤ idxP (fun y => decide (false = y)) (fs.map (folderI us)))) = fs.all (folderI us) := by
  by_cases h : ∀ f, f ∈ fs → folderI us f = true
  · rw [List.all_eq_true.2 h, idxP_none (fun y hy => by
      obtain ⟨f, hf, rfl⟩ := List.mem_map.1 hy
      simp [h f hf])]
    rfl
  · have h2 : fs.all (folderI us) = false := by
      rw [Bool.eq_false_iff, ne_eq, List.all_eq_true]; exact h
    rw [h2]
    have h3 : ∃ k, (fs.map (folderI us)).findIdx? (fun y => decide (false = y)) = some k := by
      cases hk : (fs.map (folderI us)).findIdx? (fun y => decide (false = y)) with
      | some k => exact ⟨k, rfl⟩
      | none =>
        exfalso; apply h
        intro f hf
        have := List.findIdx?_eq_none_iff.1 hk (folderI us f) (List.mem_map_of_mem hf)
        cases hq : folderI us f with
        | true => rfl
        | false => rw [hq] at this; simp at this
    obtain ⟨k, hk⟩ := h3
    have e : idxP (fun y => decide (false = y)) (fs.map (folderI us)) = (k : Int) := by unfold idxP; rw [hk]
    rw [e]; simp
def ordF : List DFolder → Bool
  | [] => true
  | [_] => true
  | a :: b :: r => lessF a b && ordF (b :: r)
def hostOkI (x : DHost) : Bool := specDom x.domain && usersOk x.users && queueOk x.queue && decide (x.folders.length ≤ 8) && ordF x.folders && (x.folders.all (folderI x.users) && usersFitB x && x.queue.items.all (itemFits x.users))
def OrdTo (fs : List DFolder) (k : Nat) : Prop := ∀ i a b, i < k → fs[i]? = some a → fs[i + 1]? = some b → lessF a b = true
theorem ordTo_zero {fs : List DFolder} : OrdTo fs 0 := fun i a b h => by omega
theorem ordTo_next {fs : List DFolder} {k : Nat} {x y : DFolder} (h : OrdTo fs k) (hx : fs[k]? = some x) (hy : fs[k + 1]? = some y) (hl : lessF x y = true) : OrdTo fs (k + 1) := fun i a b hi ha hb => by
  rcases Nat.lt_or_ge i k with h' | h'
  · exact h i a b h' ha hb
  · obtain rfl : i = k := by omega
    rw [hx] at ha; rw [hy] at hb
    cases ha; cases hb; exact hl
theorem ordF_iff : ∀ (fs : List DFolder), ordF fs = true ↔ ∀ i a b, fs[i]? = some a → fs[i + 1]? = some b → lessF a b = true
  | [] => by simp [ordF]
  | [_] => by simp [ordF]
  | x :: y :: r => by
    rw [ordF, Bool.and_eq_true, ordF_iff (y :: r)]
    constructor
    · rintro ⟨h1, h2⟩ i a b ha hb
      cases i with
      | zero => simp at ha hb; rw [← ha, ← hb]; exact h1
      | succ i => exact h2 i a b (by simpa using ha) (by simpa using hb)
    · intro h
      exact ⟨h 0 x y rfl rfl, fun i a b ha hb => h (i + 1) a b (by simpa using ha) (by simpa using hb)⟩
theorem ordF_bad {fs : List DFolder} {k : Nat} {x y : DFolder} (hx : fs[k]? = some x) (hy : fs[k + 1]? = some y) (hl : lessF x y = false) : ordF fs = false := by
  rw [Bool.eq_false_iff, ne_eq, ordF_iff]
  intro h
  have := h k x y hx hy
  rw [hl] at this; cases this
theorem ordF_end {fs : List DFolder} (h : ∀ i a b, i < fs.length - 1 → fs[i]? = some a → fs[i + 1]? = some b → lessF a b = true) : ordF fs = true :=
  (ordF_iff fs).2 fun i a b ha hb => h i a b (by have := (List.getElem?_eq_some_iff.1 hb).1; omega) ha hb
theorem scan_sorted {α : Type} {p : Str → α → Bool} {f : α → Str} (hp : ∀ b x, p b x = true → Op.bytesLess b (f x) = true) : ∀ (xs : List α) (b0 b : Str), xs.foldl (fun s x => (s.1 && p s.2 x, f x)) (true, b0) = (true, b) → (∀ y, y ∈ xs → Op.bytesLess b0 (f y) = true) ∧ xs.Pairwise (fun x y => Op.bytesLess (f x) (f y) = true)
  | [], _, _, _ => ⟨by simp, .nil⟩
  | x :: xs, b0, b, h => by
    simp only [List.foldl_cons, Bool.true_and] at h
    cases hq : p b0 x with
    | false =>
      rw [hq] at h
      have := scn_false (p := p) (nx := fun _ g => f g) xs (f x)
      rw [h] at this; cases this
    | true =>
      rw [hq] at h
      obtain ⟨h1, h2⟩ := scan_sorted hp xs (f x) b h
      refine ⟨fun y hy => ?_, .cons h1 h2⟩
      rcases List.mem_cons.1 hy with rfl | hy
      · exact hp _ _ hq
      · exact less_trans (hp _ _ hq) (h1 y hy)
theorem usersOk_sorted {us : List DUser} (h : usersOk us = true) : us.Pairwise fun x y => Op.bytesLess x.name y.name = true := by
  simp only [usersOk, Bool.and_eq_true] at h
  exact (scan_sorted (p := userP) (f := fun u => u.name) (fun b x hq => by simp only [userP, Bool.and_eq_true] at hq; exact hq.2) us [] (userScan us).2 (Prod.ext h.1 rfl)).2
theorem idxU_nonneg {us : List DUser} {u : Str} : 0 ≤ idxU us u ↔ ∃ x, x ∈ us ∧ x.name = u := by
  unfold idxU
  cases h : us.findIdx? (fun x => decide (x.name = u)) with
  | none =>
    have := List.findIdx?_eq_none_iff.1 h
    simp only [decide_eq_false_iff_not] at this
    exact ⟨fun hc => absurd hc (by simp only []; omega), fun ⟨x, hx, e⟩ => absurd e (this x hx)⟩
  | some i =>
    rw [List.findIdx?_eq_some_iff_getElem] at h
    obtain ⟨hi, h1, _⟩ := h
    exact ⟨fun _ => ⟨us[i], List.getElem_mem hi, by simpa using h1⟩, fun _ => by simp only []; omega⟩
theorem findU_two {us : List DUser} {t : DUser → Bool} : (findU t us).2 = true ↔ ∃ x, x ∈ us ∧ t x = true := by
  unfold findU
  cases h : us.find? t with
  | none => simp only [Bool.false_eq_true, false_iff]; rintro ⟨x, hx, e⟩; have := List.find?_eq_none.1 h x hx; exact this e
  | some x => simp only [true_iff]; exact ⟨x, List.mem_of_find?_eq_some h, List.find?_some h⟩
theorem userFind_idx {us : List DUser} (h : usersOk us = true) (n : Str) : (userFind us n).2 = decide (0 ≤ idxU us n) := by
  rw [userFind, if_pos h, Bool.eq_iff_iff, findU_two, decide_eq_true_eq, idxU_nonneg]; simp
theorem find_sorted : ∀ {us : List DUser}, us.Pairwise (fun x y => Op.bytesLess x.name y.name = true) → ∀ w, w ∈ us → us.find? (fun y => decide (y.name = w.name)) = some w
  | [], _, w, h => by cases h
  | x :: us, hp, w, h => by
    cases hp with
    | cons h1 h2 =>
      rw [List.find?_cons]
      rcases List.mem_cons.1 h with rfl | h
      · simp
      · have hne : x.name ≠ w.name := fun e => by
          have := h1 w h
          rw [e, less_irr] at this; cases this
        simp only [hne, decide_false]
        exact find_sorted h2 w h
theorem userFind_self {us : List DUser} (h : usersOk us = true) {w : DUser} (hw : w ∈ us) : userFind us w.name = (w, true) := by
  rw [userFind, if_pos h, findU, find_sorted (usersOk_sorted h) w hw]
theorem folderI_In {us : List DUser} (h : usersOk us = true) (f : DFolder) : folderI us f = folderIn us f := by
  rw [folderI, folderIn, userFind_idx h]
theorem folderScan_parts {us : List DUser} : ∀ (fs : List DFolder) (b0 : Option DFolder), (fs.foldl (fun s x => (s.1 && folderP us s.2 x, some x)) (true, b0)).1 = (fs.all (folderIn us) && ordF ((match b0 with | none => [] | some y => [y]) ++ fs))
  | [], none => rfl
  | [], some y => rfl
  | x :: fs, b0 => by
    simp only [List.foldl_cons, Bool.true_and]
    have hstep : (fs.foldl (fun (s : Bool × Option DFolder) x => (s.1 && folderP us s.2 x, some x)) (folderP us b0 x, some x)).1 = (folderP us b0 x && (fs.all (folderIn us) && ordF (x :: fs))) := by
      cases hq : folderP us b0 x with
      | false => rw [Bool.false_and]; exact scn_false (p := folderP us) (nx := fun _ f => some f) fs (some x)
      | true => rw [Bool.true_and]; exact folderScan_parts fs (some x)
    rw [hstep]
    cases b0 with
    | none =>
      simp only [folderP, Bool.and_true, List.all_cons, List.nil_append]
      cases folderIn us x <;> simp
    | some y =>
      simp only [folderP, List.all_cons, List.cons_append, List.nil_append, ordF]
      cases folderIn us x <;> cases lessF y x <;> simp
theorem foldersOk_parts {us : List DUser} {fs : List DFolder} : foldersOk us fs = (fs.all (folderIn us) && ordF fs && decide (fs.length ≤ 8)) := by
  rw [foldersOk, show (folderScan us fs).1 = _ from folderScan_parts fs none]; rfl
theorem usedI_eq {us : List DUser} {u : Str} : ∀ {fs : List DFolder}, fs.all (folderIn us) = true → usedI fs u = (usedF fs u : Int)
  | [], _ => rfl
  | f :: fs, h => by
    simp only [List.all_cons, Bool.and_eq_true] at h
    have ih := usedI_eq (u := u) h.2
    have hb : boxOk ⟨f.next, f.mail⟩ = true := by
      have := h.1; simp only [folderIn, Bool.and_eq_true] at this; exact this.2
    simp only [usedI, usedF, List.map_cons, List.sum_cons] at ih ⊢
    rw [ih]
    by_cases he : f.owner = u
    · simp [he, boxSize, hb]
    · simp [he]
theorem userFitB_eq {x : DHost} (hu : usersOk x.users = true) (hf : x.folders.all (folderIn x.users) = true) {w : DUser} (hw : w ∈ x.users) : userFitB x w = userFits x.folders w := by
  rw [userFitB, userFits, exceedsB, userFind_self hu hw, usedI_eq hf]
  simp only [Bool.not_true, Bool.false_or, Int.add_zero]
  congr 1
  rw [Bool.eq_iff_iff]; simp
theorem itemFits_eq {us : List DUser} (h : usersOk us = true) (y : DItem) : itemFits us y = itemKnown us y := by
  rw [itemFits, itemKnown, userFind_idx h, knownU]
  simp only [userFind_idx h]
theorem all_eq {α : Type} {p q : α → Bool} {xs : List α} (h : ∀ x, x ∈ xs → p x = q x) : xs.all p = xs.all q := by
  rw [Bool.eq_iff_iff, List.all_eq_true, List.all_eq_true]
  exact ⟨fun a x hx => h x hx ▸ a x hx, fun a x hx => (h x hx).symm ▸ a x hx⟩
theorem hostOkI_eq (x : DHost) : hostOkI x = hostOk x := by
  cases hu : usersOk x.users with
  | false => simp [hostOkI, hostOk, hu]
  | true =>
    have e1 : x.folders.all (folderI x.users) = x.folders.all (folderIn x.users) := all_eq fun f _ => folderI_In hu f
    have e2 : x.queue.items.all (itemFits x.users) = x.queue.items.all (itemKnown x.users) := all_eq fun y _ => itemFits_eq hu y
    rw [hostOkI, hostOk, hu, e1, e2, foldersOk_parts]
    cases hf : x.folders.all (folderIn x.users) with
    | false => simp
    | true =>
      have e3 : usersFitB x = x.users.all (userFits x.folders) := all_eq fun w hw => userFitB_eq hu hf hw
      rw [e3]
      cases specDom x.domain <;> cases queueOk x.queue <;> cases ordF x.folders <;> cases decide (x.folders.length ≤ 8) <;> simp
end Go.BL
namespace Go.BL
set_option linter.unusedVariables false
set_option linter.unusedSimpArgs false
set_option linter.unusedSectionVars false
open Go
set_option linter.unusedVariables false
set_option linter.unusedSimpArgs false
def hostUsed (x : DHost) (u : Str) : Int := if hostOk x = true ∧ 0 ≤ idxU x.users u then (usedF x.folders u : Int) else -1
theorem hostUsed_no1 {x : DHost} {u : Str} (h : hostOk x = false) : hostUsed x u = -1 := by simp [hostUsed, h]
theorem hostUsed_no2 {x : DHost} {u : Str} (h : ¬0 ≤ idxU x.users u) : hostUsed x u = -1 := by rw [hostUsed, if_neg (fun a => h a.2)]
theorem hostUsed_yes {x : DHost} {u : Str} (h : hostOk x = true) (h2 : 0 ≤ idxU x.users u) : hostUsed x u = usedF x.folders u := by rw [hostUsed, if_pos ⟨h, h2⟩]
theorem hostOk_users {x : DHost} (h : hostOk x = true) : usersOk x.users = true := by
  simp only [hostOk, Bool.and_eq_true] at h; exact h.1.1.1.1.2
theorem hostOk_folders {x : DHost} (h : hostOk x = true) : x.folders.all (folderIn x.users) = true := by
  simp only [hostOk, Bool.and_eq_true, foldersOk_parts] at h; exact h.1.1.2.1.1
theorem hostOk_know {x : DHost} (h : hostOk x = true) (n : Str) : (userFind x.users n).2 = decide (0 ≤ idxU x.users n) := userFind_idx (hostOk_users h) n
theorem hostOk_usedI {x : DHost} (h : hostOk x = true) (u : Str) : usedI x.folders u = usedF x.folders u := usedI_eq (hostOk_folders h)
structure DSess where
  user : Str
  owner : Str
  name : Str
deriving DecidableEq
end Go.BL
namespace Go.BL
set_option linter.unusedVariables false
set_option linter.unusedSimpArgs false
set_option linter.unusedSectionVars false
open Go
set_option linter.unusedVariables false
set_option linter.unusedSimpArgs false
def newF (n : Str) : DFolder := ⟨n, inbox, [], 1, []⟩
def newH (d : Str) (us : List DUser) : DHost := ⟨d, us, us.map fun u => newF u.name, ⟨1, []⟩⟩
def noHost : DHost := ⟨[], [], [], ⟨0, []⟩⟩
def hostNew (d : Str) (us : List DUser) : DHost × Bool := if specDom d = true ∧ usersOk us = true then (newH d us, true) else (noHost, false)
theorem scn_all {α β : Type} {p : β → α → Bool} {nx : β → α → β} : ∀ (xs : List α) (b : β), (xs.foldl (fun (s : Bool × β) x => (s.1 && p s.2 x, nx s.2 x)) (true, b)).1 = true → ∀ x, x ∈ xs → ∃ b', p b' x = true
  | [], _, _, x, hx => by cases hx
  | x :: xs, b, h, y, hy => by
    simp only [List.foldl_cons, Bool.true_and] at h
    cases hq : p b x with
    | false =>
      rw [hq] at h
      have := scn_false (p := p) (nx := nx) xs (nx b x)
      rw [this] at h; cases h
    | true =>
      rw [hq] at h
      rcases List.mem_cons.1 hy with rfl | hy
      · exact ⟨b, hq⟩
      · exact scn_all xs _ h y hy
theorem usersOk_each {us : List DUser} (h : usersOk us = true) {u : DUser} (hu : u ∈ us) : userOk u = true := by
  simp only [usersOk, Bool.and_eq_true] at h
  obtain ⟨b, hb⟩ := scn_all (p := userP) (nx := fun _ u => u.name) us [] h.1 u hu
  simp only [userP, Bool.and_eq_true] at hb; exact hb.1
theorem ordF_new : ∀ {us : List DUser}, us.Pairwise (fun x y => Op.bytesLess x.name y.name = true) → ordF (us.map fun u => newF u.name) = true
  | [], _ => rfl
  | [_], _ => rfl
  | a :: b :: r, h => by
    cases h with
    | cons h1 h2 =>
      have h3 := h1 b (List.mem_cons_self ..)
      show (lessF (newF a.name) (newF b.name) && ordF ((b :: r).map fun u => newF u.name)) = true
      rw [ordF_new h2, Bool.and_true, lessF]
      simp only [newF, h3, Bool.true_or]
theorem usedF_new (us : List DUser) (n : Str) : usedF (us.map fun u => newF u.name) n = 0 := by
  induction us with
  | nil => rfl
  | cons u us ih =>
    simp only [usedF, List.map_cons, List.sum_cons] at ih ⊢
    rw [ih]
    simp [newF, sizeMs]
theorem newF_in {us : List DUser} {u : DUser} (h : u ∈ us) : 0 ≤ idxP (inF u.name inbox) (us.map fun u => newF u.name) :=
  idxP_mem.2 ⟨newF u.name, List.mem_map.2 ⟨u, h, rfl⟩, by simp [inF, newF]⟩
theorem newH_ok (d : Str) (us : List DUser) : hostOk (newH d us) = (specDom d && usersOk us) := by
  cases hu : usersOk us with
  | false => simp [hostOk, newH, hu]
  | true =>
    have h1 : foldersOk us (us.map fun u => newF u.name) = true := by
      rw [foldersOk_parts, ordF_new (usersOk_sorted hu)]
      have h2 : (us.map fun u => newF u.name).all (folderIn us) = true := by
        rw [List.all_eq_true]
        intro f hf
        obtain ⟨u, hm, rfl⟩ := List.mem_map.1 hf
        have e1 : nameOk inbox = true := by decide
        have e2 : aclOk [] = true := by decide
        have e3 : boxOk ⟨1, []⟩ = true := by decide
        simp only [folderIn, newF, DFolder.box, e1, e2, e3, Bool.and_true]
        exact decide_eq_true (idxU_nonneg.2 ⟨u, hm, rfl⟩)
      have h3 : us.length ≤ 4 := by simp only [usersOk, Bool.and_eq_true, decide_eq_true_eq] at hu; exact hu.2.2
      rw [h2]; simp; omega
    have h4 : us.all (userFits (us.map fun u => newF u.name)) = true := by
      rw [List.all_eq_true]
      intro u hm
      have := usersOk_each hu hm
      simp only [userOk, Bool.and_eq_true, decide_eq_true_eq] at this
      simp only [userFits, usedF_new, Bool.and_eq_true, decide_eq_true_eq]
      exact ⟨newF_in hm, by omega⟩
    have h5 : queueOk ⟨1, []⟩ = true := by decide
    simp only [hostOk, newH, hu, h1, h4, h5, List.all_nil, Bool.and_true]
theorem hostNew_yes {d : Str} {us : List DUser} (h : hostOk (newH d us) = true) : hostNew d us = (newH d us, true) := by
  rw [newH_ok, Bool.and_eq_true] at h; rw [hostNew, if_pos h]
theorem hostNew_no {d : Str} {us : List DUser} (h : hostOk (newH d us) = false) : hostNew d us = (noHost, false) := by
  rw [newH_ok] at h; rw [hostNew, if_neg (by rw [← Bool.and_eq_true, h]; exact Bool.false_ne_true)]
theorem hostNew_two {d : Str} {us : List DUser} (h : (hostNew d us).2 = true) : hostNew d us = (newH d us, true) ∧ hostOk (newH d us) = true := by
  cases hh : hostOk (newH d us) with
  | true => exact ⟨hostNew_yes hh, rfl⟩
  | false => rw [hostNew_no hh] at h; cases h
def noFolder : DFolder := ⟨[], [], [], 0, []⟩
def hostFolder (x : DHost) (o n : Str) : DFolder × Bool := if hostOk x = true then (match x.folders.find? (inF o n) with | some f => (f, true) | none => (noFolder, false)) else (noFolder, false)
theorem hostFolder_bad {x : DHost} {o n : Str} (h : hostOk x = false) : hostFolder x o n = (noFolder, false) := by simp [hostFolder, h]
theorem hostFolder_none {x : DHost} {o n : Str} (h : idxP (inF o n) x.folders < 0) : hostFolder x o n = (noFolder, false) := by
  have : x.folders.find? (inF o n) = none := List.find?_eq_none.2 fun y hy hp => by have := idxP_mem.2 ⟨y, hy, hp⟩; omega
  rw [hostFolder, this]; split <;> rfl
theorem hostFolder_some {x : DHost} {o n : Str} (hx : hostOk x = true) (h : 0 ≤ idxP (inF o n) x.folders) {f : DFolder} (hf : x.folders[(idxP (inF o n) x.folders).toNat]? = some f) : hostFolder x o n = (f, true) := by
  unfold idxP at h hf
  cases hq : x.folders.findIdx? (inF o n) with
  | none => rw [hq] at h; simp at h
  | some i =>
    rw [hq] at hf
    simp only [Int.toNat_natCast] at hf
    rw [List.findIdx?_eq_some_iff_getElem] at hq
    obtain ⟨hi, h1, h2⟩ := hq
    rw [List.getElem?_eq_getElem hi] at hf
    cases hf
    have : x.folders.find? (inF o n) = some x.folders[i] := by
      rw [List.find?_eq_some_iff_getElem]
      exact ⟨h1, i, hi, rfl, fun j hj => by simpa using h2 j hj⟩
    rw [hostFolder, if_pos hx, this]
theorem idxP_lt {α : Type} (p : α → Bool) (xs : List α) : idxP p xs < xs.length ∧ idxP p xs ≥ -1 := by
  unfold idxP
  cases hf : xs.findIdx? p with
  | none => simp only []; omega
  | some i =>
    rw [List.findIdx?_eq_some_iff_getElem] at hf
    obtain ⟨hi, _⟩ := hf
    simp only []; omega
theorem newH_folder {d : Str} {us : List DUser} (h : hostOk (newH d us) = true) {u : DUser} (hu : u ∈ us) : hostFolder (newH d us) u.name inbox = (newF u.name, true) := by
  rw [hostFolder, if_pos h]
  have h0 : ∃ f, (newH d us).folders.find? (inF u.name inbox) = some f := by
    cases hq : (newH d us).folders.find? (inF u.name inbox) with
    | some f => exact ⟨f, rfl⟩
    | none =>
      have := List.find?_eq_none.1 hq (newF u.name) (List.mem_map.2 ⟨u, hu, rfl⟩)
      exact absurd (by simp [inF, newF]) this
  obtain ⟨f, hf⟩ := h0
  have h1 := List.mem_of_find?_eq_some hf
  have h2 := List.find?_some hf
  obtain ⟨w, _, rfl⟩ := List.mem_map.1 h1
  simp only [inF, newF, Bool.and_eq_true] at h2
  have e : w.name = u.name := of_decide_eq_true h2.1
  rw [hf, ← e]
theorem newH_used {d : Str} {us : List DUser} (h : hostOk (newH d us) = true) {u : DUser} (hu : u ∈ us) : hostUsed (newH d us) u.name = 0 := by
  rw [hostUsed_yes h (idxU_nonneg.2 ⟨u, hu, rfl⟩)]
  show ((usedF (us.map fun u => newF u.name) u.name : Nat) : Int) = 0
  rw [usedF_new]; rfl
end Go.BL
namespace Go.BL
set_option linter.unusedVariables false
set_option linter.unusedSimpArgs false
set_option linter.unusedSectionVars false
open Go
set_option linter.unusedVariables false
set_option linter.unusedSimpArgs false
end Go.BL
namespace Go.BL
set_option linter.unusedVariables false
set_option linter.unusedSimpArgs false
set_option linter.unusedSectionVars false
theorem sQ1 {p : Prop} [Decidable p] : (decide p = true) = p := decide_eq_true_eq
theorem sQ2 {p : Prop} [Decidable p] : decide p = false ↔ ¬p := decide_eq_false_iff_not
theorem sQ3 {b : Bool} : ((!b) = true) = (b = false) := Bool.not_eq_true' b
theorem sQ4 {b : Bool} : ((!b) = false) = (b = true) := Bool.not_eq_false' b
theorem sQ5 {p : Prop} [g : Decidable p] [h : Decidable (¬p)] : decide (¬p) = !decide p := decide_not
theorem sQ6 {p : Prop} [Decidable p] : ¬¬p ↔ p := Decidable.not_not
theorem sQ7 {a b : Int} : ¬a < b ↔ b ≤ a := Int.not_lt
theorem sQ8 {a b : Int} : ¬a ≤ b ↔ b < a := Int.not_le
section
variable {P : PJ} {n : Nat} {ops : Array Oper} {i : Nat} {K : Post4} {S : Env} {D : List Deferred} {B : Kn} {L : List Cells}
variable {dst : Option Tmp} {ty : TypeId} {pos : String} {after : Array Edge} {g : Option (Nat × Bool)}
theorem xMv {x : Operand} {v : Value} (h : K (putS S dst v) D B L) (hg : guardOk ops S g = some true := by exact rfl) (hd : dstOk n dst = true := by exact rfl) (hx : ev S x = some v := by exact rfl) : opW P n ops i ⟨dst, .move x, ty, pos, after, g⟩ K S D B L := oX (w_move hg hd hx h)
theorem xAs {x : Operand} {v : Value} (h : K (putS S dst v) D B L) (hg : guardOk ops S g = some true := by exact rfl) (hd : dstOk n dst = true := by exact rfl) (hx : ev S x = some v := by exact rfl) : opW P n ops i ⟨dst, .assign x, ty, pos, after, g⟩ K S D B L := oX (w_assign hg hd hx h)
end
end Go.BL
