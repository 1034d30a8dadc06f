/-
  BL: more operations, and the usual shapes of contracts.
-/
import Derived.Test.YtnhgfdfmfhkcmaaBLBuild
namespace Go.BL
open Go.Conc (G)
set_option linter.unusedVariables false

section
variable {P : Program} {n : Nat} {ops : Array Oper} {i : Nat} {K : PostV} {S : Env} {D : List Deferred} {B : Kn} {L : List Cells}
variable {dst : Option Tmp} {ty : TypeId} {pos : String} {after : Array Edge} {g : Option (Nat × Bool)}

/-- A whole number turned into another kind, in its range. -/
theorem w_convI {s d : TypeId} {x : Operand} {k k' : IntKind} {a r : Int} (hg : guardOk ops S g = some true) (hd : dstOk n dst = true) (hu : P.underlying s = some (.int k)) (hu' : P.underlying d = some (.int k')) (hx : ev S x = some (.int k a)) (hr : k'.wrap a = r) (h : K (.int k' r) D B L) :
    opX P n ops i ⟨dst, .convert s d x, ty, pos, after, g⟩ K S D B L :=
  opX_pure hg hd (fun ρ hρ Q F q => by
    subst hr
    simp only [execOp, convert, hρ x _ hx, hb_bind, hb_underlying hu, hb_underlying hu', Conv.intToInt, hb_pure]; exact q) h

theorem ofInt_small {w : Nat} {a : Int} (h0 : 0 ≤ a) (h1 : a < 2 ^ w) : (BitVec.ofInt w a).toNat = a.toNat := by
  obtain ⟨m, rfl⟩ := Int.eq_ofNat_of_zero_le h0
  have hm : m < 2 ^ w := by exact_mod_cast h1
  simp [BitVec.toNat_ofInt]
  exact Nat.mod_eq_of_lt hm

/-- Exclusive or of two numbers that are not negative: neither is the result. -/
theorem w_xor {t u : TypeId} {x y : Operand} {a b : Int} (hg : guardOk ops S g = some true) (hd : dstOk n dst = true) (hx : ev S x = some (.int .i64 a)) (hy : ev S y = some (.int .i64 b)) (ha : 0 ≤ a) (ha' : a < 4611686018427387904) (hb' : 0 ≤ b) (hb2 : b < 4611686018427387904)
    (h : ∀ r : Int, 0 ≤ r → r < 4611686018427387904 → K (.int .i64 r) D B L) : opX P n ops i ⟨dst, .binOp .xor t x y u, ty, pos, after, g⟩ K S D B L := by
  have hra : (BitVec.ofInt (IntKind.i64).bits a).toNat = a.toNat := ofInt_small ha (by simp [IntKind.bits]; omega)
  have hrb : (BitVec.ofInt (IntKind.i64).bits b).toNat = b.toNat := ofInt_small hb' (by simp [IntKind.bits]; omega)
  have hx2 : (BitVec.ofInt (IntKind.i64).bits a ^^^ BitVec.ofInt (IntKind.i64).bits b).toNat < 4611686018427387904 := by
    rw [BitVec.toNat_xor, hra, hrb]
    exact Nat.xor_lt_two_pow (n := 62) (by omega) (by omega)
  refine opX_pure hg hd (v := .int .i64 ((BitVec.ofInt (IntKind.i64).bits a ^^^ BitVec.ofInt (IntKind.i64).bits b).toNat : Int)) (fun ρ hρ Q F q => ?_) (h _ (by omega) (by omega))
  have hw : IntKind.wrap .i64 ((BitVec.ofInt (IntKind.i64).bits a ^^^ BitVec.ofInt (IntKind.i64).bits b).toNat : Int) = ((BitVec.ofInt (IntKind.i64).bits a ^^^ BitVec.ofInt (IntKind.i64).bits b).toNat : Int) := wrI64 (by omega) (by omega)
  simp only [execOp, hρ x _ hx, hρ y _ hy, hb_bind, hb_eqGuard, binOp, ne_eq, not_true_eq_false, if_false, Op.intBits, hb_pure, hw]
  exact q
end

section
variable {P : Program} {n : Nat} {ops : Array Oper} {i : Nat} {K : PostV} {S : Env} {D : List Deferred} {B : Kn} {L : List Cells}
variable {dst : Option Tmp} {ty : TypeId} {pos : String} {after : Array Edge} {g : Option (Nat × Bool)}
/-- '==' of a type, said of two values. -/
def eqIs (P : Program) (t : TypeId) (a b : Value) (r : Bool) : Prop := ∀ (B : Kn) (L : Cells) (Q : Bool → Kn → Cells → Prop), Q r B L → hb P (Op.equal t a b) Q B L
/-- Two values of which '==' asks nothing more. -/
def eqPlain (a b : Value) : Bool := match a, b with
  | .nilIface, .nilIface => false
  | .agg _, .agg _ => false
  | .int _ _, .int _ _ => false
  | .float _ _, .float _ _ => false
  | .complex _ _ _, .complex _ _ _ => false
  | .string _, .string _ => false
  | _, _ => true
theorem eqBool {t : TypeId} {a b : Bool} (hu : P.underlying t = some .bool) : eqIs P t (.bool a) (.bool b) (decide (a = b)) := fun B L Q q => by
  have e : (a == b) = decide (a = b) := by cases a <;> cases b <;> rfl
  show hb P (Op.equalIn (9999 + 1) t _ _) Q B L
  rw [Op.equalIn, hb_bind, hb_underlying hu]
  simp only [hb_pure, e]; exact q
theorem binOp_eql {t : TypeId} {a b : Value} (h : eqPlain a b = true ∨ ∃ x y, a = .agg x ∧ b = .agg y) : binOp .eql t a b = (do pure (.bool (← Op.equal t a b))) := by
  rcases h with h | ⟨x, y, rfl, rfl⟩
  · cases a <;> cases b <;> first | rfl | cases h
  · rfl
theorem binOp_neq {t : TypeId} {a b : Value} (h : eqPlain a b = true ∨ ∃ x y, a = .agg x ∧ b = .agg y) : binOp .neq t a b = (do pure (.bool (!(← Op.equal t a b)))) := by
  rcases h with h | ⟨x, y, rfl, rfl⟩
  · cases a <;> cases b <;> first | rfl | cases h
  · rfl
theorem hb_eqGuardP {op : BinOp} {t : TypeId} {x y : Operand} {a b : Value} {Q : Unit → Kn → Cells → Prop} {L : Cells} (h : eqPlain a b = true) : hb P (eqGuard op t x y a b) Q B L = Q () B L := by
  refine hb_eqGuard ?_
  cases a <;> cases b <;> first | rfl | cases h
theorem w_eqlE {t u : TypeId} {x y : Operand} {a b : Value} {r : Bool} (hg : guardOk ops S g = some true) (hd : dstOk n dst = true) (hx : ev S x = some a) (hy : ev S y = some b) (hp : eqPlain a b = true) (he : eqIs P t a b r) (h : K (.bool r) D B L) : opX P n ops i ⟨dst, .binOp .eql t x y u, ty, pos, after, g⟩ K S D B L :=
  opX_pure hg hd (fun ρ hρ Q F q => by
    simp only [execOp, hρ x _ hx, hρ y _ hy, hb_bind, hb_eqGuardP hp, binOp_eql (.inl hp), hb_pure]
    exact he _ _ (fun r B' L' => Q (.value (.bool r)) B' L') q) h
theorem w_neqE {t u : TypeId} {x y : Operand} {a b : Value} {r : Bool} (hg : guardOk ops S g = some true) (hd : dstOk n dst = true) (hx : ev S x = some a) (hy : ev S y = some b) (hp : eqPlain a b = true) (he : eqIs P t a b r) (h : K (.bool (!r)) D B L) : opX P n ops i ⟨dst, .binOp .neq t x y u, ty, pos, after, g⟩ K S D B L :=
  opX_pure hg hd (fun ρ hρ Q F q => by
    simp only [execOp, hρ x _ hx, hρ y _ hy, hb_bind, hb_eqGuardP hp, binOp_neq (.inl hp), hb_pure]
    exact he _ _ (fun r B' L' => Q (.value (.bool (!r))) B' L') q) h
end

/-- It comes back with some value and with its segment turned into another, as 'Q' says. -/
def Ex1 (P : Program) (f : FuncId) (vs : List Value) (B : Kn) (s : Cells) (Q : Value → Cells → Prop) : Prop := CallsB P f vs B [s] fun v' B' Ls => B' = B ∧ ∃ s', Ls = [s'] ∧ Q v' s'
/-- It comes back with a new segment of its own. -/
def New1 (P : Program) (f : FuncId) (vs : List Value) (B : Kn) (Q : Value → Cells → Prop) : Prop := CallsB P f vs B [] fun v' B' Ls => B' = B ∧ ∃ s', Ls = [s'] ∧ Q v' s'
/-- It comes back with some value. -/
def Ex0 (P : Program) (f : FuncId) (vs : List Value) (B : Kn) (Q : Value → Prop) : Prop := CallsB P f vs B [] fun v' B' Ls => B' = B ∧ Ls = [] ∧ Q v'
section
variable {P : Program} {n : Nat} {ops : Array Oper} {i : Nat} {K : PostV} {S : Env} {D : List Deferred} {B : Kn} {L : List Cells}
variable {dst : Option Tmp} {ty : TypeId} {pos : String} {after : Array Edge} {g : Option (Nat × Bool)}
theorem w_ex1 {f : FuncId} {xs : List Operand} {vs : List Value} {ats : Array TypeId} {Q : Value → Cells → Prop} (j : Nat) {s : Cells} (hj : L[j]? = some s) (hg : guardOk ops S g = some true) (hd : dstOk n dst = true) (he : enters P f = true) (ha : evs S xs = some vs) (hc : Ex1 P f vs B s Q)
    (h : ∀ v s', Q v s' → K v D B (L.set j s')) : opX P n ops i ⟨dst, .call ⟨.value (.func f), xs.toArray, ats⟩, ty, pos, after, g⟩ K S D B L :=
  w_call1 j hj hg hd he ha hc fun v' B' Ls' hle ⟨h2, s', h3, h4⟩ => by subst h2; subst h3; exact ⟨s', [], rfl, by rw [List.append_nil]; exact h v' s' h4⟩
theorem w_new1 {f : FuncId} {xs : List Operand} {vs : List Value} {ats : Array TypeId} {Q : Value → Cells → Prop} (hg : guardOk ops S g = some true) (hd : dstOk n dst = true) (he : enters P f = true) (ha : evs S xs = some vs) (hc : New1 P f vs B Q)
    (h : ∀ v s', Q v s' → K v D B (L ++ [s'])) : opX P n ops i ⟨dst, .call ⟨.value (.func f), xs.toArray, ats⟩, ty, pos, after, g⟩ K S D B L :=
  w_call hg hd he ha hc fun v' B' Ls' hle ⟨h2, s', h3, h4⟩ => by subst h2; subst h3; exact h v' s' h4
theorem w_ex0 {f : FuncId} {xs : List Operand} {vs : List Value} {ats : Array TypeId} {Q : Value → Prop} (hg : guardOk ops S g = some true) (hd : dstOk n dst = true) (he : enters P f = true) (ha : evs S xs = some vs) (hc : Ex0 P f vs B Q)
    (h : ∀ v, Q v → K v D B L) : opX P n ops i ⟨dst, .call ⟨.value (.func f), xs.toArray, ats⟩, ty, pos, after, g⟩ K S D B L :=
  w_call hg hd he ha hc fun v' B' Ls' hle ⟨h2, h3, h4⟩ => by subst h2; subst h3; rw [List.append_nil]; exact h v' h4
end
/-! segments picked by their numbers -/
def pickAll : List Cells → List Nat → Option (List Cells × List Cells)
  | L, [] => some ([], L)
  | L, j :: js => match L[j]? with
    | some s => (pickAll (L.set j []) js).map fun x => (s :: x.1, x.2)
    | none => none
def putAll : List Cells → List Nat → List Cells → List Cells
  | r, _, [] => r
  | r, [], l => r ++ l
  | r, j :: js, s :: l => putAll (r.set j s) js l
theorem pickAll_perm : ∀ (js : List Nat) (L ss r : List Cells), pickAll L js = some (ss, r) → L.flatten.Perm (ss.flatten ++ r.flatten)
  | [], L, ss, r, h => by
    simp only [pickAll, Option.some.injEq, Prod.mk.injEq] at h
    obtain ⟨rfl, rfl⟩ := h
    simp
  | j :: js, L, ss, r, h => by
    simp only [pickAll] at h
    split at h
    · rename_i s hj
      simp only [Option.map_eq_some_iff, Prod.mk.injEq] at h
      obtain ⟨⟨x, y⟩, h1, rfl, rfl⟩ := h
      have h2 := pickAll_perm js _ _ _ h1
      have h3 := pick_perm hj
      simp only [List.flatten_cons, List.flatten_nil, List.append_nil] at h3
      rw [List.flatten_cons, List.append_assoc]
      exact h3.trans (List.Perm.append_left _ h2)
    · cases h
theorem pickAll_len : ∀ (js : List Nat) (L ss r : List Cells), pickAll L js = some (ss, r) → ∀ j, L[j]? = some [] ∨ j ∈ js → r[j]? = some []
  | [], L, ss, r, h, j, hj => by
    simp only [pickAll, Option.some.injEq, Prod.mk.injEq] at h
    obtain ⟨rfl, rfl⟩ := h
    rcases hj with hj | hj
    · exact hj
    · cases hj
  | k :: js, L, ss, r, h, j, hj => by
    simp only [pickAll] at h
    split at h
    · rename_i s hk
      simp only [Option.map_eq_some_iff, Prod.mk.injEq] at h
      obtain ⟨⟨x, y⟩, h1, rfl, rfl⟩ := h
      refine pickAll_len js _ _ _ h1 j ?_
      rcases hj with hj | hj
      · left
        rw [List.getElem?_set]
        split
        · rename_i e; subst e
          have := (List.getElem?_eq_some_iff.1 hk).1
          simp [this]
        · exact hj
      · rcases List.mem_cons.1 hj with rfl | hj
        · left
          have := (List.getElem?_eq_some_iff.1 hk).1
          simp [this]
        · exact .inr hj
    · cases h
theorem putAll_perm : ∀ (l : List Cells) (r : List Cells) (js : List Nat), js.Nodup → (∀ j, j ∈ js → r[j]? = some []) → (l.flatten ++ r.flatten).Perm (putAll r js l).flatten
  | [], r, js, _, _ => by simp [putAll]
  | s :: l, r, [], _, _ => by
    simp only [putAll, List.flatten_append]
    exact List.perm_append_comm
  | s :: l, r, j :: js, hn, he => by
    rw [putAll]
    rw [List.nodup_cons] at hn
    have h1 := putAll_perm l (r.set j s) js hn.2 fun k hk => by
      rw [List.getElem?_set, if_neg (fun e => hn.1 (by rw [e]; exact hk))]
      exact he k (List.mem_cons_of_mem _ hk)
    have hj := he j (List.mem_cons_self ..)
    have hlt := (List.getElem?_eq_some_iff.1 hj).1
    have h2 : (r.set j s)[j]? = some s := by simp [hlt]
    have h3 := pick_perm h2
    rw [List.set_set] at h3
    have h4 : r.set j [] = r := set_self hj
    rw [h4] at h3
    refine List.Perm.trans ?_ h1
    rw [List.flatten_cons, List.append_assoc]
    simp only [List.flatten_cons, List.flatten_nil, List.append_nil] at h3
    refine List.Perm.trans ?_ (List.Perm.append_left _ h3.symm)
    rw [← List.append_assoc, ← List.append_assoc]
    exact List.Perm.append_right _ List.perm_append_comm
def nodupB : List Nat → Bool
  | [] => true
  | j :: js => !js.contains j && nodupB js
theorem nodupB_spec : ∀ {js : List Nat}, nodupB js = true → js.Nodup
  | [], _ => List.nodup_nil
  | j :: js, h => by
    simp only [nodupB, Bool.and_eq_true, Bool.not_eq_true'] at h
    refine List.nodup_cons.2 ⟨fun hm => ?_, nodupB_spec h.2⟩
    have : js.contains j = true := by simpa using hm
    rw [this] at h; cases h.1
section
variable {P : Program} {n : Nat} {ops : Array Oper} {i : Nat} {K : PostV} {S : Env} {D : List Deferred} {B : Kn} {L : List Cells}
variable {dst : Option Tmp} {ty : TypeId} {pos : String} {after : Array Edge} {g : Option (Nat × Bool)}
/-- A call that is handed the segments with these numbers; what it hands back takes their places, in order; what is left over comes last. -/
theorem w_callN {f : FuncId} {xs : List Operand} {vs : List Value} {ats : Array TypeId} {Post : Value → Kn → List Cells → Prop} (js : List Nat) {ss r : List Cells} (hp : pickAll L js = some (ss, r)) (hn : nodupB js = true) (hg : guardOk ops S g = some true) (hd : dstOk n dst = true) (he : enters P f = true) (ha : evs S xs = some vs) (hc : CallsB P f vs B ss Post)
    (h : ∀ v B' Ls', B.le B' → Post v B' Ls' → K v D B' (putAll r js Ls')) : opX P n ops i ⟨dst, .call ⟨.value (.func f), xs.toArray, ats⟩, ty, pos, after, g⟩ K S D B L :=
  opX_enter (o := ⟨dst, .call ⟨.value (.func f), xs.toArray, ats⟩, ty, pos, after, g⟩) (vs := vs) hg (fun ρ hρ Q F q => by
      have := call_sem (P := P) (B := B) (L := L) (dst := dst) (ty := ty) (pos := pos) (after := after) (g := g) (x := .func f) (first := #[]) (cap := #[]) (ats := ats) he rfl ha ρ hρ Q F
      exact this (by simpa using q)) hd (Ls := ss) (Lk := r) (pickAll_perm js L ss r hp) hc
    fun v B' Ls' hle hq => ⟨putAll r js Ls', putAll_perm Ls' r js (nodupB_spec hn) (fun j hj => pickAll_len js L ss r hp j (.inr hj)), h v B' Ls' hle hq⟩
end
theorem atElem {B : Kn} {L : List Cells} {b i : Nat} {v : Value} {l : List Value} {T : TypeId} (j : Nat) (hj : L[j]? = some (box1 b l T)) (hv : l[i]? = some v) : At B L ((⟨b, 0, none⟩ : Addr).add i) v := by
  rw [Addr.add_off _ _ rfl, Nat.zero_add]
  exact atL j hj rfl hv
theorem atMul1 {B : Kn} {L : List Cells} {a : Addr} {i : Nat} {v : Value} (h : At B L (a.add i) v) : At B L (a.add (i * 1)) v := by rw [Nat.mul_one]; exact h
/-- The segments with these numbers are kept; the rest is let go. -/
theorem w_sel {P : Program} {n : Nat} {Q : Exit → Post4} {S : Env} {D : List Deferred} {B : Kn} {L : List Cells} {c : Code} (js : List Nat) {ss r : List Cells} (hp : pickAll L js = some (ss, r)) (h : wpS P n c Q S D B ss) : wpS P n c Q S D B L := fun C k T hn hT hA => by
  have h1 := (pickAll_perm js L ss r hp).append_right C.F
  refine C.X.drop (r := ss.flatten ++ C.F) (gl := r.flatten) (h1.trans ?_) (h C k T hn hT hA)
  rw [List.append_assoc, List.append_assoc]
  exact List.Perm.append_left _ List.perm_append_comm
theorem SrcAt.box {B : Kn} {L : List Cells} {b : Nat} {arr : List Value} {T : TypeId} (j : Nat) (hj : L[j]? = some (box1 b arr T)) : SrcAt B L.flatten (some ⟨b, 0, none⟩) arr := fun k v hk => by
  have := atElem (B := B) (i := k) j hj hk
  exact this
theorem VecL.at {B : Kn} {L : List Cells} {l : Cells} {p : Option Addr} {m c sz i : Nat} {T : TypeId} {vs : List Value} {v : Value} (h : VecL l p m c T sz vs) (j : Nat) (hj : L[j]? = some l) (hv : vs[i]? = some v) : ∃ a, p = some a ∧ a.spot = none ∧ At B L (a.add i) v := by
  obtain ⟨h1, ⟨rfl, rfl, rfl, rfl⟩ | ⟨b, arr, rfl, h2, h3, rfl, h4⟩⟩ := h
  · have : vs = [] := List.eq_nil_of_length_eq_zero (by simpa using h1)
    rw [this] at hv; simp at hv
  · refine ⟨_, rfl, rfl, atElem j hj ?_⟩
    rw [← h3, List.getElem?_take] at hv
    split at hv
    · exact hv
    · cases hv
/-- A function's end: the segments with these numbers are handed back. -/
theorem endN {P : Program} {S : Env} {B : Kn} {L : List Cells} {rs : List ResultVar} {Post : Value → Kn → List Cells → Prop} (e : Exit) (he : e = .ret ∨ e = .normal) (vs : List Value) (js : List Nat) {ss r : List Cells} (hp : pickAll L js = some (ss, r)) (hr : resAll P S B L rs vs) (hq : Post (resVal vs) B ss) : bodyQ P rs Post e S [] B L :=
  ⟨he, rfl, vs, ss, hr, ⟨r.flatten, pickAll_perm js L ss r hp⟩, hq⟩
/-- Bytes that are known, from an address on. -/
def BytesAt (B : Kn) (q : Option Addr) (m : Nat) : Prop := ∀ j, j < m → ∃ (a : Addr) (c : UInt8), q = some a ∧ a.spot = none ∧ CellAt B [] (a.add j) (.int .u8 c.toNat)
theorem BytesAt.get {B : Kn} {q : Option Addr} {m : Nat} (h : BytesAt B q m) (hm : 0 < m) : ∃ a, q = some a ∧ ∀ j, j < m → ∃ c : UInt8, ∀ L, At B L (a.add (j * 1)) (.int .u8 c.toNat) := by
  obtain ⟨a, _, rfl, hs, _⟩ := h 0 hm
  refine ⟨a, rfl, fun j hj => ?_⟩
  obtain ⟨a', c, e, _, hc⟩ := h j hj
  cases e
  exact ⟨c, fun L => by rw [Nat.mul_one]; exact CellAt.app (F := L.flatten) hc⟩
theorem BytesAt.at {B : Kn} {q : Option Addr} {m : Nat} (h : BytesAt B q m) (hm : 0 < m) : ∃ a, q = some a ∧ ∀ ix : Int, 0 ≤ ix → ix < m → ∃ z : Nat, z < 256 ∧ ∀ L, At B L (a.add (ix.toNat * 1)) (.int .u8 z) := by
  obtain ⟨a, rfl, hc⟩ := h.get hm
  refine ⟨a, rfl, fun ix h0 h1 => ?_⟩
  obtain ⟨c, hc⟩ := hc ix.toNat (by omega)
  exact ⟨c.toNat, c.toNat_lt, hc⟩
theorem BytesAt.take {B : Kn} {q : Option Addr} {m k c : Nat} (h : BytesAt B q m) (hk : k ≤ m) : BytesAt B (if c = 0 then q else q.map (·.add (0 * 1))) (k - 0) := by
  intro j hj
  obtain ⟨a, x, rfl, hs, hx⟩ := h j (by omega)
  refine ⟨a, x, ?_, hs, hx⟩
  split <;> simp [Addr.add]
end Go.BL
