/-
  BL: operations on memory, strings, slices.
-/
import Derived.Test.YtnhgfdfmfhkcmaaBLOps
import Derived.Laws.Strings
namespace Go.BL
open Go.Conc (G)
set_option linter.unusedVariables false

section
variable {P : Program} {n : Nat} {ops : Array Oper} {i : Nat} {K : PostV} {S : Env} {D : List Deferred} {B : Kn} {L : List Cells}
variable {dst : Option Tmp} {ty : TypeId} {pos : String} {after : Array Edge} {g : Option (Nat × Bool)}

theorem flat_snoc (L : List Cells) (s F : Cells) : (s ++ (L.flatten ++ F)).Perm ((L ++ [s]).flatten ++ F) := by
  simp only [List.flatten_append, List.flatten_cons, List.flatten_nil, List.append_nil, List.append_assoc]
  exact List.perm_append_comm_assoc s L.flatten F

/-- A new variable, zeroed. -/
theorem w_alloc {t : TypeId} {z : Value} {l : List Value} (hg : guardOk ops S g = some true) (hd : dstOk n dst = true) (hz : zeroOf P t = some z) (hl : z.cells = l.toArray)
    (h : ∀ b, K (ptr ⟨b, 0, none⟩) D B (L ++ [box1 b l t])) : opX P n ops i ⟨dst, .alloc t, ty, pos, after, g⟩ K S D B L :=
  opX_hb hg hd fun ρ hρ F => by
    simp only [execOp, Instr.alloc, hb_bind, hb_zeroValue hz, hb_pure]
    refine ⟨rfl, fun b _ _ => ?_⟩
    refine ⟨L ++ [box1 b l t], ?_, h b⟩
    rw [hl]
    exact .of (flat_snoc L (box1 b l t) F)
theorem w_box {t : TypeId} {x : Operand} {v : Value} {l : List Value} (hg : guardOk ops S g = some true) (hd : dstOk n dst = true) (hx : ev S x = some v) (hl : v.cells = l.toArray)
    (h : ∀ b, K (ptr ⟨b, 0, none⟩) D B (L ++ [box1 b l t])) : opX P n ops i ⟨dst, .box t x, ty, pos, after, g⟩ K S D B L :=
  opX_hb hg hd fun ρ hρ F => by
    simp only [execOp, Instr.box, hb_bind, hρ x _ hx, hb_pure]
    refine ⟨rfl, fun b _ _ => ?_⟩
    refine ⟨L ++ [box1 b l t], ?_, h b⟩
    rw [hl]
    exact .of (flat_snoc L (box1 b l t) F)

theorem w_load1 {t : TypeId} {x : Operand} {a : Addr} {v : Value} (hg : guardOk ops S g = some true) (hd : dstOk n dst = true) (hl : lk P t = some none) (hx : ev S x = some (ptr a)) (hc : At B L a v)
    (h : K v D B L) : opX P n ops i ⟨dst, .load t x, ty, pos, after, g⟩ K S D B L :=
  opX_pure hg hd (fun ρ hρ Q F q => by
    simp only [execOp, Instr.loadAt, Instr.sureAddr, hρ x _ hx, hb_bind, hb_pure]
    exact hb_loadVar1 hl hc.app q) h
theorem w_loadN {t : TypeId} {x : Operand} {a : Addr} (vs : List Value) (hg : guardOk ops S g = some true) (hd : dstOk n dst = true) (hl : lk P t = some (some vs.length)) (hx : ev S x = some (ptr a)) (hc : RowAt B L a vs)
    (h : K (.agg vs.toArray) D B L) : opX P n ops i ⟨dst, .load t x, ty, pos, after, g⟩ K S D B L :=
  opX_pure hg hd (fun ρ hρ Q F q => by
    simp only [execOp, Instr.loadAt, Instr.sureAddr, hρ x _ hx, hb_bind, hb_pure]
    exact hb_loadVarN hl (fun j v hj => (hc j v hj).app) q) h

theorem w_fieldAddr {s : TypeId} {x : Operand} {fi off : Nat} {a : Addr} (hg : guardOk ops S g = some true) (hd : dstOk n dst = true) (hf : fieldOff P s fi = some off) (hx : ev S x = some (ptr a))
    (h : K (ptr (a.add off)) D B L) : opX P n ops i ⟨dst, .fieldAddr s x fi, ty, pos, after, g⟩ K S D B L :=
  opX_pure hg hd (fun ρ hρ Q F q => by
    unfold fieldOff at hf
    split at hf
    · rename_i fs hu
      split at hf
      · rename_i f hfi
        split at hf
        · rename_i j hj
          split at hf
          · cases hf
          · rename_i hsz
            simp only [Option.some.injEq] at hf
            have hs : sizeIs P f.type = some j.size := by simp [sizeIs, hj]
            simp only [execOp, Instr.fieldAt, Instr.sureAddr, hρ x _ hx, hb_bind, hb_pure, hb_underlying hu, hfi, fieldPlace, hb_sizeOf hs, hsz, if_false, hf]
            exact q
        · cases hf
      · cases hf
    · cases hf) h

/-- A store into an owned segment. -/
theorem w_store {t : TypeId} {x y : Operand} {a : Addr} {v : Value} (vs : List Value) {l : List Value} {T : TypeId} {r : Cells} (j : Nat) (l' : List Value) (hg : guardOk ops S g = some true) (hd : dstOk n dst = true) (hsz : sizeIs P t = some vs.length)
    (hx : ev S x = some (ptr a)) (hy : ev S y = some v) (hv : v.cells = vs.toArray) (ho : vs.all oneC = true) (hj : L[j]? = some ((a.block, .cells l.toArray T (0, 0)) :: r)) (hs : a.spot = none) (hlen : Nat.ble (a.off + vs.length) l.length = true) (hl' : setAt l a.off vs = l')
    (h : K undef D B (L.set j ((a.block, .cells l'.toArray T (0, 0)) :: r))) : opX P n ops i ⟨dst, .store t x y, ty, pos, after, g⟩ K S D B L :=
  opX_hb hg hd fun ρ hρ F => by
    obtain ⟨rr, h1, h2⟩ := set_perm F ((a.block, .cells l'.toArray T (0, 0)) :: r) hj
    have hcs : v.cells.size = vs.length := by rw [hv]; simp
    simp only [execOp, Instr.storeAt, Instr.sureAddr, hρ x _ hx, hρ y _ hy, hb_bind, hb_pure, storeVar, hb_sizeOf hsz, hcs, ne_eq, not_true_eq_false, if_false]
    rw [hv]
    refine hb_storeCells (T := T) (L₁ := r ++ rr) hs vs 0 l _ ho (by simpa using h1) (by simpa using Nat.le_of_ble_eq_true hlen) fun L' hp => ?_
    refine ⟨_, ?_, h⟩
    rw [Nat.add_zero, hl'] at hp
    exact .of (hp.trans (by simpa using h2.symm))

theorem hb_sliceBound {k : IntKind} {a : Int} {y : Nat} {code : BoundsCode} {Q : Nat → Kn → Cells → Prop} {L : Cells} (h0 : 0 ≤ a) (h1 : a ≤ y) : hb P (Instr.sliceBound (.int k a) y code) Q B L = Q a.toNat B L := by
  simp only [Instr.sliceBound, asIntOf, hb_bind, hb_pure, h0, h1, and_self, if_true]

/-! slices: addresses of elements -/
theorem w_indexAddr {t e : TypeId} {x y : Operand} {k : IntKind} {a : Addr} {len cap sz : Nat} {ix : Int} (hg : guardOk ops S g = some true) (hd : dstOk n dst = true) (hu : P.underlying t = some (.slice e)) (hsz : sizeIs P e = some sz)
    (hx : ev S x = some (.slice (some a) len cap)) (hy : ev S y = some (.int k ix)) (h0 : 0 ≤ ix) (h1 : ix < len) (h : K (ptr (a.add (ix.toNat * sz))) D B L) : opX P n ops i ⟨dst, .indexAddr t x y, ty, pos, after, g⟩ K S D B L :=
  opX_pure hg hd (fun ρ hρ Q F q => by
    simp only [execOp, Instr.indexAt, asIntOf, hρ x _ hx, hρ y _ hy, hb_bind, hb_pure, hb_underlying hu, h0, h1, and_self, if_true, hb_sizeOf hsz]
    exact q) h
theorem w_indexArr {t e : TypeId} {x y : Operand} {k : IntKind} {a : Addr} {len sz : Nat} {ix : Int} (hg : guardOk ops S g = some true) (hd : dstOk n dst = true) (hu : P.underlying t = some (.array len e)) (hsz : sizeIs P e = some sz)
    (hx : ev S x = some (ptr a)) (hy : ev S y = some (.int k ix)) (h0 : 0 ≤ ix) (h1 : ix < len) (h : K (ptr (a.add (ix.toNat * sz))) D B L) : opX P n ops i ⟨dst, .indexAddr t x y, ty, pos, after, g⟩ K S D B L :=
  opX_pure hg hd (fun ρ hρ Q F q => by
    simp only [execOp, Instr.indexAt, Instr.sureAddr, asIntOf, hρ x _ hx, hρ y _ hy, hb_bind, hb_pure, hb_underlying hu, h0, h1, and_self, if_true, hb_sizeOf hsz]
    exact q) h

theorem data_get (l : List UInt8) (j : Nat) : (ByteArray.mk l.toArray)[j]? = l[j]? := by
  show (if h : j < (ByteArray.mk l.toArray).size then some ((ByteArray.mk l.toArray)[j]) else none) = _
  have hs : (ByteArray.mk l.toArray).size = l.length := by simp [ByteArray.size]
  by_cases h : j < l.length
  · rw [dif_pos (by rw [hs]; exact h), List.getElem?_eq_getElem h]; rfl
  · rw [dif_neg (by rw [hs]; exact h), List.getElem?_eq_none (by omega)]
theorem str_size (l : List UInt8) : (ByteArray.mk l.toArray).size = l.length := by simp [ByteArray.size]
theorem str_extract (l : List UInt8) (a b : Nat) : (ByteArray.mk l.toArray).extract a b = ⟨((l.take b).drop a).toArray⟩ := by
  apply ByteArray.ext
  apply Array.ext'
  rw [ByteArray.data_extract]
  simp [List.extract_eq_take_drop, List.drop_take]
theorem str_append (a b : List UInt8) : (ByteArray.mk a.toArray) ++ (ByteArray.mk b.toArray) = ⟨(a ++ b).toArray⟩ := by
  apply ByteArray.ext
  simp

theorem w_index {t : TypeId} {x y : Operand} {k : IntKind} {l : List UInt8} {ix : Int} {c : UInt8} (hg : guardOk ops S g = some true) (hd : dstOk n dst = true) (hu : P.underlying t = some .string)
    (hx : ev S x = some (str l)) (hy : ev S y = some (.int k ix)) (h0 : 0 ≤ ix) (h1 : l[ix.toNat]? = some c) (h : K (.int .u8 c.toNat) D B L) : opX P n ops i ⟨dst, .index t x y, ty, pos, after, g⟩ K S D B L :=
  opX_pure hg hd (fun ρ hρ Q F q => by
    simp only [execOp, Instr.index, asIntOf, hρ x _ hx, hρ y _ hy, hb_bind, hb_pure, hb_underlying hu, h0, if_true, data_get, h1]
    exact q) h

/-- s[a:b], s[a:], s[:b] of a string. -/
theorem w_sliceS {t : TypeId} {x : Operand} {lo hi : Option Operand} {l : List UInt8} {a b : Nat} (hg : guardOk ops S g = some true) (hd : dstOk n dst = true) (hu : P.underlying t = some .string)
    (hx : ev S x = some (str l)) (hlo : match lo with | none => a = 0 | some o => ∃ k, ∃ z : Int, ev S o = some (.int k z) ∧ z = a) (hhi : match hi with | none => b = l.length | some o => ∃ k, ∃ z : Int, ev S o = some (.int k z) ∧ z = b) (hab : a ≤ b) (hb' : b ≤ l.length)
    (h : K (str ((l.take b).drop a)) D B L) : opX P n ops i ⟨dst, .slice t x lo hi none, ty, pos, after, g⟩ K S D B L :=
  opX_pure hg hd (fun ρ hρ Q F q => by
    have e1 : (str_size l) = str_size l := rfl
    cases lo with
    | none =>
      obtain rfl : a = 0 := hlo
      cases hi with
      | none =>
        obtain rfl : b = l.length := hhi
        simp only [execOp, Instr.sliceAt, Instr.slice, hρ x _ hx, hb_bind, hb_pure, hb_underlying hu, Option.map_none, Option.isSome_none, Bool.false_eq_true, if_false, Instr.sliceBounds, str_size, str_extract]
        exact q
      | some o =>
        obtain ⟨k, z, hz, rfl⟩ := hhi
        simp only [execOp, Instr.sliceAt, Instr.slice, hρ x _ hx, hρ o _ hz, hb_bind, hb_pure, hb_underlying hu, Option.map_none, Option.map_some, Option.isSome_none, Bool.false_eq_true, if_false, Instr.sliceBounds, str_size, str_extract]
        rw [hb_sliceBound (by omega) (by omega)]
        simp only [hb_bind, hb_pure, Int.toNat_natCast]
        exact q
    | some p =>
      obtain ⟨k', y, hy, rfl⟩ := hlo
      cases hi with
      | none =>
        obtain rfl : b = l.length := hhi
        simp only [execOp, Instr.sliceAt, Instr.slice, hρ x _ hx, hρ p _ hy, hb_bind, hb_pure, hb_underlying hu, Option.map_none, Option.map_some, Option.isSome_none, Bool.false_eq_true, if_false, Instr.sliceBounds, str_size, str_extract]
        rw [hb_sliceBound (by omega) (by omega)]
        simp only [hb_bind, hb_pure, Int.toNat_natCast]
        exact q
      | some o =>
        obtain ⟨k, z, hz, rfl⟩ := hhi
        simp only [execOp, Instr.sliceAt, Instr.slice, hρ x _ hx, hρ o _ hz, hρ p _ hy, hb_bind, hb_pure, hb_underlying hu, Option.map_none, Option.map_some, Option.isSome_none, Bool.false_eq_true, if_false, Instr.sliceBounds, str_size, str_extract]
        rw [hb_sliceBound (by omega) (by omega)]
        simp only [hb_bind, Int.toNat_natCast]
        rw [hb_sliceBound (by omega) (by omega)]
        simp only [hb_bind, hb_pure, Int.toNat_natCast]
        exact q) h

/-- x[lo:hi] of a slice: the same row further on. -/
theorem w_sliceV {t e : TypeId} {x : Operand} {lo hi : Option Operand} {p : Option Addr} {len cap sz : Nat} {a b : Nat} (hg : guardOk ops S g = some true) (hd : dstOk n dst = true) (hu : P.underlying t = some (.slice e)) (hsz : sizeIs P e = some sz)
    (hx : ev S x = some (.slice p len cap)) (hlo : match lo with | none => a = 0 | some o => ∃ k, ∃ z : Int, ev S o = some (.int k z) ∧ z = a) (hhi : match hi with | none => b = len | some o => ∃ k, ∃ z : Int, ev S o = some (.int k z) ∧ z = b) (hab : a ≤ b) (hb' : b ≤ cap)
    (h : K (.slice (if cap = a then p else p.map (·.add (a * sz))) (b - a) (cap - a)) D B L) : opX P n ops i ⟨dst, .slice t x lo hi none, ty, pos, after, g⟩ K S D B L :=
  opX_pure hg hd (fun ρ hρ Q F q => by
    cases lo with
    | none =>
      obtain rfl : a = 0 := hlo
      cases hi with
      | none =>
        obtain rfl : b = len := hhi
        simp only [execOp, Instr.sliceAt, Instr.slice, hρ x _ hx, hb_bind, hb_pure, hb_underlying hu, Option.map_none, Instr.sliceBounds, hb_sizeOf hsz]
        exact q
      | some o =>
        obtain ⟨k, z, hz, rfl⟩ := hhi
        simp only [execOp, Instr.sliceAt, Instr.slice, hρ x _ hx, hρ o _ hz, hb_bind, hb_pure, hb_underlying hu, Option.map_none, Option.map_some, Instr.sliceBounds, hb_sizeOf hsz]
        rw [hb_sliceBound (by omega) (by omega)]
        simp only [hb_bind, hb_pure, Int.toNat_natCast, hb_sizeOf hsz]
        exact q
    | some r =>
      obtain ⟨k', y, hy, rfl⟩ := hlo
      cases hi with
      | none =>
        obtain rfl : b = len := hhi
        simp only [execOp, Instr.sliceAt, Instr.slice, hρ x _ hx, hρ r _ hy, hb_bind, hb_pure, hb_underlying hu, Option.map_none, Option.map_some, Instr.sliceBounds, hb_sizeOf hsz]
        rw [hb_sliceBound (by omega) (by omega)]
        simp only [hb_bind, hb_pure, Int.toNat_natCast, hb_sizeOf hsz]
        exact q
      | some o =>
        obtain ⟨k, z, hz, rfl⟩ := hhi
        simp only [execOp, Instr.sliceAt, Instr.slice, hρ x _ hx, hρ o _ hz, hρ r _ hy, hb_bind, hb_pure, hb_underlying hu, Option.map_none, Option.map_some, Instr.sliceBounds, hb_sizeOf hsz]
        rw [hb_sliceBound (by omega) (by omega)]
        simp only [hb_bind, Int.toNat_natCast]
        rw [hb_sliceBound (by omega) (by omega)]
        simp only [hb_bind, hb_pure, Int.toNat_natCast, hb_sizeOf hsz]
        exact q) h

section calls
variable {args : Array Operand} {ats : Array TypeId}
theorem w_lenS {x : Operand} {t : TypeId} {l : List UInt8} (hg : guardOk ops S g = some true) (hd : dstOk n dst = true) (hu : P.underlying t = some .string) (hx : ev S x = some (str l)) (h : K (.int .i64 l.length) D B L) :
    opX P n ops i ⟨dst, .call ⟨.builtin .len, #[x], #[t]⟩, ty, pos, after, g⟩ K S D B L :=
  opX_pure hg hd (fun ρ hρ Q F q => by
    simp only [execOp, resolve, hb_bind, hb_pure, invoke, builtin, Builtin.len_, List.map_toArray, List.map_cons, List.map_nil, hρ x _ hx, List.getElem?_toArray, List.getElem?_cons_zero, hb_underlying hu, goInt, str_size]
    exact q) h
theorem w_lenV {x : Operand} {t e : TypeId} {p : Option Addr} {len cap : Nat} (hg : guardOk ops S g = some true) (hd : dstOk n dst = true) (hu : P.underlying t = some (.slice e)) (hx : ev S x = some (.slice p len cap)) (h : K (.int .i64 len) D B L) :
    opX P n ops i ⟨dst, .call ⟨.builtin .len, #[x], #[t]⟩, ty, pos, after, g⟩ K S D B L :=
  opX_pure hg hd (fun ρ hρ Q F q => by
    simp only [execOp, resolve, hb_bind, hb_pure, invoke, builtin, Builtin.len_, List.map_toArray, List.map_cons, List.map_nil, hρ x _ hx, List.getElem?_toArray, List.getElem?_cons_zero, hb_underlying hu, goInt]
    exact q) h
end calls

section strings
variable {t u : TypeId} {x y : Operand} {a b : List UInt8}
theorem w_cat (hg : guardOk ops S g = some true) (hd : dstOk n dst = true) (hx : ev S x = some (str a)) (hy : ev S y = some (str b)) (hlen : a.length + b.length ≤ 9223372036854775807) (h : K (str (a ++ b)) D B L) : opX P n ops i ⟨dst, .binOp .add t x y u, ty, pos, after, g⟩ K S D B L :=
  opX_pure hg hd (fun ρ hρ Q F q => by
    have hno : ¬ ((((ByteArray.mk a.toArray).size + (ByteArray.mk b.toArray).size : Nat) : Int) > IntKind.i64.max) := by
      rw [str_size, str_size]; simp only [IntKind.max, IntKind.signed, IntKind.bits]; omega
    simp only [execOp, hρ x _ hx, hρ y _ hy, hb_bind, hb_eqGuard, binOp, Op.stringOp, hno, if_false, hb_pure, str_append]
    exact q) h
theorem w_eqlS (hg : guardOk ops S g = some true) (hd : dstOk n dst = true) (hx : ev S x = some (str a)) (hy : ev S y = some (str b)) (h : K (.bool (decide (a = b))) D B L) : opX P n ops i ⟨dst, .binOp .eql t x y u, ty, pos, after, g⟩ K S D B L :=
  opX_pure hg hd (fun ρ hρ Q F q => by
    have e : (a == b) = decide (a = b) := by rw [Bool.eq_iff_iff]; simp
    simp only [execOp, hρ x _ hx, hρ y _ hy, hb_bind, hb_eqGuard, binOp, Op.stringOp, ByteArray.toList_mk, hb_pure, e]
    exact q) h
theorem w_neqS (hg : guardOk ops S g = some true) (hd : dstOk n dst = true) (hx : ev S x = some (str a)) (hy : ev S y = some (str b)) (h : K (.bool (decide (a ≠ b))) D B L) : opX P n ops i ⟨dst, .binOp .neq t x y u, ty, pos, after, g⟩ K S D B L :=
  opX_pure hg hd (fun ρ hρ Q F q => by
    have e : (!(a == b)) = decide (a ≠ b) := by rw [Bool.eq_iff_iff]; simp
    simp only [execOp, hρ x _ hx, hρ y _ hy, hb_bind, hb_eqGuard, binOp, Op.stringOp, ByteArray.toList_mk, hb_pure, e]
    exact q) h
theorem w_leqS (hg : guardOk ops S g = some true) (hd : dstOk n dst = true) (hx : ev S x = some (str a)) (hy : ev S y = some (str b)) (h : K (.bool (Op.bytesLess a b || decide (a = b))) D B L) : opX P n ops i ⟨dst, .binOp .leq t x y u, ty, pos, after, g⟩ K S D B L :=
  opX_pure hg hd (fun ρ hρ Q F q => by
    have e : (a == b) = decide (a = b) := by rw [Bool.eq_iff_iff]; simp
    simp only [execOp, hρ x _ hx, hρ y _ hy, hb_bind, hb_eqGuard, binOp, Op.stringOp, ByteArray.toList_mk, hb_pure, e]
    exact q) h
theorem w_lssS (hg : guardOk ops S g = some true) (hd : dstOk n dst = true) (hx : ev S x = some (str a)) (hy : ev S y = some (str b)) (h : K (.bool (Op.bytesLess a b)) D B L) : opX P n ops i ⟨dst, .binOp .lss t x y u, ty, pos, after, g⟩ K S D B L :=
  opX_pure hg hd (fun ρ hρ Q F q => by
    simp only [execOp, hρ x _ hx, hρ y _ hy, hb_bind, hb_eqGuard, binOp, Op.stringOp, ByteArray.toList_mk, hb_pure]
    exact q) h
end strings

/-- A guard is decided: the two ways. -/
theorem r_split {K : Post4} {o : Oper} {l : List Oper} {d : Nat} {t : Bool} (hb : get S d = some (.bool t)) (h1 : t = true → runW P n ops i (o :: l) K ((d, .bool true) :: S) D B L) (h2 : t = false → runW P n ops i (o :: l) K ((d, .bool false) :: S) D B L) : runW P n ops i (o :: l) K S D B L := by
  have key : ∀ (S' : Env), (∀ i v, get S' i = some v → get S i = some v) → runW P n ops i (o :: l) K S' D B L → runW P n ops i (o :: l) K S D B L :=
    fun S' hs h C todo k T ho hn hT hA => h C todo k T ho hn (fun i v hv => hT i v (hs i v hv)) hA
  have get_same : ∀ (u : Bool), t = u → ∀ i v, get ((d, Value.bool u) :: S) i = some v → get S i = some v := by
    intro u hu i v hv
    simp only [get] at hv
    cases hbe : Nat.beq d i with
    | true =>
      rw [hbe] at hv
      simp only [cond_true, Option.some.injEq] at hv
      have := Nat.eq_of_beq_eq_true hbe
      subst this; subst hu; rw [hb, ← hv]
    | false => rw [hbe] at hv; exact hv
  cases t with
  | true => exact key _ (get_same true rfl) (h1 rfl)
  | false => exact key _ (get_same false rfl) (h2 rfl)
end
end Go.BL
