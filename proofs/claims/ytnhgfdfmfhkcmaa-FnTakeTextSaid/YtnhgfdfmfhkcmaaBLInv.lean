/-
  BL: methods called through an interface.
-/
import Derived.Test.YtnhgfdfmfhkcmaaBLDeep
namespace Go.BL
open Go.Conc (G)
set_option linter.unusedVariables false
section
variable {P : Program}
def mthOk (P : Program) (t : TypeId) (name : String) (f : FuncId) (pr : Bool) : Bool :=
  match P.info? t with
  | some i => match i.methods.find? (·.name == name) with
    | some m => m.path.isEmpty && (m.func == some (f, pr))
    | none => false
  | none => false
/-- The method that is found, and its receiver. -/
def Found (P : Program) (B : Kn) (L : List Cells) (t : TypeId) (v : Value) (name : String) (f : FuncId) (u : Value) : Prop :=
  ∀ (k : Nat) (F : Cells) (Q : FuncId × Value → Kn → Cells → Prop), Q (f, u) B (L.flatten ++ F) → hb P (method (k + 1) t v name) Q B (L.flatten ++ F)
theorem mth_hb {t : TypeId} {name : String} {f : FuncId} {pr : Bool} (h : mthOk P t name f pr = true) {k : Nat} {v : Value} {Q : FuncId × Value → Kn → Cells → Prop} {B : Kn} {L : Cells}
    (q : hb P (receiverAt t (.val v) pr (some ((name.splitOn ".").getLastD name))) (fun u B L => Q (f, u) B L) B L) : hb P (method (k + 1) t v name) Q B L := by
  unfold mthOk at h
  split at h
  · rename_i i hi
    split at h
    · rename_i m hm
      simp only [Bool.and_eq_true, beq_iff_eq] at h
      obtain ⟨hp, hf⟩ := h
      have hp' : m.path.toList = [] := by
        have := Array.isEmpty_iff.1 hp
        rw [this]
      unfold method
      simp only [hb_bind, hb_typeInfo hi, hm, hp', follow, hb_pure, hf, hp, if_true]
      exact q
    · cases h
  · cases h
theorem found_ptr {B : Kn} {L : List Cells} {t e : TypeId} {v : Value} {name : String} {f : FuncId} (h : mthOk P t name f true = true) (hu : P.underlying t = some (.pointer e)) : Found P B L t v name f v := fun k F Q q => by
  refine mth_hb h ?_
  unfold receiverAt
  simp only [hb_bind, hb_underlying hu, Place.get, hb_pure]
  exact q
theorem nilChk {ts : Array TypeId} {t : TypeId} {a : Addr} {x y : String} : Builtin.ssaWrapNilChk_ ts t #[.pointer (some a), strVal x, strVal y] = pure (.pointer (some a)) := rfl
theorem found_val {B : Kn} {L : List Cells} {t e : TypeId} {a : Addr} {u : Value} {name : String} {f : FuncId} (h : mthOk P t name f false = true) (hu : P.underlying t = some (.pointer e)) (hl : lk P e = some none) (ha : At B L a u) : Found P B L t (.pointer (some a)) name f u := fun k F Q q => by
  refine mth_hb h ?_
  unfold receiverAt
  simp only [hb_bind, hb_underlying hu, Place.get, hb_pure, nilChk, asAddr]
  exact hb_loadVar1 hl (CellAt.app ha) q
theorem invoke_sem {n : Nat} {S : Env} {L : List Cells} {B : Kn} {dst : Option Tmp} {ty : TypeId} {pos : String} {after : Array Edge} {g : Option (Nat × Bool)} {x : Operand} {t : TypeId} {v u : Value} {name : String} {f : FuncId} {xs : List Operand} {vs : List Value} {ats : Array TypeId} (he : enters P f = true) (hx : ev S x = some (.iface t v)) (ha : evs S xs = some vs) (hm : Found P B L t v name f u) :
    ∀ ρ : Operand → Value, (∀ x u, ev S x = some u → ρ x = u) → ∀ (Q : Next → Kn → Cells → Prop) F, Q (.enter f (u :: vs).toArray) B (L.flatten ++ F) → hb P (execOp ρ ⟨dst, .call ⟨.invoke x name, xs.toArray, ats⟩, ty, pos, after, g⟩) Q B (L.flatten ++ F) := by
  intro ρ hρ Q F q
  have e1 : (#[Value.iface t v] ++ vs.toArray)[0]? = some (.iface t v) := by simp
  have e2 : (#[Value.iface t v] ++ vs.toArray).extract 1 (#[Value.iface t v] ++ vs.toArray).size = vs.toArray := by apply Array.ext'; simp
  have e3 : #[u] ++ vs.toArray = (u :: vs).toArray := by simp
  simp only [execOp, resolve, hρ x _ hx, hb_bind, hb_pure, invoke, List.map_toArray, resolve_args hρ ha, e1, e2, callMethod, hb_program]
  exact hm _ F _ (callFunc_hb he (by rw [e3]; exact q))
end
section
variable {P : Program} {n : Nat} {ops : Array Oper} {i : Nat} {K : PostV} {S : Env} {D : List Deferred} {B : Kn} {L : List Cells}
variable {dst : Option Tmp} {ty : TypeId} {pos : String} {after : Array Edge} {g : Option (Nat × Bool)}
/-- A method called through an interface; the segments with these numbers are handed over. -/
theorem w_invN {f : FuncId} {x : Operand} {t : TypeId} {v u : Value} {name : String} {xs : List Operand} {vs : List Value} {ats : Array TypeId} {Post : Value → Kn → List Cells → Prop} (js : List Nat) {ss r : List Cells} (hp : pickAll L js = some (ss, r)) (hn : nodupB js = true) (hg : guardOk ops S g = some true) (hd : dstOk n dst = true) (he : enters P f = true) (hx : ev S x = some (.iface t v)) (ha : evs S xs = some vs) (hm : Found P B L t v name f u) (hc : CallsB P f (u :: vs) B ss Post)
    (h : ∀ v B' Ls', B.le B' → Post v B' Ls' → K v D B' (putAll r js Ls')) : opX P n ops i ⟨dst, .call ⟨.invoke x name, xs.toArray, ats⟩, ty, pos, after, g⟩ K S D B L :=
  opX_enter (o := ⟨dst, .call ⟨.invoke x name, xs.toArray, ats⟩, ty, pos, after, g⟩) (vs := u :: vs) hg (invoke_sem (n := n) he hx ha hm) hd (Ls := ss) (Lk := r) (pickAll_perm js L ss r hp) hc
    fun v B' Ls' hle hq => ⟨putAll r js Ls', putAll_perm Ls' r js (nodupB_spec hn) (fun j hj => pickAll_len js L ss r hp j (.inr hj)), h v B' Ls' hle hq⟩
theorem w_assertT {x : Operand} {xt t : TypeId} {v : Value} {d : TypeDesc} (hg : guardOk ops S g = some true) (hd : dstOk n dst = true) (hu : P.underlying t = some d) (hni : (match d with | .interface _ => false | _ => true) = true) (hx : ev S x = some (.iface t v)) (h : K v D B L) : opX P n ops i ⟨dst, .typeAssert x xt t false, ty, pos, after, g⟩ K S D B L :=
  opX_pure hg hd (fun ρ hρ Q F q => by
    simp only [execOp, Instr.typeAssert, hb_bind, hb_underlying hu, hρ x _ hx]
    cases d <;> first | (simp only [if_true, Bool.false_eq_true, if_false, hb_pure]; exact q) | cases hni) h
/-- A method that gives a value and hands back what it was lent. -/
theorem w_invR1 {f : FuncId} {x : Operand} {t : TypeId} {v u : Value} {name : String} {xs : List Operand} {vs : List Value} {ats : Array TypeId} {r : Value} (j : Nat) {s : Cells} (hj : L[j]? = some s) (hg : guardOk ops S g = some true) (hd : dstOk n dst = true) (he : enters P f = true) (hx : ev S x = some (.iface t v)) (ha : evs S xs = some vs) (hm : Found P B L t v name f u) (hc : Upd1 P f (u :: vs) B s r s)
    (h : K r D B L) : opX P n ops i ⟨dst, .call ⟨.invoke x name, xs.toArray, ats⟩, ty, pos, after, g⟩ K S D B L :=
  w_invN [j] (ss := [s]) (r := L.set j []) (by simp [pickAll, hj]) rfl hg hd he hx ha hm hc fun v' B' Ls' hle hq => by
    obtain ⟨rfl, rfl, rfl⟩ := hq
    simp only [putAll, List.set_set]
    rw [set_self hj]; exact h
theorem w_invR {f : FuncId} {x : Operand} {t : TypeId} {v u : Value} {name : String} {xs : List Operand} {vs : List Value} {ats : Array TypeId} {r : Value} (hg : guardOk ops S g = some true) (hd : dstOk n dst = true) (he : enters P f = true) (hx : ev S x = some (.iface t v)) (ha : evs S xs = some vs) (hm : Found P B L t v name f u) (hc : RetB P f (u :: vs) B r)
    (h : K r D B L) : opX P n ops i ⟨dst, .call ⟨.invoke x name, xs.toArray, ats⟩, ty, pos, after, g⟩ K S D B L :=
  w_invN [] (ss := []) (r := L) rfl rfl hg hd he hx ha hm hc fun v' B' Ls' hle hq => by
    obtain ⟨rfl, rfl, rfl⟩ := hq
    exact h
end
end Go.BL
