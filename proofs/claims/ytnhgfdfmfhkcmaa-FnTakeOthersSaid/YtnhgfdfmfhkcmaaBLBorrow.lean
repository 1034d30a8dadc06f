/-
  BL: memory that is owned is lent to a call: the call knows it meanwhile; it comes back as it was.
-/
import Derived.Test.YtnhgfdfmfhkcmaaBLData
namespace Go.BL
open Go.Conc (G)
set_option linter.unusedVariables false

def inL (l : Cells) (b : Nat) : Bool := l.any fun p => p.1 == b
theorem inL_iff {l : Cells} {b : Nat} : inL l b = true ↔ ∃ p, p ∈ l ∧ p.1 = b := by simp [inL]
theorem inL_false {l : Cells} {b : Nat} : inL l b = false ↔ ∀ p, p ∈ l → p.1 ≠ b := by
  rw [Bool.eq_false_iff, ne_eq, inL_iff]
  exact ⟨fun h p hp e => h ⟨p, hp, e⟩, fun h ⟨p, hp, e⟩ => h p hp e⟩
/-- What is known, without what was lent. -/
def Kn.minus (B : Kn) (l : Cells) : Kn := ⟨fun b => if inL l b = true then none else B.mem b⟩
/-- What has become known since. -/
def Kn.less (B' B : Kn) : Kn := ⟨fun b => if (B.mem b).isSome = true then none else B'.mem b⟩
theorem Kn.less_le {B' B : Kn} : (B'.less B).le B' := fun b o h => by
  simp only [Kn.less] at h
  split at h
  · cases h
  · exact h
theorem Kn.less_mono {B0 B B' : Kn} (h : B.le B') : (B.less B0).le (B'.less B0) := fun b o hb => by
  simp only [Kn.less] at hb ⊢
  split at hb
  · cases hb
  · rename_i e; rw [if_neg e]; exact h b o hb
theorem Kn.less_up {B0 B1 B B' : Kn} (h0 : B0.le B1) (h : B.le B') : (B.less B1).le (B'.less B0) := fun b o hb => by
  simp only [Kn.less] at hb ⊢
  split at hb
  · cases hb
  · rename_i e
    rw [if_neg (fun h2 => e (by obtain ⟨o', ho⟩ := Option.isSome_iff_exists.1 h2; rw [h0 b o' ho]; rfl))]
    exact h b o hb
theorem Kn.minus_mem {B : Kn} {l : Cells} {b : Nat} {o : Obj} : (B.minus l).mem b = some o ↔ B.mem b = some o ∧ inL l b = false := by
  simp only [Kn.minus]
  cases inL l b <;> simp

theorem lent_sat {B : Kn} {l L : Cells} {w : World} (hl : ∀ p, p ∈ l → B.mem p.1 = some p.2) (s : Sat (B.minus l) (l ++ L) w) : Sat B L w := by
  have hnd := s.nodup
  rw [List.map_append] at hnd
  obtain ⟨hn1, hn2, hn3⟩ := List.nodup_append.1 hnd
  refine ⟨fun b o h => ?_, fun p hp => s.own p (List.mem_append.2 (.inr hp)), hn2, fun p hp => ?_⟩
  · cases hb : inL l b with
    | true =>
      obtain ⟨p, hp, rfl⟩ := inL_iff.1 hb
      have := hl p hp
      rw [h] at this
      cases this
      exact s.own p (List.mem_append.2 (.inl hp))
    | false => exact s.ro b o (Kn.minus_mem.2 ⟨h, hb⟩)
  · have hb : inL l p.1 = false := inL_false.2 fun q hq e => hn3 _ (List.mem_map.2 ⟨q, hq, rfl⟩) _ (List.mem_map.2 ⟨p, hp, rfl⟩) e
    cases hm : B.mem p.1 with
    | none => rfl
    | some o =>
      have h1 := s.apart p (List.mem_append.2 (.inr hp))
      rw [Kn.minus_mem.2 ⟨hm, hb⟩] at h1; cases h1
theorem sat_lent {B : Kn} {l L : Cells} {w : World} (hl : ∀ p, p ∈ l → B.mem p.1 = some p.2) (hn : (l.map (·.1)).Nodup) (s : Sat B L w) : Sat (B.minus l) (l ++ L) w := by
  refine ⟨fun b o h => s.ro b o (Kn.minus_mem.1 h).1, fun p hp => ?_, ?_, fun p hp => ?_⟩
  · rcases List.mem_append.1 hp with hp | hp
    · exact s.ro _ _ (hl p hp)
    · exact s.own p hp
  · rw [List.map_append, List.nodup_append]
    refine ⟨hn, s.nodup, fun a ha b hb e => ?_⟩
    obtain ⟨p, hp, rfl⟩ := List.mem_map.1 ha
    obtain ⟨q, hq, rfl⟩ := List.mem_map.1 hb
    have h1 := s.apart q hq
    rw [← e, hl p hp] at h1; cases h1
  · cases hm : (B.minus l).mem p.1 with
    | none => rfl
    | some o =>
      obtain ⟨h1, h2⟩ := Kn.minus_mem.1 hm
      rcases List.mem_append.1 hp with hp | hp
      · exact absurd rfl (inL_false.1 h2 p hp)
      · rw [s.apart p hp] at h1; cases h1

/-- The logic in which l is lent. -/
def lentL {P : Program} (X : Lg P) (l : Cells) (hn : (l.map (·.1)).Nodup) : Lg P where
  main := X.main
  R := fun g B L => (∀ p, p ∈ l → B.mem p.1 = some p.2) → X.R g (B.minus l) (l ++ L)
  conv := fun {g B B' L L'} hle hs hb hl h hlB => by
    have hlB' : ∀ p, p ∈ l → B'.mem p.1 = some p.2 := fun p hp => hle _ _ (hlB p hp)
    refine X.conv (fun b o hb => ?_) (fun w s => sat_lent hlB' hn (hs w (lent_sat hlB s))) (fun b o hbo => ?_) (fun p hp => ?_) (h hlB')
    · obtain ⟨h1, h2⟩ := Kn.minus_mem.1 hb
      exact Kn.minus_mem.2 ⟨hle b o h1, h2⟩
    · obtain ⟨h1, h2⟩ := Kn.minus_mem.1 hbo
      rcases hb b o h1 with hx | ⟨p, hp, e⟩
      · obtain ⟨o', ho'⟩ := Option.isSome_iff_exists.1 hx
        exact .inl (by rw [Kn.minus_mem.2 ⟨ho', h2⟩]; rfl)
      · exact .inr ⟨p, List.mem_append.2 (.inr hp), e⟩
    · rcases List.mem_append.1 hp with hp | hp
      · exact ⟨p, List.mem_append.2 (.inl hp), rfl⟩
      · obtain ⟨q, hq, e⟩ := hl p hp
        exact ⟨q, List.mem_append.2 (.inr hq), e⟩
  step := fun {g B L} hg h hlB => by
    refine X.step hg fun w s => ?_
    obtain ⟨g', w', es, B', L', h1, h2, h3, h4⟩ := h w (lent_sat hlB s)
    have hlB' : ∀ p, p ∈ l → B'.mem p.1 = some p.2 := fun p hp => h3.le _ _ (hlB p hp)
    refine ⟨g', w', es, B'.minus l, l ++ L', h1, fun e he => ?_, ⟨fun b o hb => ?_, sat_lent hlB' hn h3.sat, h3.size, fun b hb hn' => h3.keep b hb fun p hp => hn' p (List.mem_append.2 (.inr hp)), fun b o hbo => ?_, fun p hp => ?_, h3.fz, h3.tape, h3.os, h3.output⟩, h4 hlB'⟩
    · rcases h2 e he with hx | ⟨hs, blk, hloc, hx⟩
      · exact .inl hx
      · refine .inr ⟨hs, blk, hloc, ?_⟩
        rcases hx with ⟨o, ho⟩ | ⟨hw, hb⟩ | hge
        · exact .inl ⟨o, List.mem_append.2 (.inr ho)⟩
        · cases hi : inL l blk with
          | true =>
            obtain ⟨p, hp, rfl⟩ := inL_iff.1 hi
            exact .inl ⟨p.2, List.mem_append.2 (.inl hp)⟩
          | false =>
            obtain ⟨o, ho⟩ := Option.isSome_iff_exists.1 hb
            exact .inr (.inl ⟨hw, by rw [Kn.minus_mem.2 ⟨ho, hi⟩]; rfl⟩)
        · exact .inr (.inr hge)
    · obtain ⟨a1, a2⟩ := Kn.minus_mem.1 hb
      exact Kn.minus_mem.2 ⟨h3.le b o a1, a2⟩
    · obtain ⟨a1, a2⟩ := Kn.minus_mem.1 hbo
      rcases h3.newB b o a1 with hx | ⟨p, hp, e⟩ | hge
      · obtain ⟨o', ho'⟩ := Option.isSome_iff_exists.1 hx
        exact .inl (by rw [Kn.minus_mem.2 ⟨ho', a2⟩]; rfl)
      · exact .inr (.inl ⟨p, List.mem_append.2 (.inr hp), e⟩)
      · exact .inr (.inr hge)
    · rcases List.mem_append.1 hp with hp | hp
      · exact .inl ⟨p, List.mem_append.2 (.inl hp), rfl⟩
      · rcases h3.newL p hp with ⟨q, hq, e⟩ | hge
        · exact .inl ⟨q, List.mem_append.2 (.inr hq), e⟩
        · exact .inr hge

/-- A LOAN: a contract that wants l known holds where l is owned; l comes back. -/
theorem CallsB.borrow {P : Program} {f : FuncId} {args : List Value} {B : Kn} {l : Cells} {Ls : List Cells} {Post : Value → Kn → List Cells → Prop}
    (h : (∀ p, p ∈ l → (B.add l).mem p.1 = some p.2) → CallsB P f args (B.add l) Ls Post) :
    CallsB P f args B (l :: Ls) (fun v B' Ls' => ∃ B₂ Ls₂, Ls' = l :: Ls₂ ∧ B' = B₂.minus l ∧ (B.add l).le B₂ ∧ (∀ p, p ∈ l → (B.add l).mem p.1 = some p.2) ∧ (B.add l).minus l = B ∧ Post v B₂ Ls₂) := fun X kind c cs F hk hA => by
  refine X.assume rfl fun ha hnd => ?_
  rw [List.flatten_cons, List.append_assoc] at ha hnd ⊢
  have hnl : (l.map (·.1)).Nodup := by rw [List.map_append] at hnd; exact (List.nodup_append.1 hnd).1
  have hal : ∀ p, p ∈ l → B.mem p.1 = none := fun p hp => ha p (List.mem_append.2 (.inl hp))
  have hm : ∀ p, p ∈ l → (B.add l).mem p.1 = some p.2 := fun p hp => Kn.add_mem hal hnl hp
  have e : (B.add l).minus l = B := by
    have : ∀ b, ((B.add l).minus l).mem b = B.mem b := fun b => by
      simp only [Kn.minus]
      cases hb : inL l b with
      | true =>
        obtain ⟨p, hp, rfl⟩ := inL_iff.1 hb
        simp [hal p hp]
      | false =>
        simp only [Kn.add]
        cases hx : B.mem b with
        | some o => simp
        | none =>
          have : l.find? (fun p => p.1 == b) = none := List.find?_eq_none.2 fun p hp => by simpa using inL_false.1 hb p hp
          simp [this]
    cases B
    simp only [Kn.minus] at this ⊢
    congr 1
    funext b
    exact this b
  have key := h hm (lentL X l hnl) kind c cs F hk fun v B₂ Ls₂ hle hq hlB => by
    have := hA v (B₂.minus l) (l :: Ls₂) (fun b o hb => by
        have h1 := Kn.le_add B l b o hb
        refine Kn.minus_mem.2 ⟨hle b o h1, inL_false.2 fun p hp he => ?_⟩
        rw [← he, hal p hp] at hb; cases hb) ⟨B₂, Ls₂, rfl, rfl, hle, hm, e, hq⟩
    rwa [List.flatten_cons, List.append_assoc] at this
  have := key hm
  rwa [e] at this
/-- What has become known since a loan is known when it ends. -/
theorem Kn.less_minus {B B₂ : Kn} {l : Cells} (h : ∀ p, p ∈ l → (B.add l).mem p.1 = some p.2) : (B₂.less (B.add l)).le (B₂.minus l) := fun b o hb => by
  simp only [Kn.less] at hb
  split at hb
  · cases hb
  · rename_i e
    refine Kn.minus_mem.2 ⟨hb, inL_false.2 fun p hp he => e ?_⟩
    rw [← he, h p hp]; rfl
end Go.BL

namespace Go.BL
open Go.Conc (G)
/-- Elements of which memory is not asked. -/
def AnyK {α : Type} (R : Rel α) : Prop := ∀ {B B' : Kn} {row : List Value} {x : α}, R B row x → R B' row x
theorem StrR.any : AnyK StrR := fun h => h
theorem IntR.any : AnyK IntR := fun h => h
theorem UserR.any : AnyK UserR := fun h => h
theorem GrantR.any : AnyK GrantR := fun h => h
theorem MailR.any : AnyK MailR := fun h => h
theorem SpanR.any : AnyK SpanR := fun h => h
theorem VecR.rowsF {α : Type} {B B' : Kn} {l : Cells} {p : Option Addr} {c : Nat} {T : TypeId} {w : Nat} {R : Rel α} {xs : List α} (h : VecR B l p c T w R xs) (hR : AnyK R) (hm : ∀ q, q ∈ l → B'.mem q.1 = some q.2) : RowsR B' p w R xs := by
  obtain ⟨rows, h1, h2, h3⟩ := h
  have h' : VecR B' l p c T w R xs := ⟨rows, h1.mono fun _ _ => hR, h2, h3⟩
  have := h'.rows (fun _ _ _ h => hR h) (Kn.le.refl B') hm
  exact this
theorem VecR.anyK {α : Type} {B B' : Kn} {l : Cells} {p : Option Addr} {c : Nat} {T : TypeId} {w : Nat} {R : Rel α} {xs : List α} (h : VecR B l p c T w R xs) (hR : AnyK R) : VecR B' l p c T w R xs := by
  obtain ⟨rows, h1, h2, h3⟩ := h
  exact ⟨rows, h1.mono fun _ _ => hR, h2, h3⟩
section
variable {P : Program} {n : Nat} {ops : Array Oper} {i : Nat} {S : Env} {D : List Deferred} {B BV B0 : Kn} {L : List Cells} {Q : Exit → Post4}
variable {α : Type} {R : Rel α} {xs : List α} {l : Cells} {p : Option Addr} {cp : Nat} {T : TypeId} {w : Nat}
theorem less_new {B' : Kn} (h0 : B0.le B) (hm : ∀ p, p ∈ l → B'.mem p.1 = some p.2) (ha : ∀ p, p ∈ l → B.mem p.1 = none) : ∀ p, p ∈ l → (B'.less B0).mem p.1 = some p.2 := fun p hp => by
  have : B0.mem p.1 = none := by
    cases h : B0.mem p.1 with
    | none => rfl
    | some o => have := h0 _ _ h; rw [ha p hp] at this; cases this
  simp [Kn.less, this, hm p hp]
/-- A segment is published: what it holds is new. -/
theorem w_pubF {c : Code} (j : Nat) (hj : L[j]? = some l) (hv : VecR BV l p cp T w R xs) (hR : AnyK R) (hl : xs.length ≤ 2000000) (h0 : B0.le B)
    (h : ∀ B', B.le B' → SlK (B'.less B0) p cp w R xs → wpS P n c Q S D B' (L.set j [])) : wpS P n c Q S D B L :=
  w_assume fun ha _ => w_pub j hj fun B' hle hm => h B' hle ⟨hv.rowsF hR (less_new h0 hm fun q hq => ha q (List.mem_flatten.2 ⟨l, List.mem_of_getElem? hj, hq⟩)), hv.cap, hl⟩
theorem r_pubF {o : Oper} {K : Post4} (j : Nat) (hj : L[j]? = some l) (hv : VecR BV l p cp T w R xs) (hR : AnyK R) (hl : xs.length ≤ 2000000) (h0 : B0.le B)
    (h : ∀ B', B.le B' → SlK (B'.less B0) p cp w R xs → opW P n ops i o K S D B' (L.set j [])) : opW P n ops i o K S D B L := fun C todo k T ho hn hT hA => by
  obtain ⟨r, h1, h2⟩ := set_perm C.F [] hj
  refine C.X.assume rfl fun ha _ => C.X.publish rfl h1 fun B' hle hm => C.X.perm (by simpa using h2.symm) (h B' hle ⟨hv.rowsF hR (less_new h0 hm fun q hq => ha q (List.mem_append.2 (.inl (List.mem_flatten.2 ⟨l, List.mem_of_getElem? hj, hq⟩)))), hv.cap, hl⟩ C todo k T ho hn hT fun S' D' B'' L' T' hle' hq => hA S' D' B'' L' T' (hle.trans hle') hq)
theorem a_pubF {I : Kn → List Cells → Prop} {ℓ : List Nat} {K : Post4} (j : Nat) (hj : L[j]? = some l) (hv : VecR BV l p cp T w R xs) (hR : AnyK R) (hl : xs.length ≤ 2000000) (h0 : B0.le B) (hI' : ∀ B', B.le B' → I B' (L.set j []))
    (h : ∀ B', B.le B' → SlK (B'.less B0) p cp w R xs → AnyW P n ops I ℓ K S D B' (L.set j [])) : AnyW P n ops I ℓ K S D B L := fun C k T ex pend π a1 a2 a3 a4 a5 a6 a7 a8 a9 hI hA => by
  obtain ⟨r, h1, h2⟩ := set_perm C.F [] hj
  refine C.X.assume rfl fun ha _ => C.X.publish rfl h1 fun B' hle hm => C.X.perm (by simpa using h2.symm) (h B' hle ⟨hv.rowsF hR (less_new h0 hm fun q hq => ha q (List.mem_append.2 (.inl (List.mem_flatten.2 ⟨l, List.mem_of_getElem? hj, hq⟩)))), hv.cap, hl⟩ C k T ex pend π a1 a2 a3 a4 a5 a6 a7 a8 a9 (hI' B' hle) fun S' D' B'' L' T' hle' hq => hA S' D' B'' L' T' (hle.trans hle') hq)
/-- What two stretches of code have in common at their meeting: only what changes is said. -/
def midP (E : α → Env) (Sg : α → List Cells) (F : α → Kn → Prop) (D : List Deferred) : Post4 := fun S' D' B' L' => D' = D ∧ ∃ x, F x B' ∧ Sub (E x) S' ∧ ∃ js r, pickAll L' js = some (Sg x, r)
theorem w_midE {x y : Code} (ks : List Nat) (V : α → Env) (js : List Nat) (M N : α → List Cells) (F : α → Kn → Prop)
    (h : wpS P n x (thn (midP (fun g => V g ++ sel ks S) (fun g => setAll L js (M g) ++ N g) F D) Q) S D B L)
    (h' : ∀ g B', B.le B' → F g B' → wpS P n y Q (V g ++ sel ks S) D B' (setAll L js (M g) ++ N g)) : wpS P n (.seq x y) Q S D B L :=
  w_cut _ h fun S' D' B' L' hle ⟨hD, g, hF, hs, jj, r, hp⟩ => by
    subst hD
    exact w_keep _ hs (w_sel jj hp (h' g B' hle hF))
theorem mid_leaf {E : α → Env} {Sg : α → List Cells} {F : α → Kn → Prop} (g : α) (js : List Nat) {r : List Cells} (hF : F g B) (hs : Sub (E g) S) (hp : pickAll L js = some (Sg g, r)) : thn (midP E Sg F D) Q .normal S D B L := ⟨rfl, g, hF, hs, js, r, hp⟩
end
end Go.BL

namespace Go.BL
open Go.Conc (G)
theorem RetB.borrow {P : Program} {f : FuncId} {args : List Value} {B : Kn} {l : Cells} {v : Value} (h : (∀ p, p ∈ l → (B.add l).mem p.1 = some p.2) → RetB P f args (B.add l) v) : Upd1 P f args B l v l :=
  (CallsB.borrow h).mono fun v' B' Ls' _ ⟨B₂, Ls₂, h1, h2, _, _, h3, h4, h5, h6⟩ => by subst h5; subst h6; exact ⟨h4, h2.trans h3, h1⟩
theorem Kn.less_minus' {B B₂ B' : Kn} {l : Cells} (h : ∀ p, p ∈ l → (B.add l).mem p.1 = some p.2) (e : B' = B₂.minus l) : (B₂.less (B.add l)).le B' := e ▸ Kn.less_minus h
/-- What is lent reads as known. -/
theorem VecR.lend {α : Type} {B : Kn} {l : Cells} {p : Option Addr} {c : Nat} {T : TypeId} {w : Nat} {R : Rel α} {xs : List α} (h : VecR B l p c T w R xs) (hR : Mono R) (hm : ∀ q, q ∈ l → (B.add l).mem q.1 = some q.2) (hl : xs.length ≤ 2000000) : SlK (B.add l) p c w R xs := ⟨h.rows hR (Kn.le_add B l) hm, h.cap, hl⟩
end Go.BL
namespace Go.BL
open Go.Conc (G)
section
variable {P : Program} {n : Nat} {ops : Array Oper} {i : Nat} {K : PostV} {S : Env} {D : List Deferred} {B : Kn} {L : List Cells} {Q : Exit → Post4}
variable {dst : Option Tmp} {ty : TypeId} {pos : String} {after : Array Edge} {g : Option (Nat × Bool)}
theorem w_ixP {t e : TypeId} {x y : Operand} {k : IntKind} {p : Option Addr} {b len cap sz : Nat} {ix : Int} (hp : p = some ⟨b, 0, none⟩) (hg : guardOk ops S g = some true) (hd : dstOk n dst = true) (hu : P.underlying t = some (.slice e)) (hsz : sizeIs P e = some sz)
    (hx : ev S x = some (.slice p len cap)) (hy : ev S y = some (.int k ix)) (h0 : 0 ≤ ix) (h1 : ix < len) (h : K (ptr ⟨b, ix.toNat * sz, none⟩) D B L) : opX P n ops i ⟨dst, .indexAddr t x y, ty, pos, after, g⟩ K S D B L := by
  subst hp
  exact w_indexAddr hg hd hu hsz hx hy h0 h1 (by rw [Addr.add_off _ _ rfl, Nat.zero_add]; exact h)
/-- A meeting of which all that is owned is said. -/
theorem w_midF {α : Type} {x y : Code} (ks : List Nat) (V : α → Env) (N : α → List Cells) (F : α → Kn → Prop)
    (h : wpS P n x (thn (midP (fun g => V g ++ sel ks S) N F D) Q) S D B L)
    (h' : ∀ g B', B.le B' → F g B' → wpS P n y Q (V g ++ sel ks S) D B' (N g)) : wpS P n (.seq x y) Q S D B L :=
  w_cut _ h fun S' D' B' L' hle ⟨hD, g, hF, hs, jj, r, hp⟩ => by
    subst hD
    exact w_keep _ hs (w_sel jj hp (h' g B' hle hF))
end
end Go.BL
namespace Go.BL
open Go.Conc (G)
theorem VecR.ints {B : Kn} {b : Nat} {T : TypeId} {ls : List Int} : VecR B (box1 b (ls.map int) T) (some ⟨b, 0, none⟩) ls.length T 1 IntR ls := by
  have e : ls.map int = (ls.map fun x => [int x]).flatten := by induction ls with
    | nil => rfl
    | cons x r ih => simp [ih]
  rw [e]
  refine VecR.lit ?_ (fun row hr => by obtain ⟨x, _, rfl⟩ := List.mem_map.1 hr; rfl)
  clear e
  induction ls with
  | nil => exact .nil
  | cons x r ih => exact .cons rfl ih
theorem setAt_right : ∀ (a b : List Value) (k : Nat) (us : List Value), setAt (a ++ b) (a.length + k) us = a ++ setAt b k us
  | [], b, k, us => by simp
  | x :: a, b, k, us => by
    cases us with
    | nil => simp [setAt_nil]
    | cons u us =>
      have := setAt_right a b k (u :: us)
      rw [List.length_cons, show a.length + 1 + k = (a.length + k) + 1 from by omega]
      simp only [List.cons_append, setAt]
      rw [this]
theorem setAt_left : ∀ (a b : List Value) (k : Nat) (us : List Value), k + us.length ≤ a.length → setAt (a ++ b) k us = setAt a k us ++ b
  | a, b, k, [], _ => by simp [setAt_nil]
  | [], b, k, u :: us, h => by simp at h
  | x :: a, b, 0, u :: us, h => by
    have := setAt_left a b 0 us (by simpa using h)
    simp [setAt, this]
  | x :: a, b, k + 1, u :: us, h => by
    have := setAt_left a b k (u :: us) (by simp only [List.length_cons] at h ⊢; omega)
    simp only [setAt, List.cons_append, this]
theorem setAt_take2 (l : List Value) (i k : Nat) (us : List Value) (h : i + us.length ≤ k) (hk : k ≤ l.length) : (setAt l i us).take k = setAt (l.take k) i us := by
  have e : l = l.take k ++ l.drop k := (List.take_append_drop k l).symm
  have hl : (l.take k).length = k := by rw [List.length_take]; omega
  conv => lhs; rw [e, setAt_left _ _ _ _ (by rw [hl]; exact h)]
  rw [List.take_append_of_le_length (by rw [setAt_length, hl]; exact Nat.le_refl _), List.take_of_length_le (by rw [setAt_length, hl]; exact Nat.le_refl _)]
theorem setAt_flat {w : Nat} {us : List Value} : ∀ {rows : List (List Value)} {i off : Nat} {row : List Value}, wide w rows → rows[i]? = some row → off + us.length ≤ w → setAt rows.flatten (i * w + off) us = (rows.set i (setAt row off us)).flatten
  | [], i, off, row, _, h, _ => by simp at h
  | r :: rows, 0, off, row, hw, h, ho => by
    simp only [List.getElem?_cons_zero, Option.some.injEq] at h
    subst h
    have e := hw r (List.mem_cons_self ..)
    rw [Nat.zero_mul, Nat.zero_add, List.flatten_cons, setAt_left _ _ _ _ (by rw [e]; exact ho), List.set_cons_zero, List.flatten_cons]
  | r :: rows, i + 1, off, row, hw, h, ho => by
    have e := hw r (List.mem_cons_self ..)
    have := setAt_flat (rows := rows) (i := i) (off := off) (fun r hr => hw r (List.mem_cons_of_mem _ hr)) (by simpa using h) ho
    rw [show (i + 1) * w + off = r.length + (i * w + off) from by rw [e, Nat.succ_mul]; omega, List.flatten_cons, setAt_right, this, List.set_cons_succ, List.flatten_cons]
section
variable {P : Program} {n : Nat} {ops : Array Oper} {i : Nat} {K : PostV} {S : Env} {D : List Deferred} {B BV : Kn} {L : List Cells} {Q : Exit → Post4}
variable {dst : Option Tmp} {ty : TypeId} {pos : String} {after : Array Edge} {g : Option (Nat × Bool)}
/-- A store into an element of an owned slice. -/
theorem w_stO {t T : TypeId} {x y : Operand} {v : Value} {α : Type} {R : Rel α} {xs : List α} {z : α} (z' : α) (us : List Value) {l : Cells} {p : Option Addr} {cp sz k off b : Nat} (j : Nat) (hv : VecR BV l p cp T sz R xs) (hp : p = some ⟨b, 0, none⟩) (hz : xs[k]? = some z) (hg : guardOk ops S g = some true) (hd : dstOk n dst = true) (hsz : sizeIs P t = some us.length)
    (hx : ev S x = some (ptr ⟨b, k * sz + off, none⟩)) (hy : ev S y = some v) (hvc : v.cells = us.toArray) (ho : us.all oneC = true) (hj : L[j]? = some l) (hoff : Nat.ble (off + us.length) sz = true) (hrow : ∀ row, R BV row z → R BV (setAt row off us) z')
    (h : ∀ l', VecR BV l' p cp T sz R (xs.set k z') → K undef D B (L.set j l')) : opX P n ops i ⟨dst, .store t x y, ty, pos, after, g⟩ K S D B L := by
  obtain ⟨rows, h1, h2, h3, ⟨rfl, _, _, _⟩ | ⟨b', arr, rfl, ha, ht, rfl, hmc⟩⟩ := hv
  · cases hp
  · cases hp
    obtain ⟨row, hr1, hr2⟩ := h1.get hz
    have hoff' := Nat.le_of_ble_eq_true hoff
    have hk : k < xs.length := (List.getElem?_eq_some_iff.1 hz).1
    have hb1 : k * sz + off + us.length ≤ xs.length * sz := by
      have : (k + 1) * sz ≤ xs.length * sz := Nat.mul_le_mul_right sz hk
      rw [Nat.succ_mul] at this; omega
    have hb2 : xs.length * sz ≤ arr.length := by rw [ha]; exact Nat.mul_le_mul_right sz hmc
    refine w_store us j (setAt arr (k * sz + off) us) hg hd hsz hx hy hvc ho (r := []) hj rfl (Nat.ble_eq_true_of_le (by simpa using (by omega : k * sz + off + us.length ≤ arr.length))) rfl (h _ ?_)
    refine ⟨rows.set k (setAt row off us), h1.set (hrow row hr2) k, fun r hr => ?_, ?_⟩
    · rcases List.mem_or_eq_of_mem_set hr with hr | rfl
      · exact h2 r hr
      · rw [setAt_length]; exact h2 row (List.mem_of_getElem? hr1)
    · have e := setAt_flat (us := us) h2 hr1 hoff'
      refine ⟨?_, .inr ⟨b, _, rfl, by rw [setAt_length]; exact ha, ?_, rfl, by rw [List.length_set]; exact hmc⟩⟩
      · rw [← e, setAt_length, List.length_set]; exact h3
      · rw [List.length_set, setAt_take2 _ _ _ _ hb1 hb2, ht, e]
end
end Go.BL
