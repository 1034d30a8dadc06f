/-
  THE WALK'S LOGIC: owned cells and known cells, goroutines started and awaited, calls, loops, data, and plain laws on lists: no program in sight.
-/
import Derived.Test.YtjechkhbcnpmfaaB0
namespace Go.BL
set_option linter.unusedVariables false
set_option linter.unusedSimpArgs false
set_option linter.unusedSectionVars false
open Go
set_option linter.unusedVariables false
set_option linter.unusedSimpArgs false
inductive Prev {α β : Type} (f : α → β) (z : β) (xs : List α) : Nat → β → Prop
  | zero : Prev f z xs 0 z
  | succ {k : Nat} {x : α} : xs[k]? = some x → Prev f z xs (k + 1) (f x)
theorem Prev.at {α β : Type} {f : α → β} {z : β} {xs : List α} {k : Nat} {b : β} {y : α} (h : Prev f z xs k b) (hy : xs[((k : Int) - 1).toNat]? = some y) (hk : 0 < (k : Int)) : b = f y := by
  cases h with
  | zero => omega
  | succ hx =>
    rename_i k x
    rw [show (((k + 1 : Nat) : Int) - 1).toNat = k from by omega, hx] at hy
    cases hy; rfl
theorem Prev.at0 {α β : Type} {f : α → β} {z : β} {xs : List α} {k : Nat} {b : β} (h : Prev f z xs k b) (hk : (k : Int) ≤ 0) : b = z := by
  cases h with
  | zero => rfl
  | succ hx => omega
theorem scn_hit' {α β : Type} {p : β → α → Bool} {nx : β → α → β} {b0 b : β} {xs : List α} {k : Nat} {x : α} (hx : xs[k]? = some x) (hs : scn p nx b0 (xs.take k) = (true, b)) (h : p b x = false) : (scn p nx b0 xs).1 = false :=
  scn_hit hx (by rw [congrArg Prod.snd hs]; exact h)
theorem usersOk_hit {us : List DUser} {k : Nat} {x : DUser} {nm : Str} (hx : us[k]? = some x) (hs : userScan (us.take k) = (true, nm)) (h : userP nm x = false) : usersOk us = false :=
  usersOk_bad (scn_hit' hx hs h)
theorem nil_less {s : Str} (h : 0 < s.length) : Op.bytesLess [] s = true := by
  cases s with
  | nil => cases h
  | cons a s => rfl
theorem nameOk_pos {s : Str} (h : nameOk s = true) : 0 < s.length := by
  cases s with
  | nil => simp [nameOk] at h
  | cons a s => simp
def grantP (b : Str) (g : DGrant) : Bool := nameOk g.user && (decide (1 ≤ g.rights) && decide (g.rights ≤ 63)) && Op.bytesLess b g.user
def grantScan (gs : List DGrant) : Bool × Str := scn grantP (fun _ g => g.user) [] gs
def aclOk (gs : List DGrant) : Bool := (grantScan gs).1 && decide (gs.length ≤ 4)
theorem aclOk_hit {gs : List DGrant} {k : Nat} {x : DGrant} {nm : Str} (hx : gs[k]? = some x) (hs : grantScan (gs.take k) = (true, nm)) (h : grantP nm x = false) : aclOk gs = false := by
  rw [aclOk, show (grantScan gs).1 = false from scn_hit' hx hs h, Bool.false_and]
theorem aclOk_end {gs : List DGrant} {b : Str} (h : grantScan gs = (true, b)) : aclOk gs = decide (gs.length ≤ 4) := by rw [aclOk, h, Bool.true_and]
def DFolder.box (f : DFolder) : DBox := ⟨f.next, f.mail⟩
def inbox : Str := [105, 110, 98, 111, 120]
def folderIn (us : List DUser) (f : DFolder) : Bool := decide (0 ≤ idxU us f.owner) && nameOk f.name && aclOk f.grants && boxOk f.box
def folderP (us : List DUser) (b : Option DFolder) (f : DFolder) : Bool := folderIn us f && (match b with | none => true | some y => lessF y f)
def folderScan (us : List DUser) (fs : List DFolder) : Bool × Option DFolder := scn (folderP us) (fun _ f => some f) none fs
def foldersOk (us : List DUser) (fs : List DFolder) : Bool := (folderScan us fs).1 && decide (fs.length ≤ 8)
theorem foldersOk_hit {us : List DUser} {fs : List DFolder} {k : Nat} {x : DFolder} {b : Option DFolder} (hx : fs[k]? = some x) (hs : folderScan us (fs.take k) = (true, b)) (h : folderP us b x = false) : foldersOk us fs = false := by
  rw [foldersOk, show (folderScan us fs).1 = false from scn_hit' hx hs h, Bool.false_and]
theorem foldersOk_end {us : List DUser} {fs : List DFolder} {b : Option DFolder} (h : folderScan us fs = (true, b)) : foldersOk us fs = decide (fs.length ≤ 8) := by rw [foldersOk, h, Bool.true_and]
def usedF (fs : List DFolder) (u : Str) : Nat := (fs.map fun f => if f.owner = u then sizeMs f.mail else 0).sum
theorem usedF_next {fs : List DFolder} {u : Str} {k : Nat} {x : DFolder} (hx : fs[k]? = some x) : usedF (fs.take (k + 1)) u = usedF (fs.take k) u + if x.owner = u then sizeMs x.mail else 0 := by
  have : fs.take (k + 1) = fs.take k ++ [x] := by rw [List.take_add_one, hx]; rfl
  simp [usedF, this]
theorem usedF_end {fs : List DFolder} {u : Str} {k n : Nat} (h : n = usedF (fs.take k) u) (hk : fs.length ≤ k) : n = usedF fs u := by rwa [List.take_of_length_le hk] at h
def knownU (us : List DUser) (ns : List Str) : Bool := ns.all fun n => decide (0 ≤ idxU us n)
def userFits (fs : List DFolder) (u : DUser) : Bool := decide (0 ≤ idxP (inF u.name inbox) fs) && decide ((usedF fs u.name : Int) ≤ u.quota)
def itemKnown (us : List DUser) (x : DItem) : Bool := decide (0 ≤ idxU us x.fr) && knownU us x.left
def hostOk (h : DHost) : Bool := specDom h.domain && usersOk h.users && queueOk h.queue && foldersOk h.users h.folders && h.users.all (userFits h.folders) && h.queue.items.all (itemKnown h.users)
theorem sizeMs_le {B : Kn} {q : Option Addr} {cp : Nat} {ms : List DMail} (h : SlK B q cp 3 MailR ms) : sizeMs ms ≤ 4000000000000 := by
  have h1 : ∀ m, m ∈ ms → m.text.length ≤ 2000000 := fun m hm => by
    obtain ⟨i, hi⟩ := List.mem_iff_getElem?.1 hm
    obtain ⟨b, o, row, _, h2, _⟩ := h.rows i m hi
    exact h2.2
  have h2 : ∀ l : List DMail, (∀ m, m ∈ l → m.text.length ≤ 2000000) → sizeMs l ≤ l.length * 2000000 := by
    intro l
    induction l with
    | nil => intro _; simp [sizeMs]
    | cons m l ih =>
      intro hl
      have := ih fun y hy => hl y (List.mem_cons_of_mem _ hy)
      have := hl m (List.mem_cons_self ..)
      simp only [sizeMs, List.map_cons, List.sum_cons, List.length_cons] at *
      omega
  have := h2 ms h1
  have := h.len
  omega
theorem hostOk_user {h : DHost} {k : Nat} {u : DUser} (hu : h.users[k]? = some u) (hf : userFits h.folders u = false) : hostOk h = false := by
  rw [hostOk, allB_bad hu hf, Bool.and_false, Bool.false_and]
theorem hostOk_item {h : DHost} {k : Nat} {y : DItem} (hy : h.queue.items[k]? = some y) (hf : itemKnown h.users y = false) : hostOk h = false := by
  rw [hostOk, allB_bad hy hf, Bool.and_false]
theorem hostOk_end {h : DHost} (h1 : specDom h.domain = true) (h2 : usersOk h.users = true) (h3 : queueOk h.queue = true) (h4 : foldersOk h.users h.folders = true) (h5 : h.users.all (userFits h.folders) = true) (h6 : h.queue.items.all (itemKnown h.users) = true) : hostOk h = true := by
  rw [hostOk, h1, h2, h3, h4, h5, h6]; rfl
theorem userFits_no1 {fs : List DFolder} {u : DUser} (h : idxP (inF u.name inbox) fs < 0) : userFits fs u = false := by
  rw [userFits, decide_eq_false (by omega), Bool.false_and]
theorem userFits_no2 {fs : List DFolder} {u : DUser} (h : u.quota < usedF fs u.name) : userFits fs u = false := by
  rw [userFits, decide_eq_false (p := (usedF fs u.name : Int) ≤ u.quota) (by omega), Bool.and_false]
theorem userFits_yes {fs : List DFolder} {u : DUser} (h : 0 ≤ idxP (inF u.name inbox) fs) (h' : (usedF fs u.name : Int) ≤ u.quota) : userFits fs u = true := by
  rw [userFits, decide_eq_true h, decide_eq_true h']; rfl
theorem itemKnown_no1 {us : List DUser} {x : DItem} (h : idxU us x.fr < 0) : itemKnown us x = false := by rw [itemKnown, decide_eq_false (by omega), Bool.false_and]
theorem itemKnown_no2 {us : List DUser} {x : DItem} (h : knownU us x.left = false) : itemKnown us x = false := by rw [itemKnown, h, Bool.and_false]
theorem itemKnown_yes {us : List DUser} {x : DItem} (h : 0 ≤ idxU us x.fr) (h' : knownU us x.left = true) : itemKnown us x = true := by rw [itemKnown, decide_eq_true h, h']; rfl
theorem less_trans : ∀ {a b c : Str}, Op.bytesLess a b = true → Op.bytesLess b c = true → Op.bytesLess a c = true
  | [], [], _, h, _ => by simp [Op.bytesLess] at h
  | _ :: _, [], _, h, _ => by simp [Op.bytesLess] at h
  | _, _ :: _, [], _, h => by simp [Op.bytesLess] at h
  | [], _ :: _, _ :: _, _, _ => by simp [Op.bytesLess]
  | a :: x, b :: y, c :: z, h, h' => by
    simp only [Op.bytesLess, Bool.or_eq_true, decide_eq_true_eq, Bool.and_eq_true, beq_iff_eq] at h h' ⊢
    rcases h with h | ⟨rfl, h⟩
    · rcases h' with h' | ⟨rfl, h'⟩
      · exact .inl (UInt8.lt_trans h h')
      · exact .inl h
    · rcases h' with h' | ⟨rfl, h'⟩
      · exact .inl h'
      · exact .inr ⟨rfl, less_trans h h'⟩
def BoolR : Rel Bool := fun _ row x => row = [.bool x]
theorem BoolR.mono : Mono BoolR := fun _ _ _ h => h
theorem BoolR.one {B : Kn} : ∀ row y, BoolR B row y → row.all oneC = true ∧ row.length = 1 := by rintro _ y rfl; exact ⟨rfl, rfl⟩
def ordF : List DFolder → Bool
  | [] => true
  | [_] => true
  | a :: b :: r => lessF a b && ordF (b :: r)
theorem scan_sorted {α : Type} {p : Str → α → Bool} {f : α → Str} (hp : ∀ b x, p b x = true → Op.bytesLess b (f x) = true) : ∀ (xs : List α) (b0 b : Str), xs.foldl (fun s x => (s.1 && p s.2 x, f x)) (true, b0) = (true, b) → (∀ y, y ∈ xs → Op.bytesLess b0 (f y) = true) ∧ xs.Pairwise (fun x y => Op.bytesLess (f x) (f y) = true)
  | [], _, _, _ => ⟨by simp, .nil⟩
  | x :: xs, b0, b, h => by
    simp only [List.foldl_cons, Bool.true_and] at h
    cases hq : p b0 x with
    | false =>
      rw [hq] at h
      have := scn_false (p := p) (nx := fun _ g => f g) xs (f x)
      rw [h] at this; cases this
    | true =>
      rw [hq] at h
      obtain ⟨h1, h2⟩ := scan_sorted hp xs (f x) b h
      refine ⟨fun y hy => ?_, .cons h1 h2⟩
      rcases List.mem_cons.1 hy with rfl | hy
      · exact hp _ _ hq
      · exact less_trans (hp _ _ hq) (h1 y hy)
theorem usersOk_sorted {us : List DUser} (h : usersOk us = true) : us.Pairwise fun x y => Op.bytesLess x.name y.name = true := by
  simp only [usersOk, Bool.and_eq_true] at h
  exact (scan_sorted (p := userP) (f := fun u => u.name) (fun b x hq => by simp only [userP, Bool.and_eq_true] at hq; exact hq.2) us [] (userScan us).2 (Prod.ext h.1 rfl)).2
theorem idxU_nonneg {us : List DUser} {u : Str} : 0 ≤ idxU us u ↔ ∃ x, x ∈ us ∧ x.name = u := by
  unfold idxU
  cases h : us.findIdx? (fun x => decide (x.name = u)) with
  | none =>
    have := List.findIdx?_eq_none_iff.1 h
    simp only [decide_eq_false_iff_not] at this
    exact ⟨fun hc => absurd hc (by simp only []; omega), fun ⟨x, hx, e⟩ => absurd e (this x hx)⟩
  | some i =>
    rw [List.findIdx?_eq_some_iff_getElem] at h
    obtain ⟨hi, h1, _⟩ := h
    exact ⟨fun _ => ⟨us[i], List.getElem_mem hi, by simpa using h1⟩, fun _ => by simp only []; omega⟩
theorem folderScan_parts {us : List DUser} : ∀ (fs : List DFolder) (b0 : Option DFolder), (fs.foldl (fun s x => (s.1 && folderP us s.2 x, some x)) (true, b0)).1 = (fs.all (folderIn us) && ordF ((match b0 with | none => [] | some y => [y]) ++ fs))
  | [], none => rfl
  | [], some y => rfl
  | x :: fs, b0 => by
    simp only [List.foldl_cons, Bool.true_and]
    have hstep : (fs.foldl (fun (s : Bool × Option DFolder) x => (s.1 && folderP us s.2 x, some x)) (folderP us b0 x, some x)).1 = (folderP us b0 x && (fs.all (folderIn us) && ordF (x :: fs))) := by
      cases hq : folderP us b0 x with
      | false => rw [Bool.false_and]; exact scn_false (p := folderP us) (nx := fun _ f => some f) fs (some x)
      | true => rw [Bool.true_and]; exact folderScan_parts fs (some x)
    rw [hstep]
    cases b0 with
    | none =>
      simp only [folderP, Bool.and_true, List.all_cons, List.nil_append]
      cases folderIn us x <;> simp
    | some y =>
      simp only [folderP, List.all_cons, List.cons_append, List.nil_append, ordF]
      cases folderIn us x <;> cases lessF y x <;> simp
theorem foldersOk_parts {us : List DUser} {fs : List DFolder} : foldersOk us fs = (fs.all (folderIn us) && ordF fs && decide (fs.length ≤ 8)) := by
  rw [foldersOk, show (folderScan us fs).1 = _ from folderScan_parts fs none]; rfl
end Go.BL
namespace Go.BL
set_option linter.unusedVariables false
set_option linter.unusedSimpArgs false
set_option linter.unusedSectionVars false
open Go
set_option linter.unusedVariables false
set_option linter.unusedSimpArgs false
structure DSess where
  user : Str
  owner : Str
  name : Str
deriving DecidableEq
end Go.BL
namespace Go.BL
set_option linter.unusedVariables false
set_option linter.unusedSimpArgs false
set_option linter.unusedSectionVars false
open Go
set_option linter.unusedVariables false
set_option linter.unusedSimpArgs false
def newF (n : Str) : DFolder := ⟨n, inbox, [], 1, []⟩
def newH (d : Str) (us : List DUser) : DHost := ⟨d, us, us.map fun u => newF u.name, ⟨1, []⟩⟩
def noHost : DHost := ⟨[], [], [], ⟨0, []⟩⟩
def hostNew (d : Str) (us : List DUser) : DHost × Bool := if specDom d = true ∧ usersOk us = true then (newH d us, true) else (noHost, false)
theorem scn_all {α β : Type} {p : β → α → Bool} {nx : β → α → β} : ∀ (xs : List α) (b : β), (xs.foldl (fun (s : Bool × β) x => (s.1 && p s.2 x, nx s.2 x)) (true, b)).1 = true → ∀ x, x ∈ xs → ∃ b', p b' x = true
  | [], _, _, x, hx => by cases hx
  | x :: xs, b, h, y, hy => by
    simp only [List.foldl_cons, Bool.true_and] at h
    cases hq : p b x with
    | false =>
      rw [hq] at h
      have := scn_false (p := p) (nx := nx) xs (nx b x)
      rw [this] at h; cases h
    | true =>
      rw [hq] at h
      rcases List.mem_cons.1 hy with rfl | hy
      · exact ⟨b, hq⟩
      · exact scn_all xs _ h y hy
theorem usersOk_each {us : List DUser} (h : usersOk us = true) {u : DUser} (hu : u ∈ us) : userOk u = true := by
  simp only [usersOk, Bool.and_eq_true] at h
  obtain ⟨b, hb⟩ := scn_all (p := userP) (nx := fun _ u => u.name) us [] h.1 u hu
  simp only [userP, Bool.and_eq_true] at hb; exact hb.1
theorem ordF_new : ∀ {us : List DUser}, us.Pairwise (fun x y => Op.bytesLess x.name y.name = true) → ordF (us.map fun u => newF u.name) = true
  | [], _ => rfl
  | [_], _ => rfl
  | a :: b :: r, h => by
    cases h with
    | cons h1 h2 =>
      have h3 := h1 b (List.mem_cons_self ..)
      show (lessF (newF a.name) (newF b.name) && ordF ((b :: r).map fun u => newF u.name)) = true
      rw [ordF_new h2, Bool.and_true, lessF]
      simp only [newF, h3, Bool.true_or]
theorem usedF_new (us : List DUser) (n : Str) : usedF (us.map fun u => newF u.name) n = 0 := by
  induction us with
  | nil => rfl
  | cons u us ih =>
    simp only [usedF, List.map_cons, List.sum_cons] at ih ⊢
    rw [ih]
    simp [newF, sizeMs]
theorem newF_in {us : List DUser} {u : DUser} (h : u ∈ us) : 0 ≤ idxP (inF u.name inbox) (us.map fun u => newF u.name) :=
  idxP_mem.2 ⟨newF u.name, List.mem_map.2 ⟨u, h, rfl⟩, by simp [inF, newF]⟩
theorem newH_ok (d : Str) (us : List DUser) : hostOk (newH d us) = (specDom d && usersOk us) := by
  cases hu : usersOk us with
  | false => simp [hostOk, newH, hu]
  | true =>
    have h1 : foldersOk us (us.map fun u => newF u.name) = true := by
      rw [foldersOk_parts, ordF_new (usersOk_sorted hu)]
      have h2 : (us.map fun u => newF u.name).all (folderIn us) = true := by
        rw [List.all_eq_true]
        intro f hf
        obtain ⟨u, hm, rfl⟩ := List.mem_map.1 hf
        have e1 : nameOk inbox = true := by decide
        have e2 : aclOk [] = true := by decide
        have e3 : boxOk ⟨1, []⟩ = true := by decide
        simp only [folderIn, newF, DFolder.box, e1, e2, e3, Bool.and_true]
        exact decide_eq_true (idxU_nonneg.2 ⟨u, hm, rfl⟩)
      have h3 : us.length ≤ 4 := by simp only [usersOk, Bool.and_eq_true, decide_eq_true_eq] at hu; exact hu.2.2
      rw [h2]; simp; omega
    have h4 : us.all (userFits (us.map fun u => newF u.name)) = true := by
      rw [List.all_eq_true]
      intro u hm
      have := usersOk_each hu hm
      simp only [userOk, Bool.and_eq_true, decide_eq_true_eq] at this
      simp only [userFits, usedF_new, Bool.and_eq_true, decide_eq_true_eq]
      exact ⟨newF_in hm, by omega⟩
    have h5 : queueOk ⟨1, []⟩ = true := by decide
    simp only [hostOk, newH, hu, h1, h4, h5, List.all_nil, Bool.and_true]
theorem hostNew_yes {d : Str} {us : List DUser} (h : hostOk (newH d us) = true) : hostNew d us = (newH d us, true) := by
  rw [newH_ok, Bool.and_eq_true] at h; rw [hostNew, if_pos h]
theorem hostNew_no {d : Str} {us : List DUser} (h : hostOk (newH d us) = false) : hostNew d us = (noHost, false) := by
  rw [newH_ok] at h; rw [hostNew, if_neg (by rw [← Bool.and_eq_true, h]; exact Bool.false_ne_true)]
theorem hostNew_snd (d : Str) (us : List DUser) : (hostNew d us).2 = (specDom d && usersOk us) := by
  unfold hostNew
  split
  · rename_i h; rw [h.1, h.2]; rfl
  · rename_i h
    rw [← Bool.and_eq_true, Bool.not_eq_true] at h
    rw [h]
end Go.BL
namespace Go.BL
set_option linter.unusedVariables false
set_option linter.unusedSimpArgs false
set_option linter.unusedSectionVars false
open Go
set_option linter.unusedVariables false
set_option linter.unusedSimpArgs false
end Go.BL
namespace Go.BL
set_option linter.unusedVariables false
set_option linter.unusedSimpArgs false
set_option linter.unusedSectionVars false
theorem sQ1 {p : Prop} [Decidable p] : (decide p = true) = p := decide_eq_true_eq
theorem sQ2 {p : Prop} [Decidable p] : decide p = false ↔ ¬p := decide_eq_false_iff_not
theorem sQ3 {b : Bool} : ((!b) = true) = (b = false) := Bool.not_eq_true' b
theorem sQ4 {b : Bool} : ((!b) = false) = (b = true) := Bool.not_eq_false' b
theorem sQ5 {p : Prop} [g : Decidable p] [h : Decidable (¬p)] : decide (¬p) = !decide p := decide_not
theorem sQ6 {p : Prop} [Decidable p] : ¬¬p ↔ p := Decidable.not_not
theorem sQ7 {a b : Int} : ¬a < b ↔ b ≤ a := Int.not_lt
theorem sQ8 {a b : Int} : ¬a ≤ b ↔ b < a := Int.not_le
section
variable {P : PJ} {n : Nat} {ops : Array Oper} {i : Nat} {K : Post4} {S : Env} {D : List Deferred} {B : Kn} {L : List Cells}
variable {dst : Option Tmp} {ty : TypeId} {pos : String} {after : Array Edge} {g : Option (Nat × Bool)}
theorem xMv {x : Operand} {v : Value} (h : K (putS S dst v) D B L) (hg : guardOk ops S g = some true := by exact rfl) (hd : dstOk n dst = true := by exact rfl) (hx : ev S x = some v := by exact rfl) : opW P n ops i ⟨dst, .move x, ty, pos, after, g⟩ K S D B L := oX (w_move hg hd hx h)
theorem xAs {x : Operand} {v : Value} (h : K (putS S dst v) D B L) (hg : guardOk ops S g = some true := by exact rfl) (hd : dstOk n dst = true := by exact rfl) (hx : ev S x = some v := by exact rfl) : opW P n ops i ⟨dst, .assign x, ty, pos, after, g⟩ K S D B L := oX (w_assign hg hd hx h)
end
end Go.BL
