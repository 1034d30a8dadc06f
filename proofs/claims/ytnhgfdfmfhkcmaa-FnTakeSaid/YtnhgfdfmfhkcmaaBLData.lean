/-
  BL: the data of a mail host, and how they lie in memory.
-/
import Derived.Test.YtnhgfdfmfhkcmaaBLRep
namespace Go.BL
set_option linter.unusedVariables false
abbrev Str := List UInt8
def StrR : Rel Str := fun _ row x => row = [str x] ∧ x.length ≤ 2000000
theorem StrR.mono : Mono StrR := fun _ _ _ h => h
theorem StrR.one {B : Kn} : ∀ row y, StrR B row y → row.all oneC = true ∧ row.length = 1 := by rintro _ y ⟨rfl, _⟩; exact ⟨rfl, rfl⟩
def IntR : Rel Int := fun _ row x => row = [.int .i64 x]
theorem IntR.mono : Mono IntR := fun _ _ _ h => h
theorem IntR.one {B : Kn} : ∀ row y, IntR B row y → row.all oneC = true ∧ row.length = 1 := by rintro _ y rfl; exact ⟨rfl, rfl⟩
structure DUser where
  name : Str
  pass : Str
  quota : Int
deriving DecidableEq
def UserR : Rel DUser := fun _ row x => row = [str x.name, str x.pass, .int .i64 x.quota] ∧ x.name.length ≤ 2000000 ∧ x.pass.length ≤ 2000000
theorem UserR.mono : Mono UserR := fun _ _ _ h => h
theorem UserR.one {B : Kn} : ∀ row y, UserR B row y → row.all oneC = true ∧ row.length = 3 := by rintro _ y ⟨rfl, _⟩; exact ⟨rfl, rfl⟩
structure DGrant where
  user : Str
  rights : Int
deriving DecidableEq
def GrantR : Rel DGrant := fun _ row x => row = [str x.user, .int .i64 x.rights] ∧ x.user.length ≤ 2000000
theorem GrantR.mono : Mono GrantR := fun _ _ _ h => h
theorem GrantR.one {B : Kn} : ∀ row y, GrantR B row y → row.all oneC = true ∧ row.length = 2 := by rintro _ y ⟨rfl, _⟩; exact ⟨rfl, rfl⟩
structure DMail where
  uid : Int
  flags : Int
  text : Str
deriving DecidableEq
def MailR : Rel DMail := fun _ row x => row = [.int .i64 x.uid, .int .i64 x.flags, str x.text] ∧ x.text.length ≤ 2000000
theorem MailR.mono : Mono MailR := fun _ _ _ h => h
theorem MailR.one {B : Kn} : ∀ row y, MailR B row y → row.all oneC = true ∧ row.length = 3 := by rintro _ y ⟨rfl, _⟩; exact ⟨rfl, rfl⟩
structure DSpan where
  low : Int
  high : Int
deriving DecidableEq
def SpanR : Rel DSpan := fun _ row x => row = [.int .i64 x.low, .int .i64 x.high]
theorem SpanR.mono : Mono SpanR := fun _ _ _ h => h
theorem SpanR.one {B : Kn} : ∀ row y, SpanR B row y → row.all oneC = true ∧ row.length = 2 := by rintro _ y rfl; exact ⟨rfl, rfl⟩
structure DItem where
  id : Int
  fr : Str
  text : Str
  left : List Str
deriving DecidableEq
def ItemR : Rel DItem := fun B row x => ∃ q cp, row = [.int .i64 x.id, str x.fr, str x.text, .slice q x.left.length cp] ∧ SlK B q cp 1 StrR x.left ∧ x.fr.length ≤ 2000000 ∧ x.text.length ≤ 2000000
theorem ItemR.mono : Mono ItemR := by rintro B B' hle row x ⟨q, cp, h1, h2, h3, h4⟩; exact ⟨q, cp, h1, h2.mono StrR.mono hle, h3, h4⟩
theorem ItemR.one {B : Kn} : ∀ row y, ItemR B row y → row.all oneC = true ∧ row.length = 4 := by rintro _ y ⟨_, _, rfl, _⟩; exact ⟨rfl, rfl⟩
structure DQueue where
  next : Int
  items : List DItem
deriving DecidableEq
structure DLetter where
  fr : Str
  to_ : List Str
  text : Str
deriving DecidableEq
structure DBox where
  next : Int
  mail : List DMail
deriving DecidableEq
structure DFolder where
  owner : Str
  name : Str
  grants : List DGrant
  next : Int
  mail : List DMail
deriving DecidableEq
def FolderR : Rel DFolder := fun B row x => ∃ q cp q' cp', row = [str x.owner, str x.name, .slice q x.grants.length cp, .int .i64 x.next, .slice q' x.mail.length cp'] ∧ SlK B q cp 2 GrantR x.grants ∧ SlK B q' cp' 3 MailR x.mail ∧ x.owner.length ≤ 2000000 ∧ x.name.length ≤ 2000000
theorem FolderR.mono : Mono FolderR := by rintro B B' hle row x ⟨q, cp, q', cp', h1, h2, h3, h4⟩; exact ⟨q, cp, q', cp', h1, h2.mono GrantR.mono hle, h3.mono MailR.mono hle, h4⟩
theorem FolderR.one {B : Kn} : ∀ row y, FolderR B row y → row.all oneC = true ∧ row.length = 5 := by rintro _ y ⟨_, _, _, _, rfl, _⟩; exact ⟨rfl, rfl⟩
structure DHost where
  domain : Str
  users : List DUser
  folders : List DFolder
  queue : DQueue
deriving DecidableEq
end Go.BL
namespace Go.BL
theorem VecR.strs {B : Kn} {b : Nat} {T : TypeId} {ls : List Str} (h : ∀ x, x ∈ ls → x.length ≤ 2000000) : VecR B (box1 b (ls.map str) T) (some ⟨b, 0, none⟩) ls.length T 1 StrR ls := by
  have e : ls.map str = (ls.map fun x => [str x]).flatten := by induction ls with
    | nil => rfl
    | cons x r ih => simp [ih (fun y hy => h y (List.mem_cons_of_mem _ hy))]
  rw [e]
  refine VecR.lit ?_ (fun row hr => by obtain ⟨x, _, rfl⟩ := List.mem_map.1 hr; rfl)
  clear e
  induction ls with
  | nil => exact .nil
  | cons x r ih => exact .cons ⟨rfl, h x (List.mem_cons_self ..)⟩ (ih (fun y hy => h y (List.mem_cons_of_mem _ hy)))
theorem all2S : ∀ {B : Kn} {ls : List Str}, (∀ x, x ∈ ls → x.length ≤ 2000000) → All2 (StrR B) (ls.map fun x => [str x]) ls
  | _, [], _ => .nil
  | _, x :: r, h => .cons ⟨rfl, h x (List.mem_cons_self ..)⟩ (all2S (fun y hy => h y (List.mem_cons_of_mem _ hy)))
end Go.BL
namespace Go.BL
theorem wideS {ls : List Str} : wide 1 (ls.map fun x => [str x]) := fun row hr => by obtain ⟨x, _, rfl⟩ := List.mem_map.1 hr; rfl
end Go.BL
