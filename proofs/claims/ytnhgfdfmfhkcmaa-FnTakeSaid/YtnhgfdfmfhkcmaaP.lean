/-
  PLAIN LAWS ON LISTS: no program in sight.
-/
import Derived.Test.YtnhgfdfmfhkcmaaBLLink
import Derived.Test.YtnhgfdfmfhkcmaaBLEq
namespace Go.BL
open Go
set_option linter.unusedVariables false
set_option linter.unusedSimpArgs false
def nameB (c : UInt8) : Bool := (decide (97 ≤ c.toNat) && decide (c.toNat ≤ 122)) || (decide (48 ≤ c.toNat) && decide (c.toNat ≤ 57))
def nameOk (l : List UInt8) : Bool := l.all nameB && decide (1 ≤ l.length) && decide (l.length ≤ 8)
theorem all_stop {l : List UInt8} {k : Nat} {c : UInt8} (hc : l[k]? = some c) (h : nameB c = false) : l.all nameB = false := by
  rw [Bool.eq_false_iff]; intro ha
  have := List.all_eq_true.1 ha c (List.mem_of_getElem? hc)
  rw [h] at this; cases this
theorem all_step {l : List UInt8} {k : Nat} {c : UInt8} (hc : l[k]? = some c) (h : nameB c = true) (ha : (l.take k).all nameB = true) : (l.take (k + 1)).all nameB = true := by
  rw [List.take_add_one, hc]; simp only [Option.toList_some, List.all_append, ha, List.all_cons, h, List.all_nil]; rfl
/-- The bytes of a name from a place on. -/
def word (l : List UInt8) (i : Nat) : List UInt8 := (l.drop i).takeWhile nameB
def wordOk (w : List UInt8) : Bool := decide (1 ≤ w.length) && decide (w.length ≤ 8)
theorem some_true {o : Option UInt8} {f : UInt8 → Bool} (h : (match o with | some c => f c | none => false) = true) : ∃ c, o = some c ∧ f c = true := by
  cases o with
  | none => cases h
  | some c => exact ⟨c, rfl, h⟩
theorem lt_of_get {α : Type} {l : List α} {k : Nat} {c : α} (h : l[k]? = some c) : k < l.length := (List.getElem?_eq_some_iff.1 h).1
theorem takeWhile_end {p : UInt8 → Bool} : ∀ {m : List UInt8} {k : Nat}, (m.take k).all p = true → (∀ c, m[k]? = some c → p c = false) → m.takeWhile p = m.take k
  | [], k, _, _ => by simp
  | c :: m, 0, _, h => by simp [List.takeWhile, h c rfl]
  | c :: m, k + 1, ha, h => by
    simp only [List.take_succ_cons, List.all_cons, Bool.and_eq_true] at ha
    simp only [List.takeWhile, ha.1, List.take_succ_cons]
    rw [takeWhile_end ha.2 (fun c hc => h c (by simpa using hc))]
theorem word_end {l : List UInt8} {i k : Nat} (ha : ((l.drop i).take k).all nameB = true) (h : ∀ c, l[i + k]? = some c → nameB c = false) : word l i = (l.drop i).take k :=
  takeWhile_end ha (fun c hc => h c (by simpa using hc))
theorem drop_take_word {l : List UInt8} {i k : Nat} : (l.take (i + k)).drop i = (l.drop i).take k := by
  rw [List.drop_take, Nat.add_sub_cancel_left]
theorem two_eq {a b c d : Value} (h : a = c) (h' : b = d) : Value.tuple #[a, b] = Value.tuple #[c, d] := by rw [h, h']
/-- The names that follow, each behind a dot: are they well, and where they end. -/
def more : Nat → List UInt8 → Nat → Bool × Nat
  | 0, _, i => (true, i)
  | n + 1, l, i => if l[i]? = some 46 then (if wordOk (word l (i + 1)) = true then more n l (i + 1 + (word l (i + 1)).length) else (false, i + 1 + (word l (i + 1)).length)) else (true, i)
def dom (l : List UInt8) (i : Nat) : Bool × Nat := if wordOk (word l i) = true then more 2 l (i + (word l i).length) else (false, i + (word l i).length)
def domText (l : List UInt8) (i : Nat) : List UInt8 := if (dom l i).1 = true then (l.take (dom l i).2).drop i else []
def domOk (l : List UInt8) (i : Nat) : Bool := (dom l i).1 && decide ((dom l i).2 - i ≤ 20)
theorem dom_bad {l : List UInt8} {i : Nat} (h : wordOk (word l i) = false) : dom l i = (false, i + (word l i).length) := by simp [dom, h]
theorem dom_good {l : List UInt8} {i : Nat} (h : wordOk (word l i) = true) : dom l i = more 2 l (i + (word l i).length) := by simp [dom, h]
theorem word_le {l : List UInt8} {i : Nat} (h : i ≤ l.length) : i + (word l i).length ≤ l.length := by
  have := List.IsPrefix.length_le (List.takeWhile_prefix nameB (l := l.drop i))
  rw [List.length_drop] at this
  unfold word; omega
theorem more_stop {l : List UInt8} {n j : Nat} (h : ¬ l[j]? = some 46) : more n l j = (true, j) := by
  cases n with
  | zero => rfl
  | succ n => rw [more, if_neg h]
theorem more_bad {l : List UInt8} {n j : Nat} (hn : 1 ≤ n) (h : l[j]? = some 46) (hw : wordOk (word l (j + 1)) = false) : more n l j = (false, j + 1 + (word l (j + 1)).length) := by
  cases n with
  | zero => omega
  | succ n => rw [more, if_pos h, if_neg (by simp [hw])]
theorem more_good {l : List UInt8} {n j : Nat} (hn : 1 ≤ n) (h : l[j]? = some 46) (hw : wordOk (word l (j + 1)) = true) : more n l j = more (n - 1) l (j + 1 + (word l (j + 1)).length) := by
  cases n with
  | zero => omega
  | succ n => rw [more, if_pos h, if_pos hw]; rfl
theorem takeWhile_len {p : UInt8 → Bool} : ∀ l : List UInt8, (l.takeWhile p).length = l.length ↔ l.all p = true
  | [] => by simp
  | c :: l => by
    have h := takeWhile_len (p := p) l
    cases hc : p c with
    | true => simp [List.takeWhile, hc] at h ⊢; exact h
    | false => simp [List.takeWhile, hc]
theorem nameOk_word {l : List UInt8} : nameOk l = (wordOk (word l 0) && decide ((word l 0).length = l.length)) := by
  have h := takeWhile_len (p := nameB) l
  have e : word l 0 = l.takeWhile nameB := by simp [word]
  rw [Bool.eq_iff_iff]
  simp only [nameOk, wordOk, e, Bool.and_eq_true, decide_eq_true_eq]
  constructor
  · rintro ⟨⟨h1, h2⟩, h3⟩
    have := h.2 h1
    omega
  · rintro ⟨⟨h1, h2⟩, h3⟩
    exact ⟨⟨h.1 h3, by omega⟩, by omega⟩
theorem name_put {a b : List UInt8} {c : UInt8} (h : nameB c = false) : nameOk (a ++ [c] ++ b) = false := by
  simp [nameOk, h]
/-- An address from a place on: its parts, is it one, where it ends. -/
def addr (l : List UInt8) (i : Nat) : List UInt8 × List UInt8 × Bool × Nat :=
  if wordOk (word l i) = true then
    if l[i + (word l i).length]? = some 64 then
      (if domOk l (i + (word l i).length + 1) = true then (word l i, domText l (i + (word l i).length + 1), true, (dom l (i + (word l i).length + 1)).2) else ([], [], false, (dom l (i + (word l i).length + 1)).2))
    else ([], [], false, i + (word l i).length)
  else ([], [], false, i + (word l i).length)
theorem pair_eq {a b c d : List UInt8} {x y : Bool} (h : a = c) (h' : b = d) (h'' : x = y) : Value.tuple #[.agg #[str a, str b], .bool x] = Value.tuple #[.agg #[str c, str d], .bool y] := by rw [h, h', h'']
theorem more_le {l : List UInt8} : ∀ (n j : Nat), j ≤ l.length → (more n l j).2 ≤ l.length
  | 0, j, h => h
  | n + 1, j, h => by
    rw [more]
    split
    · rename_i e
      have := lt_of_get e
      have h2 := word_le (l := l) (i := j + 1) (by omega)
      split
      · exact more_le n _ h2
      · exact h2
    · exact h
theorem dom_le {l : List UInt8} {i : Nat} (h : i ≤ l.length) : (dom l i).2 ≤ l.length := by
  unfold dom
  have h2 := word_le h
  split
  · exact more_le 2 _ h2
  · exact h2
theorem addr_le {l : List UInt8} {i : Nat} (h : i ≤ l.length) : (addr l i).2.2.2 ≤ l.length := by
  unfold addr
  have h2 := word_le h
  split
  · split
    · rename_i e
      have := lt_of_get e
      have h3 := dom_le (l := l) (i := i + (word l i).length + 1) (by omega)
      split <;> exact h3
    · exact h2
  · exact h2
/-- The address of a whole text. -/
def parse (l : List UInt8) : List UInt8 × List UInt8 × Bool := if (addr l 0).2.2.1 && decide ((addr l 0).2.2.2 = l.length) then ((addr l 0).1, (addr l 0).2.1, true) else ([], [], false)
/-- The pieces of a text between the bytes of a kind. -/
def glue (a : List UInt8) : List (List UInt8) → List (List UInt8)
  | [] => [a]
  | p :: ps => (a ++ p) :: ps
def cut (x : UInt8) : List UInt8 → List (List UInt8)
  | [] => [[]]
  | c :: r => if c = x then [] :: cut x r else glue [c] (cut x r)
theorem cut_ne (x : UInt8) : ∀ l, cut x l ≠ []
  | [] => by simp [cut]
  | c :: r => by
    rw [cut]
    split
    · simp
    · cases cut x r <;> simp [glue]
theorem glue_nil {m : List (List UInt8)} (h : m ≠ []) : glue [] m = m := by
  cases m with
  | nil => exact absurd rfl h
  | cons p ps => rfl
theorem glue_glue (a b : List UInt8) (m : List (List UInt8)) : glue a (glue b m) = glue (a ++ b) m := by
  cases m <;> simp [glue]
structure CutSt where
  i : Nat
  f : Nat
  m : Nat
  ps : List (List UInt8)
  q : Option Addr
  cp : Nat
  s : Cells
theorem u8_eq {a b : UInt8} (h : (a.toNat : Int) = b.toNat) : a = b := UInt8.toNat_inj.1 (by exact_mod_cast h)
theorem cut_hit {l : List UInt8} {x c : UInt8} {i : Nat} (h : l[i]? = some c) (e : c = x) : cut x (l.drop i) = [] :: cut x (l.drop (i + 1)) := by
  obtain ⟨hlt, he⟩ := List.getElem?_eq_some_iff.1 h
  rw [List.drop_eq_getElem_cons hlt, he, cut, if_pos e]
theorem cut_miss {l : List UInt8} {x c : UInt8} {i : Nat} (h : l[i]? = some c) (e : c ≠ x) : cut x (l.drop i) = glue [c] (cut x (l.drop (i + 1))) := by
  obtain ⟨hlt, he⟩ := List.getElem?_eq_some_iff.1 h
  rw [List.drop_eq_getElem_cons hlt, he, cut, if_neg e]
theorem u8_ne {a b : UInt8} (h : ¬ (a.toNat : Int) = b.toNat) : a ≠ b := fun e => h (by rw [e])
theorem take_more {l : List UInt8} {c : UInt8} {i f : Nat} (h : l[i]? = some c) (hf : f ≤ i) : (l.take i).drop f ++ [c] = (l.take (i + 1)).drop f := by
  have hlt := lt_of_get h
  rw [List.take_add_one, h]
  simp only [Option.toList_some]
  rw [List.drop_append_of_le_length (by rw [List.length_take]; omega)]
theorem glue_hit (a : List UInt8) (m : List (List UInt8)) : glue a ([] :: m) = a :: m := by simp [glue]
def specDom (l : List UInt8) : Bool := (cut 46 l).all nameOk && decide ((cut 46 l).length ≤ 3) && decide (l.length ≤ 20)
theorem glue_len {a : List UInt8} {m : List (List UInt8)} {n : Nat} (h : ∀ p, p ∈ m → p.length ≤ n) : ∀ p, p ∈ glue a m → p.length ≤ a.length + n := by
  cases m with
  | nil => intro p hp; simp [glue] at hp; subst hp; omega
  | cons q qs =>
    intro p hp
    simp only [glue, List.mem_cons] at hp
    rcases hp with rfl | hp
    · rw [List.length_append]; have := h q (List.mem_cons_self ..); omega
    · have := h p (List.mem_cons_of_mem _ hp); omega
theorem cut_len (x : UInt8) : ∀ (l p : List UInt8), p ∈ cut x l → p.length ≤ l.length
  | [], p, h => by simp [cut] at h; subst h; simp
  | c :: r, p, h => by
    rw [cut] at h
    split at h
    · rcases List.mem_cons.1 h with rfl | h
      · simp
      · have := cut_len x r p h; simp; omega
    · have := glue_len (cut_len x r) p h; simp at this ⊢; omega
theorem all_stop2 {l : List (List UInt8)} {k : Nat} {c : List UInt8} (hc : l[k]? = some c) (h : nameOk c = false) : l.all nameOk = false := by
  rw [Bool.eq_false_iff]; intro ha
  have := List.all_eq_true.1 ha c (List.mem_of_getElem? hc)
  rw [h] at this; cases this
theorem all_step2 {l : List (List UInt8)} {k : Nat} {c : List UInt8} (hc : l[k]? = some c) (h : nameOk c = true) (ha : (l.take k).all nameOk = true) : (l.take (k + 1)).all nameOk = true := by
  rw [List.take_add_one, hc]; simp only [Option.toList_some, List.all_append, ha, List.all_cons, h, List.all_nil]; rfl
theorem cut_count (x : UInt8) : ∀ l : List UInt8, (cut x l).length ≤ l.length + 1
  | [] => by simp [cut]
  | c :: r => by
    have h := cut_count x r
    rw [cut]
    split
    · simp; omega
    · cases hq : cut x r with
      | nil => exact absurd hq (cut_ne x r)
      | cons p ps => rw [hq] at h; simp [glue] at h ⊢; omega
theorem cut_none {x : UInt8} : ∀ {l : List UInt8}, x ∉ l → cut x l = [l]
  | [], _ => rfl
  | c :: r, h => by
    rw [cut, if_neg (fun e => h (by rw [e]; exact List.mem_cons_self ..)), cut_none (fun hm => h (List.mem_cons_of_mem _ hm))]
    rfl
theorem cut_first {x : UInt8} {b : List UInt8} : ∀ {a : List UInt8}, x ∉ a → cut x (a ++ x :: b) = a :: cut x b
  | [], _ => by simp [cut]
  | c :: r, h => by
    rw [List.cons_append, cut, if_neg (fun e => h (by rw [e]; exact List.mem_cons_self ..)), cut_first (fun hm => h (List.mem_cons_of_mem _ hm))]
    rfl
theorem split_first {x : UInt8} : ∀ {l : List UInt8}, x ∈ l → ∃ a b, l = a ++ x :: b ∧ x ∉ a
  | c :: r, h => by
    by_cases e : c = x
    · exact ⟨[], r, by simp [e], by simp⟩
    · have hr : x ∈ r := (List.mem_cons.1 h).resolve_left (Ne.symm e)
      obtain ⟨a, b, h1, h2⟩ := split_first hr
      exact ⟨c :: a, b, by simp [h1], by simp [Ne.symm e, h2]⟩
theorem word_shift (l : List UInt8) (i j : Nat) : word l (i + j) = word (l.drop i) j := by
  unfold word; rw [List.drop_drop]
theorem more_shift (l : List UInt8) (i : Nat) : ∀ n j, more n l (i + j) = ((more n (l.drop i) j).1, i + (more n (l.drop i) j).2)
  | 0, j => rfl
  | n + 1, j => by
    simp only [more, List.getElem?_drop]
    rw [show i + j + 1 = i + (j + 1) from by omega, word_shift]
    split
    · split
      · rw [show i + (j + 1) + (word (l.drop i) (j + 1)).length = i + (j + 1 + (word (l.drop i) (j + 1)).length) from by omega, more_shift l i n]
      · simp only [Prod.mk.injEq, true_and]; omega
    · rfl
theorem dom_shift (l : List UInt8) (i : Nat) : dom l i = ((dom (l.drop i) 0).1, i + (dom (l.drop i) 0).2) := by
  have h := word_shift l i 0
  simp only [Nat.add_zero] at h
  simp only [dom, h, Nat.zero_add]
  split
  · exact more_shift l i 2 _
  · rfl
theorem word_all {l : List UInt8} (h : l.all nameB = true) : word l 0 = l := by
  have := (takeWhile_len (p := nameB) l).2 h
  have h2 := List.takeWhile_prefix nameB (l := l)
  simp only [word, List.drop_zero]
  exact List.IsPrefix.eq_of_length h2 this
theorem word_cat_all {a b : List UInt8} {x : UInt8} (hx : nameB x = false) (h : a.all nameB = true) : word (a ++ x :: b) 0 = a := by
  simp only [word, List.drop_zero]
  induction a with
  | nil => simp [List.takeWhile, hx]
  | cons c a ih =>
    simp only [List.all_cons, Bool.and_eq_true] at h
    simp only [List.cons_append, List.takeWhile, h.1, ih h.2]
theorem word_cat_not {a : List UInt8} (b : List UInt8) (h : a.all nameB = false) : (word (a ++ b) 0).length < a.length ∧ word (a ++ b) 0 = word a 0 := by
  simp only [word, List.drop_zero]
  induction a with
  | nil => simp at h
  | cons c a ih =>
    cases hc : nameB c with
    | false => simp [List.takeWhile, hc]
    | true =>
      have h' : a.all nameB = false := by simpa [hc] using h
      have := ih h'
      simp only [List.cons_append, List.takeWhile, hc, List.length_cons]
      exact ⟨by omega, by rw [this.2]⟩
theorem get_cat {a : List UInt8} (b : List UInt8) {k : Nat} (h : k < a.length) : (a ++ b)[k]? = a[k]? := List.getElem?_append_left h
theorem get_none_of {x : UInt8} {a : List UInt8} (h : x ∉ a) (k : Nat) : a[k]? ≠ some x := fun e => h (List.mem_of_getElem? e)
/-- The names of a text, at most n + 1, with dots between. -/
theorem names_cut : ∀ (n : Nat) (b : List UInt8), (wordOk (word b 0) = true ∧ more n b (word b 0).length = (true, b.length)) ↔ ((cut 46 b).all nameOk = true ∧ (cut 46 b).length ≤ n + 1) := by
  intro n
  induction n with
  | zero =>
    intro b
    by_cases hd : (46 : UInt8) ∈ b
    · obtain ⟨a, r, rfl, ha⟩ := split_first hd
      rw [cut_first ha]
      have hlen : (word (a ++ 46 :: r) 0).length ≤ a.length := by
        cases hna : a.all nameB with
        | true => rw [word_cat_all (by decide) hna]; exact Nat.le_refl _
        | false => exact Nat.le_of_lt (word_cat_not _ hna).1
      constructor
      · rintro ⟨_, h2⟩
        simp only [more, Prod.mk.injEq, true_and] at h2
        rw [List.length_append, List.length_cons] at h2
        omega
      · rintro ⟨_, h2⟩
        have := cut_ne 46 r
        simp only [List.length_cons] at h2
        exact absurd (List.eq_nil_of_length_eq_zero (by omega)) this
    · rw [cut_none hd]
      simp only [more, List.all_cons, List.all_nil, Bool.and_true, List.length_cons, List.length_nil, Nat.zero_add, Nat.le_refl, and_true, Prod.mk.injEq, true_and, nameOk_word, Bool.and_eq_true, decide_eq_true_eq]
  | succ n ih =>
    intro b
    by_cases hd : (46 : UInt8) ∈ b
    · obtain ⟨a, r, rfl, ha⟩ := split_first hd
      rw [cut_first ha]
      cases hna : a.all nameB with
      | true =>
        rw [word_cat_all (by decide) hna]
        have hg : (a ++ 46 :: r)[a.length]? = some 46 := by simp
        have hdr : (a ++ 46 :: r).drop (a.length + 1) = r := by rw [List.drop_append]; simp
        have hw : word (a ++ 46 :: r) (a.length + 1) = word r 0 := by
          have := word_shift (a ++ 46 :: r) (a.length + 1) 0
          rw [Nat.add_zero, hdr] at this; exact this
        have hm : more n (a ++ 46 :: r) (a.length + 1 + (word r 0).length) = ((more n r (word r 0).length).1, a.length + 1 + (more n r (word r 0).length).2) := by
          rw [more_shift, hdr]
        simp only [more, hg, if_true, hw, hm, List.all_cons, Bool.and_eq_true, List.length_cons]
        have hna' : nameOk a = wordOk a := by rw [nameOk_word, word_all hna]; simp
        have hi := ih r
        constructor
        · rintro ⟨h1, h2⟩
          split at h2
          · rename_i h3
            simp only [Prod.mk.injEq, List.length_append, List.length_cons] at h2
            have := hi.1 ⟨h3, by ext1; exact h2.1; simp only []; omega⟩
            exact ⟨⟨by rw [hna']; exact h1, this.1⟩, by omega⟩
          · simp at h2
        · rintro ⟨⟨h1, h2⟩, h3⟩
          obtain ⟨h4, h5⟩ := hi.2 ⟨h2, by omega⟩
          refine ⟨by rw [← hna']; exact h1, ?_⟩
          rw [if_pos h4, h5]
          simp; omega
      | false =>
        obtain ⟨h1, h2⟩ := word_cat_not (46 :: r) hna
        have hne : nameOk a = false := by simp [nameOk, hna]
        constructor
        · rintro ⟨_, h3⟩
          rw [more_stop (by rw [get_cat _ h1]; exact get_none_of ha _)] at h3
          simp only [Prod.mk.injEq, true_and, List.length_append, List.length_cons] at h3
          omega
        · rintro ⟨h3, _⟩
          simp [hne] at h3
    · rw [cut_none hd]
      rw [more_stop (get_none_of hd _)]
      simp only [List.all_cons, List.all_nil, Bool.and_true, List.length_cons, List.length_nil, Prod.mk.injEq, true_and, nameOk_word, Bool.and_eq_true, decide_eq_true_eq]
      constructor
      · rintro ⟨h1, h2⟩; exact ⟨⟨h1, h2⟩, by omega⟩
      · rintro ⟨⟨h1, h2⟩, _⟩; exact ⟨h1, h2⟩
theorem more_bound {l : List UInt8} {n : Nat} : ∀ {j : Nat}, (more n l j).2 ≥ j := by
  induction n with
  | zero => intro j; exact Nat.le_refl _
  | succ n ih =>
    intro j
    rw [more]
    split
    · split
      · exact Nat.le_trans (by omega) ih
      · simp only []; omega
    · exact Nat.le_refl _
theorem domOk_iff (b : List UInt8) : ((dom b 0).1 = true ∧ (dom b 0).2 ≤ 20 ∧ (dom b 0).2 = b.length) ↔ specDom b = true := by
  have h := names_cut 2 b
  simp only [specDom, Bool.and_eq_true, decide_eq_true_eq]
  constructor
  · rintro ⟨h1, h2, h3⟩
    cases hw : wordOk (word b 0) with
    | false => simp [dom, hw] at h1
    | true =>
      simp only [dom, hw, if_true, Nat.zero_add] at h1 h2 h3
      have := h.1 ⟨hw, by ext1; exact h1; exact h3⟩
      exact ⟨⟨this.1, this.2⟩, by omega⟩
  · rintro ⟨⟨h1, h2⟩, h3⟩
    obtain ⟨h4, h5⟩ := h.2 ⟨h1, h2⟩
    simp only [dom, h4, if_true, Nat.zero_add, h5]
    exact ⟨trivial, h3, trivial⟩
theorem glue_mem {a : List UInt8} {m : List (List UInt8)} {p : List UInt8} (h : p ∈ m) : p ∈ glue a m ∨ (a ++ p) ∈ glue a m := by
  cases m with
  | nil => cases h
  | cons q qs =>
    rcases List.mem_cons.1 h with rfl | h
    · exact .inr (List.mem_cons_self ..)
    · exact .inl (List.mem_cons_of_mem _ h)
theorem glue_head {a : List UInt8} (m : List (List UInt8)) : ∃ p, (a ++ p) ∈ glue a m := by
  cases m with
  | nil => exact ⟨[], by simp [glue]⟩
  | cons q qs => exact ⟨q, List.mem_cons_self ..⟩
theorem cut_cover {x : UInt8} : ∀ {l : List UInt8} {c : UInt8}, c ∈ l → c = x ∨ ∃ p, p ∈ cut x l ∧ c ∈ p
  | d :: r, c, h => by
    by_cases e : d = x
    · rw [cut, if_pos e]
      rcases List.mem_cons.1 h with rfl | h
      · exact .inl e
      · rcases cut_cover h with h | ⟨p, h1, h2⟩
        · exact .inl h
        · exact .inr ⟨p, List.mem_cons_of_mem _ h1, h2⟩
    · rw [cut, if_neg e]
      rcases List.mem_cons.1 h with rfl | h
      · obtain ⟨p, hp⟩ := glue_head (a := [c]) (cut x r)
        exact .inr ⟨_, hp, by simp⟩
      · rcases cut_cover h with h | ⟨p, h1, h2⟩
        · exact .inl h
        · rcases glue_mem (a := [d]) h1 with h3 | h3
          · exact .inr ⟨_, h3, h2⟩
          · exact .inr ⟨_, h3, by simp [h2]⟩
theorem cut_all {x : UInt8} {l : List UInt8} (h : (cut x l).all nameOk = true) {c : UInt8} (hc : c ∈ l) : c = x ∨ nameB c = true := by
  rcases cut_cover (x := x) hc with h1 | ⟨p, h1, h2⟩
  · exact .inl h1
  · have := List.all_eq_true.1 h p h1
    simp only [nameOk, Bool.and_eq_true] at this
    exact .inr (List.all_eq_true.1 this.1.1 c h2)
/-- What the reference makes of a text. -/
def specParse (l : List UInt8) : List UInt8 × List UInt8 × Bool := match cut 64 l with
  | [a, b] => if nameOk a && specDom b then (a, b, true) else ([], [], false)
  | _ => ([], [], false)
theorem specDom_no {b : List UInt8} (h : specDom b = true) : (64 : UInt8) ∉ b := fun hm => by
  simp only [specDom, Bool.and_eq_true] at h
  rcases cut_all h.1.1 hm with e | e
  · exact absurd e (by decide)
  · exact absurd e (by decide)
theorem parse_spec (l : List UInt8) : parse l = specParse l := by
  by_cases hm : (64 : UInt8) ∈ l
  · obtain ⟨a, b, rfl, ha⟩ := split_first hm
    unfold specParse
    rw [cut_first ha]
    cases hna : a.all nameB with
    | false =>
      obtain ⟨h1, h2⟩ := word_cat_not (64 :: b) hna
      have hne : nameOk a = false := by simp [nameOk, hna]
      have hg : ¬ (a ++ 64 :: b)[0 + (word (a ++ 64 :: b) 0).length]? = some 64 := by rw [Nat.zero_add, get_cat _ h1]; exact get_none_of ha _
      have hp : parse (a ++ 64 :: b) = ([], [], false) := by
        unfold parse addr
        rw [if_neg hg]
        split <;> simp
      rw [hp]
      cases hcb : cut 64 b with
      | nil => rfl
      | cons p ps => cases ps <;> simp [hne]
    | true =>
      have hw : word (a ++ 64 :: b) 0 = a := word_cat_all (by decide) hna
      have hg : (a ++ 64 :: b)[0 + a.length]? = some 64 := by simp
      have hdr : (a ++ 64 :: b).drop (0 + a.length + 1) = b := by rw [Nat.zero_add, List.drop_append]; simp
      have hna' : nameOk a = wordOk a := by rw [nameOk_word, word_all hna]; simp
      have hds := dom_shift (a ++ 64 :: b) (0 + a.length + 1)
      rw [hdr] at hds
      have hdi := domOk_iff b
      have htx : (dom b 0).1 = true → (dom b 0).2 = b.length → domText (a ++ 64 :: b) (0 + a.length + 1) = b := fun h1 h2 => by
        simp only [domText, hds, h1, if_true, h2]
        rw [List.drop_take, hdr, show 0 + a.length + 1 + b.length - (0 + a.length + 1) = b.length from by omega, List.take_length]
      cases hwa : wordOk a with
      | false =>
        have hp : parse (a ++ 64 :: b) = ([], [], false) := by
          unfold parse addr
          rw [hw, hwa]; simp
        rw [hp]
        cases hcb : cut 64 b with
        | nil => rfl
        | cons p ps => cases ps <;> simp [hna', hwa]
      | true =>
        cases hsd : specDom b with
        | true =>
          obtain ⟨h1, h2, h3⟩ := hdi.2 hsd
          have hok : domOk (a ++ 64 :: b) (0 + a.length + 1) = true := by simp only [domOk, hds, h1, Bool.true_and, decide_eq_true_eq]; omega
          rw [cut_none (specDom_no hsd)]
          simp only [parse, addr, hw, hwa, hg, hok, if_true, htx h1 h3, hds, h3, hna', hsd, Bool.true_and, Bool.and_self]
          rw [if_pos]
          simp; omega
        | false =>
          have hp : parse (a ++ 64 :: b) = ([], [], false) := by
            simp only [parse, addr, hw, hwa, hg, if_true]
            cases hok : domOk (a ++ 64 :: b) (0 + a.length + 1) with
            | false => simp
            | true =>
              simp only [domOk, hds, Bool.and_eq_true, decide_eq_true_eq] at hok
              simp only [if_true, hds, Bool.true_and]
              rw [if_neg]
              intro he
              have he' := of_decide_eq_true he
              rw [List.length_append, List.length_cons] at he'
              have := hdi.1 ⟨hok.1, by omega, by omega⟩
              rw [hsd] at this; cases this
          rw [hp]
          by_cases hb : (64 : UInt8) ∈ b
          · obtain ⟨c, d, rfl, hc⟩ := split_first hb
            rw [cut_first hc]
            cases hcd : cut 64 d with
            | nil => exact absurd hcd (cut_ne 64 d)
            | cons p ps => rfl
          · rw [cut_none hb]; simp [hsd]
  · unfold specParse
    rw [cut_none hm]
    unfold parse addr
    have hg : ¬ l[0 + (word l 0).length]? = some 64 := get_none_of hm _
    rw [if_neg hg]
    split <;> simp
theorem cut_put (x : UInt8) (b : List UInt8) : ∀ a : List UInt8, (cut x (a ++ [x] ++ b)).length = (cut x (a ++ b)).length + 1
  | [] => by simp [cut]
  | c :: r => by
    have h := cut_put x b r
    have hg : ∀ m : List (List UInt8), m ≠ [] → (glue [c] m).length = m.length := fun m hm => by cases m <;> simp_all [glue]
    simp only [List.cons_append, cut] at h ⊢
    split
    · simp only [List.length_cons]; rw [h]
    · rw [hg _ (cut_ne _ _), hg _ (cut_ne _ _), h]
theorem parse_put {l : List UInt8} (h : (parse l).2.2 = true) (k : Nat) : (parse (l.take k ++ [64] ++ l.drop k)).2.2 = false := by
  rw [parse_spec] at h ⊢
  have hl := cut_put 64 (l.drop k) (l.take k)
  rw [List.take_append_drop] at hl
  unfold specParse at h ⊢
  cases hc : cut 64 (l.take k ++ [64] ++ l.drop k) with
  | nil => rfl
  | cons p ps =>
    cases ps with
    | nil => rfl
    | cons q qs =>
      cases qs with
      | nil =>
        rw [hc] at hl
        simp only [List.length_cons, List.length_nil] at hl
        cases hd : cut 64 l with
        | nil => rw [hd] at h; simp at h
        | cons u us =>
          cases us with
          | nil => rw [hd] at h; simp at h
          | cons v vs => rw [hd] at hl; simp only [List.length_cons] at hl; omega
      | cons r rs => rfl
/-! ### plain: users -/
theorem all_next {α : Type} {p : α → Prop} {l : List α} {k : Nat} {x : α} (hx : l[k]? = some x) (h : ∀ y, y ∈ l.take k → p y) (hp : p x) : ∀ y, y ∈ l.take (k + 1) → p y := by
  intro y hy
  rw [List.take_add_one, hx] at hy
  simp only [Option.toList_some, List.mem_append, List.mem_singleton] at hy
  rcases hy with hy | rfl
  · exact h y hy
  · exact hp
/-- The number of the first user of a name, or -1. -/
def idxU (us : List DUser) (u : Str) : Int := match us.findIdx? (fun x => decide (x.name = u)) with | some i => i | none => -1
theorem idxU_hit {us : List DUser} {u : Str} {k : Nat} {x : DUser} (hx : us[k]? = some x) (he : x.name = u) (h : ∀ y, y ∈ us.take k → y.name ≠ u) : idxU us u = k := by
  have : us.findIdx? (fun x => decide (x.name = u)) = some k := by
    rw [List.findIdx?_eq_some_iff_getElem]
    obtain ⟨hk, rfl⟩ := List.getElem?_eq_some_iff.1 hx
    refine ⟨hk, by simpa using he, fun j hj => ?_⟩
    have := h us[j] (by rw [List.mem_take_iff_getElem]; exact ⟨j, by omega, rfl⟩)
    simpa using this
  rw [idxU, this]
theorem idxU_none {us : List DUser} {u : Str} (h : ∀ y, y ∈ us → y.name ≠ u) : idxU us u = -1 := by
  have : us.findIdx? (fun x => decide (x.name = u)) = none := by
    rw [List.findIdx?_eq_none_iff]
    intro x hx
    simpa using h x hx
  rw [idxU, this]
/-! ### plain: lists read side by side -/
theorem take_eq_next {α : Type} {as bs : List α} {k : Nat} {x y : α} (hx : as[k]? = some x) (hy : bs[k]? = some y) (e : x = y) (h : as.take k = bs.take k) : as.take (k + 1) = bs.take (k + 1) := by
  rw [List.take_add_one, List.take_add_one, hx, hy, e, h]
theorem eqF_len {α : Type} {as bs : List α} {inst : Decidable (as = bs)} (h : ¬ (as.length : Int) = bs.length) : false = decide (as = bs) := by
  symm; rw [decide_eq_false_iff_not]; intro e; exact h (by rw [e])
theorem eqF_elem {α : Type} {as bs : List α} {inst : Decidable (as = bs)} {k : Nat} {x y : α} (hx : as[k]? = some x) (hy : bs[k]? = some y) (e : ¬ x = y) : false = decide (as = bs) := by
  symm; rw [decide_eq_false_iff_not]; intro h; rw [h, hy] at hx; exact e (Option.some.inj hx).symm
theorem eqT {α : Type} {as bs : List α} {inst : Decidable (as = bs)} {k : Nat} (hl : as.length = bs.length) (hk : k = as.length) (h : as.take k = bs.take k) : true = decide (as = bs) := by
  symm; rw [decide_eq_true_eq]
  rw [List.take_of_length_le (by omega), List.take_of_length_le (by omega)] at h; exact h
theorem memF {α : Type} {as : List α} {x : α} {inst : Decidable (x ∈ as)} (h : ∀ y, y ∈ as → y ≠ x) : false = decide (x ∈ as) := by
  symm; rw [decide_eq_false_iff_not]; intro hx; exact h x hx rfl
theorem memT {α : Type} {as : List α} {x y : α} {inst : Decidable (x ∈ as)} {k : Nat} (hy : as[k]? = some y) (e : y = x) : true = decide (x ∈ as) := by
  symm; rw [decide_eq_true_eq]; subst e; exact List.mem_of_getElem? hy
theorem take_end {α : Type} {p : α → Prop} {l : List α} {k : Nat} (hk : ¬ (k : Int) < l.length) (h : ∀ y, y ∈ l.take k → p y) : ∀ y, y ∈ l → p y := by
  rwa [List.take_of_length_le (by omega)] at h
/-! ### plain: what is left of a list -/
theorem dropCons {α : Type} {l : List α} {k : Nat} {x : α} (h : l[k]? = some x) : l.drop k = x :: l.drop (k + 1) := by
  obtain ⟨hlt, he⟩ := List.getElem?_eq_some_iff.1 h
  rw [List.drop_eq_getElem_cons hlt, he]
theorem dropEnd {α : Type} {l : List α} {k : Nat} (h : ¬ (k : Int) < l.length) : l.drop k = [] := List.drop_eq_nil_of_le (by omega)
/-! ### plain: letters -/
def namesOk (l : List Str) : Bool := l.all nameOk && decide l.Nodup && decide (l.length ≤ 3)
def letterOk (x : DLetter) : Bool := nameOk x.fr && namesOk x.to_ && decide (0 < x.to_.length) && decide (x.text.length ≤ 20)
def itemOk (x : DItem) : Bool := letterOk ⟨x.fr, x.left, x.text⟩
def scanQ : Int → List DItem → Option Int
  | last, [] => some last
  | last, x :: r => if (last + 1 ≤ x.id ∧ x.id ≤ 99) ∧ itemOk x = true then scanQ x.id r else none
def queueOk (q : DQueue) : Bool := match scanQ 0 q.items with
  | some last => decide (last + 1 ≤ q.next) && decide (q.next ≤ 100) && decide (q.items.length ≤ 6)
  | none => false
theorem nd_next {α : Type} {l : List α} {k : Nat} {x : α} (hx : l[k]? = some x) (h : (l.take k).Nodup) (hn : ¬ x ∈ l.take k) : (l.take (k + 1)).Nodup := by
  rw [List.take_add_one, hx]
  simp only [Option.toList_some]
  rw [List.nodup_append]
  exact ⟨h, by simp, fun a ha b hb => by rw [List.mem_singleton.1 hb]; exact fun e => hn (e ▸ ha)⟩
theorem nd_stop {α : Type} {l : List α} {k : Nat} {x : α} (hx : l[k]? = some x) (h : x ∈ l.take k) : ¬ l.Nodup := by
  intro hn
  have e : l = l.take k ++ l.drop k := (List.take_append_drop k l).symm
  rw [e, dropCons hx, List.nodup_append] at hn
  exact hn.2.2 x h x (List.mem_cons_self ..) rfl
theorem namesOk_bad1 {l : List Str} {k : Nat} {x : Str} (hx : l[k]? = some x) (h : nameOk x = false) : false = namesOk l := by
  simp [namesOk, all_stop2 hx h]
theorem namesOk_bad2 {l : List Str} {k : Nat} {x : Str} (hx : l[k]? = some x) (h : x ∈ l.take k) : false = namesOk l := by
  simp [namesOk, nd_stop hx h]
theorem namesOk_end {l : List Str} {k : Nat} (hk : ¬ (k : Int) < l.length) (ha : (l.take k).all nameOk = true) (hn : (l.take k).Nodup) : decide ((l.length : Int) ≤ 3) = namesOk l := by
  rw [List.take_of_length_le (by omega)] at ha hn
  rw [Bool.eq_iff_iff]; simp only [namesOk, ha, decide_eq_true hn, Bool.true_and, decide_eq_true_eq]; omega
/-! ### plain: the first element that passes a test -/
def idxP {α : Type} (p : α → Bool) (xs : List α) : Int := match xs.findIdx? p with | some i => i | none => -1
theorem idxP_hit {α : Type} {p : α → Bool} {xs : List α} {k : Nat} {x : α} (hx : xs[k]? = some x) (he : p x = true) (h : ∀ y, y ∈ xs.take k → p y = false) : idxP p xs = k := by
  have : xs.findIdx? p = some k := by
    rw [List.findIdx?_eq_some_iff_getElem]
    obtain ⟨hk, rfl⟩ := List.getElem?_eq_some_iff.1 hx
    refine ⟨hk, he, fun j hj => ?_⟩
    have := h xs[j] (by rw [List.mem_take_iff_getElem]; exact ⟨j, by omega, rfl⟩)
    simpa using this
  rw [idxP, this]
theorem idxP_none {α : Type} {p : α → Bool} {xs : List α} (h : ∀ y, y ∈ xs → p y = false) : idxP p xs = -1 := by
  have : xs.findIdx? p = none := by
    rw [List.findIdx?_eq_none_iff]
    intro x hx
    simpa using h x hx
  rw [idxP, this]
theorem idxP_mem {α : Type} {p : α → Bool} {xs : List α} : (0 ≤ idxP p xs) ↔ ∃ x, x ∈ xs ∧ p x = true := by
  cases h : xs.findIdx? p with
  | none =>
    rw [List.findIdx?_eq_none_iff] at h
    simp only [idxP, List.findIdx?_eq_none_iff.2 h]
    refine ⟨fun e => absurd e (by omega), fun ⟨x, hx, hp⟩ => ?_⟩
    rw [h x hx] at hp; cases hp
  | some i =>
    simp only [idxP, h]
    rw [List.findIdx?_eq_some_iff_getElem] at h
    obtain ⟨hi, hp, _⟩ := h
    exact ⟨fun _ => ⟨_, List.getElem_mem hi, hp⟩, fun _ => by omega⟩
def idxS (xs : List Str) (v : Str) : Int := idxP (fun x => decide (x = v)) xs
theorem idxS_mem {xs : List Str} {v : Str} : (0 ≤ idxS xs v) ↔ v ∈ xs := by
  rw [idxS, idxP_mem]; simp
theorem queueBad {q : DQueue} (h : scanQ 0 q.items = none) : false = queueOk q := by simp [queueOk, h]
theorem queueEnd {q : DQueue} {last : Int} (h : scanQ 0 q.items = some last) : (decide (last + 1 ≤ q.next) && decide (q.next ≤ 100) && decide (q.items.length ≤ 6)) = queueOk q := by simp [queueOk, h]
theorem scan_step {q : DQueue} {k : Nat} {last : Int} {x : DItem} (hs : scanQ 0 q.items = scanQ last (q.items.drop k)) (hx : q.items[k]? = some x) : scanQ 0 q.items = if (last + 1 ≤ x.id ∧ x.id ≤ 99) ∧ itemOk x = true then scanQ x.id (q.items.drop (k + 1)) else none := by
  rw [hs, dropCons hx, scanQ]
theorem sameQ_no {a b : DQueue} {k : Nat} {x y : DItem} (hx : a.items[k]? = some x) (hy : b.items[k]? = some y) (e : ¬ x = y) : false = decide (a = b) := by
  symm; rw [decide_eq_false_iff_not]; rintro rfl; rw [hx] at hy; exact e (Option.some.inj hy)
def rep (l : Str) (n : Nat) : Str := (List.replicate n l).flatten
theorem rep_len (l : Str) (n : Nat) : (rep l n).length = n * l.length := by simp [rep]
theorem letterOk_alt (x : DLetter) : letterOk x = (nameOk x.fr && (decide (1 ≤ x.to_.length) && namesOk x.to_) && decide ((x.text.length : Int) ≤ 20)) := by
  rw [Bool.eq_iff_iff]; simp only [letterOk, Bool.and_eq_true, decide_eq_true_eq]
  constructor
  · rintro ⟨⟨⟨a, b⟩, c⟩, d⟩; exact ⟨⟨a, by omega, b⟩, by omega⟩
  · rintro ⟨⟨a, c, b⟩, d⟩; exact ⟨⟨⟨a, b⟩, by omega⟩, by omega⟩
theorem BytesAt.mono {B B' : Kn} {q : Option Addr} {m : Nat} (h : BytesAt B q m) (hle : B.le B') : BytesAt B' q m := fun j hj => by
  obtain ⟨a, c, h1, h2, h3⟩ := h j hj
  exact ⟨a, c, h1, h2, h3.mono hle⟩
theorem rep_odd (l : Str) (n : Nat) (h : n % 2 = 1) : rep l n = l ++ rep (l ++ l) (n / 2) := by
  obtain ⟨k, rfl⟩ : ∃ k, n = 2 * k + 1 := ⟨n / 2, by omega⟩
  have e : (2 * k + 1) / 2 = k := by omega
  rw [e]
  clear h e
  induction k with
  | zero => simp [rep]
  | succ k ih =>
    rw [show 2 * (k + 1) + 1 = (2 * k + 1) + 1 + 1 from by omega]
    simp only [rep, List.replicate_succ, List.flatten_cons] at ih ⊢
    rw [ih]; simp
theorem rep_even (l : Str) (n : Nat) (h : n % 2 = 0) : rep l n = rep (l ++ l) (n / 2) := by
  obtain ⟨k, rfl⟩ : ∃ k, n = 2 * k := ⟨n / 2, by omega⟩
  have e : 2 * k / 2 = k := by omega
  rw [e]
  clear h e
  induction k with
  | zero => simp [rep]
  | succ k ih =>
    rw [show 2 * (k + 1) = (2 * k) + 1 + 1 from by omega]
    simp only [rep, List.replicate_succ, List.flatten_cons] at ih ⊢
    rw [ih]; simp
/-- What a loop that makes a list has at hand. -/
structure Gh (α : Type) where
  k : Nat
  p : Nat
  l : Cells
  a : Option Addr
  c : Nat
  xs : List α
theorem take_snoc {α : Type} {l : List α} {k : Nat} {x : α} (hx : l[k]? = some x) : l.take (k + 1) = l.take k ++ [x] := by
  rw [List.take_add_one, hx]; rfl
/-- A letter at the end of a queue. -/
def addQ (q : DQueue) (x : DLetter) : DQueue × Bool :=
  if queueOk q = true ∧ letterOk x = true then
    (if 6 ≤ q.items.length ∨ 99 < q.next then (q, false) else (⟨q.next + 1, q.items ++ [⟨q.next, x.fr, x.text, x.to_⟩]⟩, true))
  else (⟨0, []⟩, false)
theorem addQ_bad1 {q : DQueue} {x : DLetter} (h : queueOk q = false) : addQ q x = (⟨0, []⟩, false) := by simp [addQ, h]
theorem addQ_bad2 {q : DQueue} {x : DLetter} (h : letterOk x = false) : addQ q x = (⟨0, []⟩, false) := by simp [addQ, h]
theorem addQ_full {q : DQueue} {x : DLetter} (h : queueOk q = true) (h' : letterOk x = true) (hf : 6 ≤ q.items.length ∨ 99 < q.next) : addQ q x = (q, false) := by rw [addQ, if_pos ⟨h, h'⟩, if_pos hf]
theorem addQ_ok {q : DQueue} {x : DLetter} (h : queueOk q = true) (h' : letterOk x = true) (h1 : ¬ 6 ≤ q.items.length) (h2 : ¬ 99 < q.next) : addQ q x = (⟨q.next + 1, q.items ++ [⟨q.next, x.fr, x.text, x.to_⟩]⟩, true) := by
  rw [addQ, if_pos ⟨h, h'⟩, if_neg (by omega)]
theorem scan_le : ∀ {xs : List DItem} {l r : Int}, scanQ l xs = some r → l ≤ r
  | [], l, r, h => by simp only [scanQ, Option.some.injEq] at h; omega
  | x :: xs, l, r, h => by
    rw [scanQ] at h
    split at h
    · rename_i e; have := scan_le h; omega
    · cases h
theorem queueOk_next {q : DQueue} (h : queueOk q = true) : 1 ≤ q.next ∧ q.next ≤ 100 ∧ q.items.length ≤ 6 := by
  unfold queueOk at h
  split at h
  · rename_i last e
    have := scan_le e
    simp only [Bool.and_eq_true, decide_eq_true_eq] at h
    omega
  · cases h
structure Gh2 (α β : Type) where
  k : Nat
  p : Nat
  l : Cells
  a : Option Addr
  c : Nat
  xs : List α
  e : β
/-! ### plain: a copy is taken -/
def without (xs : List Str) (u : Str) : List Str := xs.filter fun x => decide (x ≠ u)
theorem without_keep {xs : List Str} {u : Str} {k : Nat} {x : Str} (hx : xs[k]? = some x) (h : ¬ x = u) : without (xs.take (k + 1)) u = without (xs.take k) u ++ [x] := by
  rw [take_snoc hx, without, without, List.filter_append]; simp [h]
theorem without_skip {xs : List Str} {u : Str} {k : Nat} {x : Str} (hx : xs[k]? = some x) (h : x = u) : without (xs.take (k + 1)) u = without (xs.take k) u := by
  rw [take_snoc hx, without, without, List.filter_append]; simp [h]
theorem without_len (xs : List Str) (u : Str) : (without xs u).length ≤ xs.length := List.length_filter_le _ _
def takeItem (id : Int) (u : Str) (x : DItem) : DItem := if x.id = id ∧ u ∈ x.left then ⟨x.id, x.fr, x.text, without x.left u⟩ else x
def takeL (id : Int) (u : Str) (xs : List DItem) : List DItem := (xs.map (takeItem id u)).filter fun x => decide (0 < x.left.length)
def takeStep (id : Int) (u : Str) (s : Str × Bool) (x : DItem) : Str × Bool := if x.id = id ∧ u ∈ x.left then (x.text, true) else s
def takeF (id : Int) (u : Str) (xs : List DItem) : Str × Bool := xs.foldl (takeStep id u) ([], false)
theorem takeItem_hit {id : Int} {u : Str} {x : DItem} (h : x.id = id) (h' : u ∈ x.left) : takeItem id u x = ⟨x.id, x.fr, x.text, without x.left u⟩ := by rw [takeItem, if_pos ⟨h, h'⟩]
theorem takeItem_no1 {id : Int} {u : Str} {x : DItem} (h : ¬ x.id = id) : takeItem id u x = x := by rw [takeItem, if_neg (fun e => h e.1)]
theorem takeItem_no2 {id : Int} {u : Str} {x : DItem} (h : ¬ u ∈ x.left) : takeItem id u x = x := by rw [takeItem, if_neg (fun e => h e.2)]
theorem takeL_app {id : Int} {u : Str} {xs : List DItem} {k : Nat} {x y : DItem} (hx : xs[k]? = some x) (e : takeItem id u x = y) (h : 0 < y.left.length) : takeL id u (xs.take (k + 1)) = takeL id u (xs.take k) ++ [y] := by
  rw [take_snoc hx, takeL, takeL, List.map_append, List.filter_append]; simp [e, h]
theorem takeL_skip {id : Int} {u : Str} {xs : List DItem} {k : Nat} {x y : DItem} (hx : xs[k]? = some x) (e : takeItem id u x = y) (h : ¬ 0 < y.left.length) : takeL id u (xs.take (k + 1)) = takeL id u (xs.take k) := by
  rw [take_snoc hx, takeL, takeL, List.map_append, List.filter_append]; simp [e, show y.left.length = 0 by omega]
theorem takeF_hit {id : Int} {u : Str} {xs : List DItem} {k : Nat} {x : DItem} (hx : xs[k]? = some x) (h : x.id = id) (h' : u ∈ x.left) : takeF id u (xs.take (k + 1)) = (x.text, true) := by
  rw [take_snoc hx, takeF, List.foldl_append]; simp [takeStep, h, h']
theorem takeF_no1 {id : Int} {u : Str} {xs : List DItem} {k : Nat} {x : DItem} (hx : xs[k]? = some x) (h : ¬ x.id = id) : takeF id u (xs.take (k + 1)) = takeF id u (xs.take k) := by
  rw [take_snoc hx, takeF, List.foldl_append]; simp [takeStep, h, takeF]
theorem takeF_no2 {id : Int} {u : Str} {xs : List DItem} {k : Nat} {x : DItem} (hx : xs[k]? = some x) (h : ¬ u ∈ x.left) : takeF id u (xs.take (k + 1)) = takeF id u (xs.take k) := by
  rw [take_snoc hx, takeF, List.foldl_append]; simp [takeStep, h, takeF]
theorem takeL_len (id : Int) (u : Str) (xs : List DItem) : (takeL id u xs).length ≤ xs.length := by
  unfold takeL; exact Nat.le_trans (List.length_filter_le _ _) (by simp)
def takeQ (q : DQueue) (id : Int) (u : Str) : DQueue × Str × Bool := (⟨q.next, takeL id u q.items⟩, (takeF id u q.items).1, (takeF id u q.items).2)
def qTake (q : DQueue) (id : Int) (u : Str) : DQueue × Str × Bool := if queueOk q = true then takeQ q id u else (⟨0, []⟩, [], false)
structure GQ where
  k : Nat
  p : Nat
  l : Cells
  a : Option Addr
  c : Nat
  q : DQueue
structure GM where
  b : Nat
  p : Nat
  l : Cells
  a : Option Addr
  c : Nat
  q : DQueue
  f : Bool
theorem addQ_len (q : DQueue) (x : DLetter) : (addQ q x).1.items.length ≤ q.items.length + 1 := by
  unfold addQ
  split
  · split
    · exact Nat.le_succ _
    · simp
  · exact Nat.zero_le _
theorem qTake_len (q : DQueue) (id : Int) (u : Str) : (qTake q id u).1.items.length ≤ q.items.length := by
  unfold qTake
  split
  · exact takeL_len _ _ _
  · exact Nat.zero_le _
theorem VecR.ofS {B : Kn} {l : Cells} {p : Option Addr} {c : Nat} {T : TypeId} {ls : List Str} (h : VecL l p ls.length c T 1 (ls.map str)) (hb : ∀ x, x ∈ ls → x.length ≤ 2000000) : VecR B l p c T 1 StrR ls := by
  have e : ls.map str = (ls.map fun x => [str x]).flatten := by
    clear h hb
    induction ls with
    | nil => rfl
    | cons x r ih => simp [ih]
  rw [e] at h
  refine ⟨_, ?_, (fun row hr => by obtain ⟨x, _, rfl⟩ := List.mem_map.1 hr; rfl), h⟩
  clear h e
  induction ls with
  | nil => exact .nil
  | cons x r ih => exact .cons ⟨rfl, hb x List.mem_cons_self⟩ (ih fun y hy => hb y (List.mem_cons_of_mem _ hy))
theorem specParse_not {l : List UInt8} (h : (cut 64 l).length ≠ 2) : specParse l = ([], [], false) := by
  unfold specParse
  split
  · rename_i he; rw [he] at h; exact absurd rfl h
  · rfl
theorem specParse_two {l x y : List UInt8} (hn : (cut 64 l).length = 2) (hx : (cut 64 l)[0]? = some x) (hy : (cut 64 l)[1]? = some y) : specParse l = if nameOk x && specDom y then (x, y, true) else ([], [], false) := by
  unfold specParse
  match hc : cut 64 l with
  | [a, b] =>
    rw [hc] at hx hy
    cases hx; cases hy
    rfl
  | [] => rw [hc] at hn; cases hn
  | [a] => rw [hc] at hn; cases hn
  | a :: b :: c :: d => rw [hc] at hn; simp at hn
theorem drop_cons {α : Type} {xs : List α} {j : Nat} {y : α} (h : xs[j]? = some y) : xs.drop j = y :: xs.drop (j + 1) := by
  obtain ⟨hj, rfl⟩ := List.getElem?_eq_some_iff.1 h
  exact List.drop_eq_getElem_cons hj
structure QOf where
  p : Option Addr
  ys : List DItem
  xs : List DItem
  l : Cells
  q : Option Addr
  c : Nat
  cells : Cells
theorem VecR.slice0 {α : Type} {B : Kn} {l : Cells} {p : Option Addr} {c : Nat} {T : TypeId} {w sz : Nat} {R : Rel α} {xs : List α} (h : VecR B l p c T w R xs) : (if c = 0 then p else p.map (fun a => a.add (0 * sz))) = p := by
  obtain ⟨rows, _, _, _, ⟨rfl, _, rfl, _⟩ | ⟨b, arr, rfl, _, _, _, _⟩⟩ := h
  · rfl
  · split
    · rfl
    · rw [Nat.zero_mul]; simp [Addr.add_off]
theorem queueOk_no {q : DQueue} (h : ¬ (q.items.length ≤ 6 ∧ 1 ≤ q.next ∧ q.next ≤ 100)) : false = queueOk q := by
  symm; rw [Bool.eq_false_iff]; intro hq
  have := queueOk_next hq
  omega
/-! A heap of numbers: plain laws. -/
def hat (xs : List Int) (k : Nat) : Int := xs.getD k 0
def swp (xs : List Int) (i j : Nat) : List Int := (xs.set i (hat xs j)).set j (hat xs i)
def IsHeap (xs : List Int) : Prop := ∀ k, 0 < k → k < xs.length → hat xs ((k - 1) / 2) ≤ hat xs k
def HeapBut (xs : List Int) (j : Nat) : Prop := (∀ k, 0 < k → k < xs.length → k ≠ j → hat xs ((k - 1) / 2) ≤ hat xs k) ∧ (∀ k, 0 < k → k < xs.length → (k - 1) / 2 = j → 0 < j → hat xs ((j - 1) / 2) ≤ hat xs k)
theorem hat_get {xs : List Int} {k : Nat} {a : Int} (h : xs[k]? = some a) : hat xs k = a := by simp [hat, List.getD, h]
theorem get_hat {xs : List Int} {k : Nat} (h : k < xs.length) : xs[k]? = some (hat xs k) := by simp [hat, List.getD, List.getElem?_eq_getElem h]
theorem swp_len (xs : List Int) (i j : Nat) : (swp xs i j).length = xs.length := by simp [swp]
theorem hat_swp {xs : List Int} {i j : Nat} (hi : i < xs.length) (hj : j < xs.length) (k : Nat) : hat (swp xs i j) k = if k = j then hat xs i else if k = i then hat xs j else hat xs k := by
  simp only [hat, swp, List.getD, List.getElem?_set]
  by_cases h1 : k = j
  · subst h1; simp [hj]
  · have h1' : ¬j = k := fun h => h1 h.symm
    by_cases h2 : k = i
    · subst h2; simp [hi, h1, h1']
    · have h2' : ¬i = k := fun h => h2 h.symm
      simp [h1, h1', h2, h2']
theorem swp_perm {xs : List Int} {i j : Nat} (hi : i < xs.length) (hj : j < xs.length) : (swp xs i j).Perm xs := by
  rw [List.perm_iff_count]
  intro a
  unfold swp
  rw [List.count_set (by simpa using hj), List.count_set hi]
  have e1 : (xs.set i (hat xs j))[j]'(by simpa using hj) = hat xs j := by
    rw [List.getElem_set]; split
    · rfl
    · simp [hat, List.getD, List.getElem?_eq_getElem hj]
  have e2 : xs[i] = hat xs i := by simp [hat, List.getD, List.getElem?_eq_getElem hi]
  rw [e1, e2]
  have hp : ∀ v, (v == a) = true → v ∈ xs → 0 < List.count a xs := fun v hv hm => by
    rw [beq_iff_eq] at hv; subst hv; exact List.count_pos_iff.2 hm
  have hm1 : hat xs i ∈ xs := by rw [← e2]; exact List.getElem_mem _
  by_cases h1 : (hat xs i == a) = true <;> by_cases h2 : (hat xs j == a) = true <;> simp [h1, h2] <;> (try have := hp _ h1 hm1; omega)
theorem up_zero {xs : List Int} (h : HeapBut xs 0) : IsHeap xs := fun k h0 hk => h.1 k h0 hk (by omega)
theorem up_done {xs : List Int} {j : Nat} (h : HeapBut xs j) (hj : hat xs ((j - 1) / 2) ≤ hat xs j) : IsHeap xs := fun k h0 hk => by
  by_cases e : k = j
  · subst e; exact hj
  · exact h.1 k h0 hk e
theorem up_step {xs : List Int} {j : Nat} (h0 : 0 < j) (hj : j < xs.length) (h : HeapBut xs j) (hlt : hat xs j < hat xs ((j - 1) / 2)) : HeapBut (swp xs ((j - 1) / 2) j) ((j - 1) / 2) := by
  have hi : (j - 1) / 2 < xs.length := by omega
  have H := fun k => hat_swp hi hj k
  generalize hii : (j - 1) / 2 = i at *
  refine ⟨fun k hk0 hk hne => ?_, fun k hk0 hk hpar hi0 => ?_⟩
  · rw [swp_len] at hk
    rw [H, H]
    by_cases e1 : k = j
    · subst e1
      rw [hii]; rw [if_neg (by omega), if_pos rfl, if_pos rfl]; omega
    · rw [if_neg e1, if_neg hne]
      by_cases e2 : (k - 1) / 2 = j
      · rw [if_pos e2]; have := h.2 k hk0 hk e2 h0; rw [hii] at this; exact this
      · rw [if_neg e2]
        by_cases e3 : (k - 1) / 2 = i
        · rw [if_pos e3]; have := h.1 k hk0 hk e1; rw [e3] at this; omega
        · rw [if_neg e3]; exact h.1 k hk0 hk e1
  · rw [swp_len] at hk
    rw [H, H]
    have hpi : (i - 1) / 2 ≠ i := by omega
    have hpj : (i - 1) / 2 ≠ j := by omega
    rw [if_neg hpj, if_neg hpi]
    have hii2 := h.1 i hi0 hi (by omega)
    by_cases e1 : k = j
    · rw [if_pos e1]; exact hii2
    · rw [if_neg e1, if_neg (by omega)]
      have := h.1 k hk0 hk e1; rw [hpar] at this; omega
theorem heap_min {xs : List Int} (h : IsHeap xs) : ∀ k, k < xs.length → hat xs 0 ≤ hat xs k := fun k => by
  induction k using Nat.strongRecOn with
  | ind k ih =>
    intro hk
    by_cases h0 : k = 0
    · subst h0; exact Int.le_refl _
    · have h1 := ih ((k - 1) / 2) (by omega) (by omega)
      have h2 := h k (by omega) hk
      omega
def HeapN (xs : List Int) (n : Nat) : Prop := ∀ k, 0 < k → k < n → hat xs ((k - 1) / 2) ≤ hat xs k
def DownBut (xs : List Int) (n i : Nat) : Prop := (∀ k, 0 < k → k < n → (k - 1) / 2 ≠ i → hat xs ((k - 1) / 2) ≤ hat xs k) ∧ (∀ k, 0 < k → k < n → (k - 1) / 2 = i → 0 < i → hat xs ((i - 1) / 2) ≤ hat xs k)
theorem down_leaf {xs : List Int} {n i : Nat} (h : DownBut xs n i) (hl : n ≤ 2 * i + 1) : HeapN xs n := fun k h0 hk => h.1 k h0 hk (by omega)
theorem down_done {xs : List Int} {n i : Nat} (h : DownBut xs n i) (hc : ∀ k, 0 < k → k < n → (k - 1) / 2 = i → hat xs i ≤ hat xs k) : HeapN xs n := fun k h0 hk => by
  by_cases e : (k - 1) / 2 = i
  · rw [e]; exact hc k h0 hk e
  · exact h.1 k h0 hk e
theorem down_step {xs : List Int} {n i j : Nat} (hn : n ≤ xs.length) (hj0 : 0 < j) (hj : j < n) (hpj : (j - 1) / 2 = i) (h : DownBut xs n i) (hmin : ∀ k, 0 < k → k < n → (k - 1) / 2 = i → hat xs j ≤ hat xs k) (hlt : hat xs j < hat xs i) : DownBut (swp xs i j) n j := by
  have hi : i < xs.length := by omega
  have hij : i ≠ j := by omega
  have H := fun k => hat_swp hi (show j < xs.length by omega) k
  refine ⟨fun k hk0 hk hne => ?_, fun k hk0 hk hpar _ => ?_⟩
  · rw [H, H, if_neg hne]
    by_cases e1 : k = j
    · subst e1; rw [if_pos hpj, if_pos rfl]; omega
    · rw [if_neg e1]
      by_cases e2 : (k - 1) / 2 = i
      · rw [if_pos e2, if_neg (by omega)]; exact hmin k hk0 hk e2
      · rw [if_neg e2]
        by_cases e3 : k = i
        · rw [if_pos e3]; subst e3; exact h.2 j hj0 hj hpj hk0
        · rw [if_neg e3]; exact h.1 k hk0 hk e2
  · rw [H, H, hpj, if_neg hij, if_pos rfl, if_neg (by omega), if_neg (by omega)]
    have := h.1 k hk0 hk (by omega)
    rwa [hpar] at this
theorem tdivP (k : Nat) : Int.tdiv ((k : Int) - 1) 2 = (((k - 1) / 2 : Nat) : Int) := by
  cases k with
  | zero => rfl
  | succ k => rw [show ((k + 1 : Nat) : Int) - 1 = (k : Int) from by omega, Int.tdiv_eq_ediv_of_nonneg (by omega)]; simp
theorem hat_app {xs : List Int} {z : Int} {k : Nat} (h : k < xs.length) : hat (xs ++ [z]) k = hat xs k := by
  simp [hat, List.getD, List.getElem?_append_left h]
theorem push_but {xs : List Int} {z : Int} (h : IsHeap xs) : HeapBut (xs ++ [z]) xs.length := by
  refine ⟨fun k h0 hk hne => ?_, fun k h0 hk hp _ => ?_⟩
  · rw [List.length_append, List.length_singleton] at hk
    rw [hat_app (by omega), hat_app (by omega)]
    exact h k h0 (by omega)
  · rw [List.length_append, List.length_singleton] at hk
    omega
theorem pop_but {xs : List Int} (h : IsHeap xs) (h0 : 0 < xs.length) : DownBut (swp xs 0 (xs.length - 1)) (xs.length - 1) 0 := by
  refine ⟨fun k hk0 hk hne => ?_, fun k hk0 hk hpar hh => absurd hh (by omega)⟩
  rw [hat_swp h0 (by omega), hat_swp h0 (by omega), if_neg (by omega), if_neg (by omega), if_neg (by omega), if_neg (by omega)]
  exact h k hk0 (by omega)
theorem swp_last {xs : List Int} (h0 : 0 < xs.length) : hat (swp xs 0 (xs.length - 1)) (xs.length - 1) = hat xs 0 := by rw [hat_swp h0 (by omega), if_pos rfl]
theorem hat_take {xs : List Int} {n k : Nat} (h : k < n) : hat (xs.take n) k = hat xs k := by simp [hat, List.getD, List.getElem?_take, h]
theorem heapN_take {ys : List Int} {n : Nat} (h : HeapN ys n) (hn : n ≤ ys.length) : IsHeap (ys.take n) := fun k h0 hk => by
  rw [List.length_take] at hk
  rw [hat_take (by omega), hat_take (by omega)]
  exact h k h0 (by omega)
theorem pop_perm {xs ys : List Int} (h0 : 0 < ys.length) (hp : ys.Perm xs) {z : Int} (hz : hat ys (ys.length - 1) = z) : (z :: ys.take (ys.length - 1)).Perm xs := by
  refine List.Perm.trans ?_ hp
  have e : ys = ys.take (ys.length - 1) ++ [z] := by
    have h1 := take_snoc (get_hat (xs := ys) (k := ys.length - 1) (by omega))
    rw [show ys.length - 1 + 1 = ys.length from by omega, List.take_length] at h1
    rw [hz] at h1; exact h1
  have h2 : (z :: ys.take (ys.length - 1)).Perm (ys.take (ys.length - 1) ++ [z]) := (List.perm_append_singleton z _).symm
  rwa [← e] at h2
theorem heap_nil : IsHeap [] := fun k h0 hk => by simp at hk
/-- Numbers that ascend from above one number up to another. -/
def asc : Int → Int → List Int → Bool
  | _, _, [] => true
  | b, l, x :: r => decide (b < x) && decide (x ≤ l) && asc x l r
theorem asc_all : ∀ {r : List Int} {b l z : Int}, asc b l r = true → z ∈ r → b < z
  | [], _, _, _, _, hz => by cases hz
  | x :: r, b, l, z, h, hz => by
    simp only [asc, Bool.and_eq_true, decide_eq_true_eq] at h
    rcases List.mem_cons.1 hz with rfl | hz
    · exact h.1.1
    · have := asc_all h.2 hz; omega
theorem hat_mem {xs : List Int} {k : Nat} (h : k < xs.length) : hat xs k ∈ xs := List.mem_of_getElem? (get_hat h)
theorem asc_bad1 {b l x : Int} {r ys : List Int} (hp : ys.Perm (x :: r)) (hh : IsHeap ys) (hne : hat ys 0 ≠ x) : false = asc b l (x :: r) := by
  symm; rw [Bool.eq_false_iff]
  intro h
  have h0 : 0 < ys.length := by rw [hp.length_eq]; simp
  have hm := hp.mem_iff.1 (hat_mem h0)
  simp only [asc, Bool.and_eq_true, decide_eq_true_eq] at h
  rcases List.mem_cons.1 hm with e | hm
  · exact hne e
  · have h1 := asc_all h.2 hm
    obtain ⟨k, hk⟩ := List.mem_iff_getElem?.1 (hp.mem_iff.2 (List.mem_cons_self (a := x) (l := r)))
    have h2 := heap_min hh k (List.getElem?_eq_some_iff.1 hk).1
    rw [hat_get hk] at h2
    omega
theorem asc_bad2 {b l x : Int} {r : List Int} (h : x ≤ b) : false = asc b l (x :: r) := by simp [asc, show ¬ b < x from by omega]
theorem asc_bad3 {b l x : Int} {r : List Int} (h : l < x) : false = asc b l (x :: r) := by simp [asc, show ¬ x ≤ l from by omega]
theorem asc_go {b l x : Int} {r : List Int} (h : ¬ x ≤ b) (h2 : ¬ l < x) : asc b l (x :: r) = asc x l r := by simp [asc, show b < x from by omega, show x ≤ l from by omega]
theorem scan_asc : ∀ {xs : List DItem} {b : Int} {l : Int}, l ≤ 99 → (match scanQ b xs with | some r => decide (r ≤ l) | none => false) = (decide (b ≤ l) && xs.all itemOk && asc b l (xs.map (·.id)))
  | [], b, l, _ => by simp [scanQ, asc]
  | x :: xs, b, l, hl => by
    have ih := scan_asc (xs := xs) (b := x.id) hl
    rw [scanQ, List.map_cons, List.all_cons, asc]
    by_cases h1 : b + 1 ≤ x.id
    · by_cases h2 : itemOk x = true
      · by_cases h3 : x.id ≤ 99
        · rw [if_pos ⟨⟨h1, h3⟩, h2⟩, ih, h2]
          by_cases h4 : x.id ≤ l
          · simp [h4, show b ≤ l from by omega, show b < x.id from by omega]
          · simp [h4]
        · rw [if_neg (fun h => h3 h.1.2)]
          simp [show ¬ x.id ≤ l from by omega]
      · rw [if_neg (fun h => h2 h.2)]
        simp [h2]
    · rw [if_neg (fun h => h1 h.1.1)]
      simp [show ¬ b < x.id from by omega]
theorem queueOk_asc (q : DQueue) : queueOk q = (decide (q.items.length ≤ 6) && decide (1 ≤ q.next) && decide (q.next ≤ 100) && q.items.all itemOk && asc 0 (q.next - 1) (q.items.map (·.id))) := by
  by_cases h : q.next ≤ 100
  · have := scan_asc (xs := q.items) (b := 0) (l := q.next - 1) (by omega)
    unfold queueOk
    cases hs : scanQ 0 q.items with
    | none =>
      rw [hs] at this
      simp only at this
      rw [Bool.eq_iff_iff]
      simp only [Bool.and_eq_true, decide_eq_true_eq, Bool.false_eq_true, false_iff]
      rintro ⟨⟨⟨⟨_, h1⟩, _⟩, h2⟩, h3⟩
      rw [h2, h3] at this
      simp at this; omega
    | some r =>
      rw [hs] at this
      simp only at this
      rw [Bool.eq_iff_iff] at this ⊢
      simp only [Bool.and_eq_true, decide_eq_true_eq] at this ⊢
      constructor
      · rintro ⟨⟨h1, h2⟩, h3⟩
        obtain ⟨⟨a, b⟩, c⟩ := this.1 (by omega)
        exact ⟨⟨⟨⟨h3, by omega⟩, h⟩, b⟩, c⟩
      · rintro ⟨⟨⟨⟨h1, h2⟩, h3⟩, h4⟩, h5⟩
        have := this.2 ⟨⟨by omega, h4⟩, h5⟩
        omega
  · unfold queueOk
    cases scanQ 0 q.items <;> simp [h]
theorem all_no {α : Type} {p : α → Bool} {l : List α} {k : Nat} {x : α} (hx : l[k]? = some x) (h : p x = false) : l.all p = false := by
  rw [Bool.eq_false_iff]; intro hp
  rw [List.all_eq_true] at hp
  have := hp x (List.mem_of_getElem? hx)
  rw [h] at this; cases this
theorem all_up {α : Type} {p : α → Bool} {l : List α} {k : Nat} {x : α} (hx : l[k]? = some x) (h : p x = true) (ha : (l.take k).all p = true) : (l.take (k + 1)).all p = true := by
  rw [take_snoc hx, List.all_append, ha]; simp [h]
theorem queueOk_bad {q : DQueue} {k : Nat} {x : DItem} (hx : q.items[k]? = some x) (h : itemOk x = false) : false = queueOk q := by
  rw [queueOk_asc, all_no hx h]; simp
theorem queueOk_end {q : DQueue} {k : Nat} (hk : ¬ (k : Int) < q.items.length) (ha : (q.items.take k).all itemOk = true) (h6 : q.items.length ≤ 6) (h1 : 1 ≤ q.next) (h2 : q.next ≤ 100) : asc 0 (q.next - 1) (q.items.map (·.id)) = queueOk q := by
  rw [List.take_of_length_le (by omega)] at ha
  rw [queueOk_asc, ha]; simp [h6, h1, h2]
theorem addQ_true {q : DQueue} {x : DLetter} (h : (addQ q x).2 = true) : (addQ q x).1 = ⟨q.next + 1, q.items ++ [⟨q.next, x.fr, x.text, x.to_⟩]⟩ ∧ queueOk q = true ∧ letterOk x = true ∧ q.items.length < 6 ∧ q.next ≤ 99 := by
  unfold addQ at h ⊢
  by_cases h1 : queueOk q = true ∧ letterOk x = true
  · rw [if_pos h1] at h ⊢
    by_cases h2 : 6 ≤ q.items.length ∨ 99 < q.next
    · rw [if_pos h2] at h; cases h
    · rw [if_neg h2]; exact ⟨rfl, h1.1, h1.2, by omega, by omega⟩
  · rw [if_neg h1] at h; cases h
theorem scan_app : ∀ {xs : List DItem} {b r : Int} {y : DItem}, scanQ b xs = some r → r + 1 ≤ y.id → y.id ≤ 99 → itemOk y = true → scanQ b (xs ++ [y]) = some y.id
  | [], b, r, y, h, h1, h2, h3 => by
    simp only [scanQ, Option.some.injEq] at h; subst h
    simp only [List.nil_append, scanQ, if_pos (And.intro (And.intro h1 h2) h3)]
  | x :: xs, b, r, y, h, h1, h2, h3 => by
    rw [scanQ] at h
    split at h
    · rename_i hc
      rw [List.cons_append, scanQ, if_pos hc]; exact scan_app h h1 h2 h3
    · cases h
theorem addQ_valid {q : DQueue} {x : DLetter} (h : (addQ q x).2 = true) : queueOk (addQ q x).1 = true := by
  obtain ⟨he, hq, hx, h6, h9⟩ := addQ_true h
  rw [he]
  unfold queueOk at hq ⊢
  split at hq
  · rename_i last hs
    simp only [Bool.and_eq_true, decide_eq_true_eq] at hq
    have := scan_app (y := ⟨q.next, x.fr, x.text, x.to_⟩) hs (by simp only []; omega) h9 hx
    rw [this]
    simp only [Bool.and_eq_true, decide_eq_true_eq, List.length_append, List.length_singleton]
    omega
  · cases hq
theorem addQ_false {q : DQueue} {x : DLetter} (h : (addQ q x).2 = false) (hq : queueOk q = true) (hx : letterOk x = true) : (addQ q x).1 = q ∧ (q.items.length = 6 ∨ 99 < q.next) := by
  unfold addQ at h ⊢
  rw [if_pos ⟨hq, hx⟩] at h ⊢
  have hn := queueOk_next hq
  by_cases h2 : 6 ≤ q.items.length ∨ 99 < q.next
  · rw [if_pos h2]; exact ⟨rfl, by omega⟩
  · rw [if_neg h2] at h; cases h
def somebodyL : List Str := [[97, 109, 121], [98, 111, 98], [99, 121, 100], [100, 97, 110]]
theorem addQ_le {q : DQueue} {x : DLetter} (h : q.items.length ≤ 2000000) : (addQ q x).1.items.length ≤ 2000000 := by
  unfold addQ
  split
  · split
    · exact h
    · simp; omega
  · exact Nat.zero_le _
def cntQ (xs : List DItem) (u : Str) : Nat := xs.countP fun x => decide (u ∈ x.left)
def leftQ (q : DQueue) (u : Str) : Int := if queueOk q = true then (cntQ q.items u : Int) else -1
theorem cntQ_in {xs : List DItem} {u : Str} {y : DItem} (h : u ∈ y.left) : cntQ (xs ++ [y]) u = cntQ xs u + 1 := by simp [cntQ, h]
theorem cntQ_no {xs : List DItem} {u : Str} {y : DItem} (h : ¬ u ∈ y.left) : cntQ (xs ++ [y]) u = cntQ xs u := by simp [cntQ, h]
theorem cntQ_le (xs : List DItem) (u : Str) : cntQ xs u ≤ xs.length := List.countP_le_length
theorem leftQ_bad {q : DQueue} {u : Str} (h : queueOk q = false) : leftQ q u = -1 := by simp [leftQ, h]
theorem leftQ_ok {q : DQueue} {u : Str} (h : queueOk q = true) : leftQ q u = (cntQ q.items u : Int) := by simp [leftQ, h]
theorem leftQ_add {q : DQueue} {x : DLetter} (h : (addQ q x).2 = true) (u : Str) : leftQ (addQ q x).1 u = leftQ q u + (if u ∈ x.to_ then 1 else 0) := by
  obtain ⟨he, hq, _⟩ := addQ_true h
  rw [leftQ_ok hq, leftQ_ok (addQ_valid h), he]
  by_cases hu : u ∈ x.to_
  · rw [if_pos hu]; simp [cntQ, hu]
  · rw [if_neg hu]; simp [cntQ, hu]
theorem leftQ_bd (q : DQueue) (u : Str) (h : q.items.length ≤ 2000000) : -1 ≤ leftQ q u ∧ leftQ q u ≤ 2000000 := by
  unfold leftQ
  have := cntQ_le q.items u
  split <;> omega
structure QLf where
  p : Option Addr
  ys : List DItem
  xs : List DItem
  cells : Cells
theorem letterOk_to {x : DLetter} (h : letterOk x = true) : x.to_.length ≤ 3 := by
  simp only [letterOk, namesOk, Bool.and_eq_true, decide_eq_true_eq] at h; exact h.1.1.2.2
/-! ### plain: a copy is taken from a valid queue -/
theorem asc_lt : ∀ {ids : List Int} {b l : Int}, asc b l ids = true → ids.Nodup
  | [], _, _, _ => by simp
  | x :: r, b, l, h => by
    simp only [asc, Bool.and_eq_true, decide_eq_true_eq] at h
    rw [List.nodup_cons]
    exact ⟨fun hm => by have := asc_all h.2 hm; omega, asc_lt h.2⟩
theorem queueOk_ids {q : DQueue} (h : queueOk q = true) : (q.items.map (·.id)).Nodup := by
  rw [queueOk_asc] at h
  simp only [Bool.and_eq_true] at h
  exact asc_lt h.2
theorem queueOk_item {q : DQueue} (h : queueOk q = true) {x : DItem} (hx : x ∈ q.items) : itemOk x = true := by
  rw [queueOk_asc] at h
  simp only [Bool.and_eq_true] at h
  exact List.all_eq_true.1 h.1.2 x hx
theorem itemOk_left {x : DItem} (h : itemOk x = true) : 0 < x.left.length ∧ x.left.Nodup := by
  simp only [itemOk, letterOk, namesOk, Bool.and_eq_true, decide_eq_true_eq] at h
  exact ⟨h.1.2, h.1.1.2.1.2⟩
theorem takeItem_not {id : Int} {u : Str} {x : DItem} (h : ¬ (x.id = id ∧ u ∈ x.left)) : takeItem id u x = x := by rw [takeItem, if_neg h]
theorem takeF_not {id : Int} {u : Str} : ∀ {xs : List DItem} {s : Str × Bool}, (∀ x, x ∈ xs → ¬ (x.id = id ∧ u ∈ x.left)) → xs.foldl (takeStep id u) s = s
  | [], _, _ => rfl
  | x :: xs, s, h => by
    rw [List.foldl_cons, takeStep, if_neg (h x (List.mem_cons_self ..))]
    exact takeF_not fun y hy => h y (List.mem_cons_of_mem _ hy)
theorem takeL_not {id : Int} {u : Str} {xs : List DItem} (h : ∀ x, x ∈ xs → ¬ (x.id = id ∧ u ∈ x.left)) (hl : ∀ x, x ∈ xs → 0 < x.left.length) : takeL id u xs = xs := by
  have e : xs.map (takeItem id u) = xs := by
    conv => rhs; rw [← List.map_id xs]
    exact List.map_congr_left fun x hx => takeItem_not (h x hx)
  rw [takeL, e]
  exact List.filter_eq_self.2 fun x hx => by simpa using hl x hx
theorem takeQ_no {q : DQueue} {id : Int} {u : Str} (hq : queueOk q = true) (h : ∀ x, x ∈ q.items → ¬ (x.id = id ∧ u ∈ x.left)) : qTake q id u = (q, [], false) := by
  rw [qTake, if_pos hq, takeQ, takeL_not h (fun x hx => (itemOk_left (queueOk_item hq hx)).1), takeF, takeF_not h]
theorem ids_apart {q : DQueue} (hq : queueOk q = true) {pre ys : List DItem} {y : DItem} (hs : pre ++ y :: ys = q.items) : (∀ x, x ∈ pre → x.id ≠ y.id) ∧ ∀ x, x ∈ ys → x.id ≠ y.id := by
  have h := queueOk_ids hq
  rw [← hs, List.map_append, List.map_cons, List.nodup_append] at h
  obtain ⟨_, h2, h3⟩ := h
  rw [List.nodup_cons] at h2
  refine ⟨fun x hx => h3 _ (List.mem_map.2 ⟨x, hx, rfl⟩) _ (List.mem_cons_self ..), fun x hx e => h2.1 (List.mem_map.2 ⟨x, hx, e⟩)⟩
theorem takeQ_miss {q : DQueue} (hq : queueOk q = true) {pre ys : List DItem} {y : DItem} (hs : pre ++ y :: ys = q.items) {u : Str} (hu : ¬ u ∈ y.left) : qTake q y.id u = (q, [], false) := by
  obtain ⟨h1, h2⟩ := ids_apart hq hs
  refine takeQ_no hq fun x hx ⟨e1, e2⟩ => ?_
  rw [← hs] at hx
  rcases List.mem_append.1 hx with hx | hx
  · exact h1 x hx e1
  · rcases List.mem_cons.1 hx with rfl | hx
    · exact hu e2
    · exact h2 x hx e1
theorem takeQ_found {q : DQueue} (hq : queueOk q = true) {pre ys : List DItem} {y : DItem} (hs : pre ++ y :: ys = q.items) {u : Str} (hu : u ∈ y.left) :
    qTake q y.id u = (⟨q.next, pre ++ (if 0 < (without y.left u).length then ⟨y.id, y.fr, y.text, without y.left u⟩ :: ys else ys)⟩, y.text, true) := by
  obtain ⟨h1, h2⟩ := ids_apart hq hs
  have hl : ∀ x, x ∈ q.items → 0 < x.left.length := fun x hx => (itemOk_left (queueOk_item hq hx)).1
  have n1 : ∀ x, x ∈ pre → ¬ (x.id = y.id ∧ u ∈ x.left) := fun x hx e => h1 x hx e.1
  have n2 : ∀ x, x ∈ ys → ¬ (x.id = y.id ∧ u ∈ x.left) := fun x hx e => h2 x hx e.1
  have l1 := takeL_not n1 (fun x hx => hl x (by rw [← hs]; exact List.mem_append_left _ hx))
  have l2 := takeL_not n2 (fun x hx => hl x (by rw [← hs]; exact List.mem_append_right _ (List.mem_cons_of_mem _ hx)))
  rw [qTake, if_pos hq, takeQ, ← hs]
  unfold takeL at l1 l2 ⊢
  unfold takeF
  rw [List.foldl_append, takeF_not n1, List.foldl_cons, takeF_not n2, takeStep, if_pos ⟨rfl, hu⟩, List.map_append, List.map_cons, List.filter_append, l1, takeItem_hit rfl hu, List.filter_cons, l2]
  simp only [decide_eq_true_eq]
theorem without_idx : ∀ {xs : List Str} {u : Str} {i : Nat}, xs.Nodup → xs[i]? = some u → without xs u = xs.take i ++ xs.drop (i + 1)
  | [], _, _, _, h => by simp at h
  | x :: xs, u, 0, hn, h => by
    simp only [List.getElem?_cons_zero, Option.some.injEq] at h; subst h
    rw [List.nodup_cons] at hn
    simp only [without, List.filter_cons, ne_eq, not_true_eq_false, decide_false, Bool.false_eq_true, if_false, List.take_zero, List.nil_append, Nat.zero_add, List.drop_succ_cons, List.drop_zero]
    refine List.filter_eq_self.2 fun y hy => ?_
    have hne : y ≠ x := fun e => hn.1 (e ▸ hy)
    simpa using hne
  | x :: xs, u, i + 1, hn, h => by
    rw [List.nodup_cons] at hn
    have h' : xs[i]? = some u := by simpa using h
    have hne : x ≠ u := fun e => hn.1 (e ▸ List.mem_of_getElem? h')
    have := without_idx hn.2 h'
    unfold without at this ⊢
    simp only [List.filter_cons, ne_eq, hne, not_false_eq_true, decide_true, if_true, List.take_succ_cons, List.drop_succ_cons, List.cons_append]
    rw [← this]
theorem idxS_get {xs : List Str} {u : Str} (h : 0 ≤ idxS xs u) : ∃ k : Nat, idxS xs u = k ∧ xs[k]? = some u := by
  unfold idxS idxP at h ⊢
  cases hf : xs.findIdx? (fun x => decide (x = u)) with
  | none => simp only [List.findIdx?_eq_none_iff.1 hf, hf] at h; omega
  | some i =>
    refine ⟨i, rfl, ?_⟩
    rw [List.findIdx?_eq_some_iff_getElem] at hf
    obtain ⟨hi, hp, _⟩ := hf
    rw [List.getElem?_eq_getElem hi]
    simpa using hp
theorem take_false {q : DQueue} {id : Int} {u : Str} (hq : queueOk q = true) (h : (qTake q id u).2.2 = false) : (∀ x, x ∈ q.items → ¬ (x.id = id ∧ u ∈ x.left)) ∧ qTake q id u = (q, [], false) := by
  by_cases hx : ∀ x, x ∈ q.items → ¬ (x.id = id ∧ u ∈ x.left)
  · exact ⟨hx, takeQ_no hq hx⟩
  · simp only [Classical.not_forall, Classical.not_not] at hx
    obtain ⟨y, hy, hi, hu⟩ := hx
    obtain ⟨pre, ys, hs⟩ := List.append_of_mem hy
    rw [← hi, takeQ_found hq hs.symm hu] at h; cases h
theorem take_true {q : DQueue} {id : Int} {u : Str} (h : (qTake q id u).2.2 = true) : queueOk q = true ∧ ∃ pre y ys, pre ++ y :: ys = q.items ∧ y.id = id ∧ u ∈ y.left ∧
    qTake q id u = (⟨q.next, pre ++ (if 0 < (without y.left u).length then ⟨y.id, y.fr, y.text, without y.left u⟩ :: ys else ys)⟩, y.text, true) := by
  have hq : queueOk q = true := by
    cases hq : queueOk q with
    | true => rfl
    | false => simp [qTake, hq] at h
  refine ⟨hq, ?_⟩
  by_cases hx : ∀ x, x ∈ q.items → ¬ (x.id = id ∧ u ∈ x.left)
  · rw [takeQ_no hq hx] at h; cases h
  · simp only [Classical.not_forall, Classical.not_not] at hx
    obtain ⟨y, hy, hi, hu⟩ := hx
    obtain ⟨pre, ys, hs⟩ := List.append_of_mem hy
    exact ⟨pre, y, ys, hs.symm, hi, hu, by rw [← hi]; exact takeQ_found hq hs.symm hu⟩
theorem asc_mono : ∀ {ids : List Int} {b b' l : Int}, b' ≤ b → asc b l ids = true → asc b' l ids = true
  | [], _, _, _, _, _ => rfl
  | x :: r, b, b', l, hb, h => by
    simp only [asc, Bool.and_eq_true, decide_eq_true_eq] at h ⊢
    exact ⟨⟨by omega, h.1.2⟩, h.2⟩
theorem asc_cut : ∀ {a c : List Int} {b l x : Int}, asc b l (a ++ x :: c) = true → asc b l (a ++ c) = true
  | [], c, b, l, x, h => by
    simp only [List.nil_append, asc, Bool.and_eq_true, decide_eq_true_eq] at h ⊢
    exact asc_mono (by omega) h.2
  | y :: a, c, b, l, x, h => by
    simp only [List.cons_append, asc, Bool.and_eq_true, decide_eq_true_eq] at h ⊢
    exact ⟨h.1, asc_cut h.2⟩
theorem itemOk_without {y : DItem} {u : Str} (h : itemOk y = true) (h0 : 0 < (without y.left u).length) : itemOk ⟨y.id, y.fr, y.text, without y.left u⟩ = true := by
  simp only [itemOk, letterOk, namesOk, Bool.and_eq_true, decide_eq_true_eq, List.all_eq_true] at h ⊢
  obtain ⟨⟨⟨h1, ⟨h2, h3⟩, h4⟩, h5⟩, h6⟩ := h
  have := without_len y.left u
  exact ⟨⟨⟨h1, ⟨fun x hx => h2 x (List.mem_filter.1 hx).1, h3.filter _⟩, by omega⟩, h0⟩, h6⟩
theorem take_valid {q : DQueue} {id : Int} {u : Str} (h : (qTake q id u).2.2 = true) : queueOk (qTake q id u).1 = true := by
  obtain ⟨hq, pre, y, ys, hs, hi, hu, he⟩ := take_true h
  rw [he]
  have hq' := hq
  rw [queueOk_asc, ← hs] at hq'
  rw [queueOk_asc]
  simp only [Bool.and_eq_true, decide_eq_true_eq, List.length_append, List.length_cons, List.all_append, List.all_cons, List.map_append, List.map_cons] at hq' ⊢
  obtain ⟨⟨⟨⟨h6, h1⟩, h2⟩, h3, h4, h5⟩, ha⟩ := hq'
  by_cases h0 : 0 < (without y.left u).length
  · rw [if_pos h0]
    simp only [List.length_cons, List.all_cons, List.map_cons, Bool.and_eq_true]
    exact ⟨⟨⟨⟨by omega, h1⟩, h2⟩, h3, itemOk_without h4 h0, h5⟩, ha⟩
  · rw [if_neg h0]
    exact ⟨⟨⟨⟨by omega, h1⟩, h2⟩, h3, h5⟩, asc_cut ha⟩
theorem take_again {q : DQueue} {id : Int} {u : Str} (h : (qTake q id u).2.2 = true) : qTake (qTake q id u).1 id u = ((qTake q id u).1, [], false) := by
  refine takeQ_no (take_valid h) fun x hx => ?_
  obtain ⟨hq, pre, y, ys, hs, rfl, hu, he⟩ := take_true h
  obtain ⟨a1, a2⟩ := ids_apart hq hs
  rw [he] at hx
  rintro ⟨e1, e2⟩
  rcases List.mem_append.1 hx with hx | hx
  · exact a1 x hx e1
  · split at hx
    · rcases List.mem_cons.1 hx with rfl | hx
      · simp [without] at e2
      · exact a2 x hx e1
    · exact a2 x hx e1
theorem mem_without {xs : List Str} {u w : Str} (h : w ≠ u) : (w ∈ without xs u) ↔ w ∈ xs := by simp [without, h]
theorem leftQ_take {q : DQueue} {id : Int} {u : Str} (h : (qTake q id u).2.2 = true) (w : Str) : leftQ (qTake q id u).1 w = leftQ q w - (if w = u then 1 else 0) := by
  rw [leftQ_ok (take_valid h)]
  obtain ⟨hq, pre, y, ys, hs, rfl, hu, he⟩ := take_true h
  rw [leftQ_ok hq, he, ← hs]
  by_cases hw : w = u
  · subst hw
    rw [if_pos rfl]
    by_cases h0 : 0 < (without y.left w).length
    · rw [if_pos h0]; simp [cntQ, hu, without]; omega
    · rw [if_neg h0]; simp [cntQ, hu]; omega
  · rw [if_neg hw]
    by_cases h0 : 0 < (without y.left u).length
    · rw [if_pos h0]; simp [cntQ, mem_without hw, List.countP_cons]
    · rw [if_neg h0]
      have hno : ¬ w ∈ y.left := fun hm => by
        have h1 := (mem_without (u := u) hw).2 hm
        have h2 := List.length_pos_iff.2 (List.ne_nil_of_mem h1)
        exact h0 h2
      simp [cntQ, hno]
theorem take_next {q : DQueue} {id : Int} {u : Str} (h : (qTake q id u).2.2 = true) : (qTake q id u).1.next = q.next := by
  obtain ⟨hq, pre, y, ys, hs, rfl, hu, he⟩ := take_true h
  rw [he]
theorem take_item {q : DQueue} {id : Int} {u : Str} (h : (qTake q id u).2.2 = true) {x : DItem} (hx : x ∈ q.items) (he : x.id = id) : x.text = (qTake q id u).2.1 ∧ u ∈ x.left := by
  obtain ⟨hq, pre, y, ys, hs, rfl, hu, e⟩ := take_true h
  obtain ⟨a1, a2⟩ := ids_apart hq hs
  rw [← hs] at hx
  rcases List.mem_append.1 hx with hx | hx
  · exact absurd he (a1 x hx)
  · rcases List.mem_cons.1 hx with rfl | hx
    · rw [e]; exact ⟨rfl, hu⟩
    · exact absurd he (a2 x hx)
theorem take_some {q : DQueue} {id : Int} {u : Str} (h : (qTake q id u).2.2 = true) : ∃ x, x ∈ q.items ∧ x.id = id := by
  obtain ⟨hq, pre, y, ys, hs, rfl, hu, e⟩ := take_true h
  exact ⟨y, by rw [← hs]; simp, rfl⟩
theorem qTake_le {q : DQueue} {id : Int} {u : Str} (h : q.items.length ≤ 2000000) : (qTake q id u).1.items.length ≤ 2000000 := Nat.le_trans (qTake_len q id u) h
/-- What is left of a letter that has just been added, once its first copies are taken. -/
def leftOf (q : DQueue) (x : DLetter) (k : Nat) : DQueue := if k < x.to_.length then ⟨q.next + 1, q.items ++ [⟨q.next, x.fr, x.text, x.to_.drop k⟩]⟩ else ⟨q.next + 1, q.items⟩
theorem leftOf_0 {q : DQueue} {x : DLetter} (h : (addQ q x).2 = true) : leftOf q x 0 = (addQ q x).1 := by
  obtain ⟨he, _, hx, _⟩ := addQ_true h
  have : 0 < x.to_.length := by simp only [letterOk, Bool.and_eq_true, decide_eq_true_eq] at hx; exact hx.1.2
  rw [leftOf, if_pos this, he]; rfl
theorem leftOf_end {q : DQueue} {x : DLetter} {k : Nat} (h : ¬ (k : Int) < x.to_.length) : leftOf q x k = ⟨q.next + 1, q.items⟩ := by rw [leftOf, if_neg (by omega)]
theorem leftOf_step {q : DQueue} {x : DLetter} {k : Nat} {u : Str} (hv : queueOk (leftOf q x k) = true) (hn : x.to_.Nodup) (hu : x.to_[k]? = some u) : qTake (leftOf q x k) q.next u = (leftOf q x (k + 1), x.text, true) := by
  have hk : k < x.to_.length := (List.getElem?_eq_some_iff.1 hu).1
  have e0 : leftOf q x k = ⟨q.next + 1, q.items ++ [⟨q.next, x.fr, x.text, x.to_.drop k⟩]⟩ := by rw [leftOf, if_pos hk]
  have hd : x.to_.drop k = u :: x.to_.drop (k + 1) := dropCons hu
  have hn2 : (x.to_.drop k).Nodup := hn.sublist (List.drop_sublist _ _)
  have hw : without (x.to_.drop k) u = x.to_.drop (k + 1) := by
    have := without_idx (i := 0) hn2 (by rw [hd]; rfl)
    rw [this, hd]; simp
  have := takeQ_found (u := u) hv (pre := q.items) (y := ⟨q.next, x.fr, x.text, x.to_.drop k⟩) (ys := []) (by rw [e0]) (by simp only []; rw [hd]; simp)
  simp only [] at this
  have en : (leftOf q x k).next = q.next + 1 := by rw [e0]
  rw [this, hw, en]
  by_cases h2 : k + 1 < x.to_.length
  · rw [if_pos (by rw [List.length_drop]; omega), leftOf, if_pos h2]
  · rw [if_neg (by rw [List.length_drop]; omega), leftOf, if_neg h2]; simp
theorem leftOf_valid {q : DQueue} {x : DLetter} (h : (addQ q x).2 = true) (hn : x.to_.Nodup) : ∀ k, k ≤ x.to_.length → queueOk (leftOf q x k) = true
  | 0, _ => by rw [leftOf_0 h]; exact addQ_valid h
  | k + 1, hk => by
    have ih := leftOf_valid h hn k (by omega)
    obtain ⟨u, hu⟩ := getLt (xs := x.to_) (i := k) (by omega)
    have hs := leftOf_step ih hn hu
    have := take_valid (q := leftOf q x k) (id := q.next) (u := u) (by rw [hs])
    rwa [hs] at this
theorem letterOk_nd {x : DLetter} (h : letterOk x = true) : x.to_.Nodup := by
  simp only [letterOk, namesOk, Bool.and_eq_true, decide_eq_true_eq] at h; exact h.1.1.2.1.2
theorem leftOf_le {q : DQueue} {x : DLetter} {k : Nat} (h : q.items.length ≤ 6) : (leftOf q x k).items.length ≤ 7 := by
  unfold leftOf; split
  · simp; omega
  · exact Nat.le_trans h (by omega)
def lefto (q : DQueue) (x : DLetter) : Nat → DQueue
  | 0 => (addQ q x).1
  | k + 1 => leftOf q x (k + 1)
theorem lefto_eq {q : DQueue} {x : DLetter} (h : (addQ q x).2 = true) : ∀ k, lefto q x k = leftOf q x k
  | 0 => (leftOf_0 h).symm
  | _ + 1 => rfl
structure QN where
  k : Nat
  a : Option Addr
  c : Nat
end Go.BL
