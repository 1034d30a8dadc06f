/-
  WHAT THE FUNCTIONS THAT THE LAWS REACH COMPUTE: each function's contract, proved off its printed body (the text is written by program). No condition beyond those that each theorem states.
-/
import Derived.Test.YtaecpljcldlagaaRows
import Derived.Test.YtaecpljcldlagaaBLKit
import Derived.Test.YtaecpljcldlagaaBLLone
import Derived.KernelRfl

namespace Go.Proofs.Ytaecpljcldlagaa
open Go.BL
set_option linter.unusedVariables false
set_option linter.unusedSimpArgs false
def nameB (c : UInt8) : Bool := (decide (97 ≤ c.toNat) && decide (c.toNat ≤ 122)) || (decide (48 ≤ c.toNat) && decide (c.toNat ≤ 57))
def nameOk (l : List UInt8) : Bool := l.all nameB && decide (1 ≤ l.length) && decide (l.length ≤ 8)
theorem all_stop {l : List UInt8} {k : Nat} {c : UInt8} (hc : l[k]? = some c) (h : nameB c = false) : l.all nameB = false := by
  rw [Bool.eq_false_iff]; intro ha
  have := List.all_eq_true.1 ha c (List.mem_of_getElem? hc)
  rw [h] at this; cases this
theorem all_step {l : List UInt8} {k : Nat} {c : UInt8} (hc : l[k]? = some c) (h : nameB c = true) (ha : (l.take k).all nameB = true) : (l.take (k + 1)).all nameB = true := by
  rw [List.take_add_one, hc]; simp only [Option.toList_some, List.all_append, ha, List.all_cons, h, List.all_nil]; rfl
/-- The bytes of a name from a place on. -/
def word (l : List UInt8) (i : Nat) : List UInt8 := (l.drop i).takeWhile nameB
def wordOk (w : List UInt8) : Bool := decide (1 ≤ w.length) && decide (w.length ≤ 8)
theorem some_true {o : Option UInt8} {f : UInt8 → Bool} (h : (match o with | some c => f c | none => false) = true) : ∃ c, o = some c ∧ f c = true := by
  cases o with
  | none => cases h
  | some c => exact ⟨c, rfl, h⟩
theorem lt_of_get {α : Type} {l : List α} {k : Nat} {c : α} (h : l[k]? = some c) : k < l.length := (List.getElem?_eq_some_iff.1 h).1
theorem takeWhile_end {p : UInt8 → Bool} : ∀ {m : List UInt8} {k : Nat}, (m.take k).all p = true → (∀ c, m[k]? = some c → p c = false) → m.takeWhile p = m.take k
  | [], k, _, _ => by simp
  | c :: m, 0, _, h => by simp [List.takeWhile, h c rfl]
  | c :: m, k + 1, ha, h => by
    simp only [List.take_succ_cons, List.all_cons, Bool.and_eq_true] at ha
    simp only [List.takeWhile, ha.1, List.take_succ_cons]
    rw [takeWhile_end ha.2 (fun c hc => h c (by simpa using hc))]
theorem word_end {l : List UInt8} {i k : Nat} (ha : ((l.drop i).take k).all nameB = true) (h : ∀ c, l[i + k]? = some c → nameB c = false) : word l i = (l.drop i).take k :=
  takeWhile_end ha (fun c hc => h c (by simpa using hc))
theorem drop_take_word {l : List UInt8} {i k : Nat} : (l.take (i + k)).drop i = (l.drop i).take k := by
  rw [List.drop_take, Nat.add_sub_cancel_left]
theorem two_eq {a b c d : Value} (h : a = c) (h' : b = d) : Value.tuple #[a, b] = Value.tuple #[c, d] := by rw [h, h']
/-- The names that follow, each behind a dot: are they well, and where they end. -/
def more : Nat → List UInt8 → Nat → Bool × Nat
  | 0, _, i => (true, i)
  | n + 1, l, i => if l[i]? = some 46 then (if wordOk (word l (i + 1)) = true then more n l (i + 1 + (word l (i + 1)).length) else (false, i + 1 + (word l (i + 1)).length)) else (true, i)
def dom (l : List UInt8) (i : Nat) : Bool × Nat := if wordOk (word l i) = true then more 2 l (i + (word l i).length) else (false, i + (word l i).length)
def domText (l : List UInt8) (i : Nat) : List UInt8 := if (dom l i).1 = true then (l.take (dom l i).2).drop i else []
def domOk (l : List UInt8) (i : Nat) : Bool := (dom l i).1 && decide ((dom l i).2 - i ≤ 20)
theorem dom_bad {l : List UInt8} {i : Nat} (h : wordOk (word l i) = false) : dom l i = (false, i + (word l i).length) := by simp [dom, h]
theorem dom_good {l : List UInt8} {i : Nat} (h : wordOk (word l i) = true) : dom l i = more 2 l (i + (word l i).length) := by simp [dom, h]
theorem word_le {l : List UInt8} {i : Nat} (h : i ≤ l.length) : i + (word l i).length ≤ l.length := by
  have := List.IsPrefix.length_le (List.takeWhile_prefix nameB (l := l.drop i))
  rw [List.length_drop] at this
  unfold word; omega
theorem more_stop {l : List UInt8} {n j : Nat} (h : ¬ l[j]? = some 46) : more n l j = (true, j) := by
  cases n with
  | zero => rfl
  | succ n => rw [more, if_neg h]
theorem more_bad {l : List UInt8} {n j : Nat} (hn : 1 ≤ n) (h : l[j]? = some 46) (hw : wordOk (word l (j + 1)) = false) : more n l j = (false, j + 1 + (word l (j + 1)).length) := by
  cases n with
  | zero => omega
  | succ n => rw [more, if_pos h, if_neg (by simp [hw])]
theorem more_good {l : List UInt8} {n j : Nat} (hn : 1 ≤ n) (h : l[j]? = some 46) (hw : wordOk (word l (j + 1)) = true) : more n l j = more (n - 1) l (j + 1 + (word l (j + 1)).length) := by
  cases n with
  | zero => omega
  | succ n => rw [more, if_pos h, if_pos hw]; rfl
theorem takeWhile_len {p : UInt8 → Bool} : ∀ l : List UInt8, (l.takeWhile p).length = l.length ↔ l.all p = true
  | [] => by simp
  | c :: l => by
    have h := takeWhile_len (p := p) l
    cases hc : p c with
    | true => simp [List.takeWhile, hc] at h ⊢; exact h
    | false => simp [List.takeWhile, hc]
theorem nameOk_word {l : List UInt8} : nameOk l = (wordOk (word l 0) && decide ((word l 0).length = l.length)) := by
  have h := takeWhile_len (p := nameB) l
  have e : word l 0 = l.takeWhile nameB := by simp [word]
  rw [Bool.eq_iff_iff]
  simp only [nameOk, wordOk, e, Bool.and_eq_true, decide_eq_true_eq]
  constructor
  · rintro ⟨⟨h1, h2⟩, h3⟩
    have := h.2 h1
    omega
  · rintro ⟨⟨h1, h2⟩, h3⟩
    exact ⟨⟨h.1 h3, by omega⟩, by omega⟩
theorem name_put {a b : List UInt8} {c : UInt8} (h : nameB c = false) : nameOk (a ++ [c] ++ b) = false := by
  simp [nameOk, h]
theorem en16 : enters Try.prog 16 = true := by kernel_rfl
theorem mo : Try.prog.follows .mixedOrders = true := by kernel_rfl
theorem fo35x1 : fieldOff Try.prog 35 1 = some 1 := by kernel_rfl
theorem lk3 : lk Try.prog 3 = some none := by kernel_rfl
theorem fo35x0 : fieldOff Try.prog 35 0 = some 0 := by kernel_rfl
theorem lk9 : lk Try.prog 9 = some none := by kernel_rfl
theorem en15 : enters Try.prog 15 = true := by kernel_rfl
theorem sz3 : sizeIs Try.prog 3 = some 1 := by kernel_rfl
theorem en23 : enters Try.prog 23 = true := by kernel_rfl
theorem en14 : enters Try.prog 14 = true := by kernel_rfl
theorem en24 : enters Try.prog 24 = true := by kernel_rfl
theorem pl35 : placesOf Try.prog 35 = some [(0, 1), (1, 1)] := by kernel_rfl
theorem zo35 : zeroOf Try.prog 35 = some (.agg #[.string ⟨#[]⟩, .int .i64 0]) := by kernel_rfl
theorem sz35 : sizeIs Try.prog 35 = some 2 := by kernel_rfl
theorem sz5 : sizeIs Try.prog 5 = some 1 := by kernel_rfl
theorem pl47 : placesOf Try.prog 47 = some [(0, 1), (1, 1)] := by kernel_rfl
theorem zo47 : zeroOf Try.prog 47 = some (.agg #[.slice none 0 0, .int .i64 0]) := by kernel_rfl
theorem fo47x1 : fieldOff Try.prog 47 1 = some 1 := by kernel_rfl
theorem fo47x0 : fieldOff Try.prog 47 0 = some 0 := by kernel_rfl
theorem lk22 : lk Try.prog 22 = some none := by kernel_rfl
theorem lk5 : lk Try.prog 5 = some none := by kernel_rfl
theorem en18 : enters Try.prog 18 = true := by kernel_rfl
theorem sz9 : sizeIs Try.prog 9 = some 1 := by kernel_rfl
theorem zo9 : zeroOf Try.prog 9 = some (.string ⟨#[]⟩) := by kernel_rfl
theorem en22 : enters Try.prog 22 = true := by kernel_rfl
theorem en13 : enters Try.prog 13 = true := by kernel_rfl
theorem en12 : enters Try.prog 12 = true := by kernel_rfl
theorem en5 : enters Try.prog 5 = true := by kernel_rfl
theorem en6 : enters Try.prog 6 = true := by kernel_rfl
theorem en7 : enters Try.prog 7 = true := by kernel_rfl
theorem en8 : enters Try.prog 8 = true := by kernel_rfl
abbrev cur (b : Nat) (l : List UInt8) (i : Nat) : Cells := box1 b [str l, .int .i64 i] 35
set_option maxHeartbeats 400000 in
theorem l6In_c (n lo hi : Int) (B : Kn) : RetB Try.prog 16 [.int .i64 n, .int .i64 lo, .int .i64 hi] B (.bool (decide (lo ≤ n) && decide (n ≤ hi))) := by
  refine callsB_body 15 Try.func16 rfl rfl rfl (Nat.le_of_ble_eq_true rfl) ?_
  refine w_seq_region ?_
  refine opW_x (w_assign rfl rfl rfl ?_)
  refine w_keep [(0, _), (1, _), (2, _), (6, _)] ⟨rfl, rfl, rfl, rfl, trivial⟩ ?_
  refine w_seq_region ?_
  refine opW_x (w_move rfl rfl rfl ?_)
  refine opW_x (w_move rfl rfl rfl ?_)
  refine opW_x (w_geq rfl rfl rfl rfl ?_)
  refine opW_x (w_move rfl rfl rfl ?_)
  refine r_split (d := 10) rfl (fun g1 => ?_) (fun g1 => ?_)
  · try simp only [decide_eq_true_eq, decide_eq_false_iff_not, Bool.not_eq_true', Bool.not_eq_false', decide_not, Decidable.not_not, Int.not_lt, Int.not_le, ne_eq] at g1
    refine opW_x (w_move rfl rfl rfl ?_)
    refine opW_x (w_move rfl rfl rfl ?_)
    refine opW_x (w_leq rfl rfl rfl rfl ?_)
    refine opW_x (w_pickT rfl rfl rfl rfl ?_)
    refine opW_x (w_assign rfl rfl rfl ?_)
    refine w_keep [(0, _), (1, _), (2, _), (6, _)] ⟨rfl, rfl, rfl, rfl, trivial⟩ ?_
    refine w_ret ?_
    exact end0 .ret (.inl rfl) [_] ⟨rfl, trivial⟩ ⟨by exact bool_eq (by rw [Bool.eq_iff_iff]; simp []; omega), rfl, rfl⟩
  · try simp only [decide_eq_true_eq, decide_eq_false_iff_not, Bool.not_eq_true', Bool.not_eq_false', decide_not, Decidable.not_not, Int.not_lt, Int.not_le, ne_eq] at g1
    refine opW_x (w_pass rfl rfl ?_)
    refine opW_x (w_pass rfl rfl ?_)
    refine opW_x (w_pass rfl rfl ?_)
    refine opW_x (w_pickF rfl rfl rfl rfl ?_)
    refine opW_x (w_assign rfl rfl rfl ?_)
    refine w_keep [(0, _), (1, _), (2, _), (6, _)] ⟨rfl, rfl, rfl, rfl, trivial⟩ ?_
    refine w_ret ?_
    exact end0 .ret (.inl rfl) [_] ⟨rfl, trivial⟩ ⟨by exact bool_eq (by rw [Bool.eq_iff_iff]; simp []; omega), rfl, rfl⟩

set_option maxHeartbeats 400000 in
theorem nameByte_c (c : UInt8) (B : Kn) : RetB Try.prog 23 [.int .u8 c.toNat] B (.bool (nameB c)) := by
  refine callsB_body 17 Try.func23 rfl rfl rfl (Nat.le_of_ble_eq_true rfl) ?_
  refine w_seq_region ?_
  refine opW_x (w_assign rfl rfl rfl ?_)
  refine w_keep [(0, _), (2, _)] ⟨rfl, rfl, trivial⟩ ?_
  refine w_seq_region ?_
  refine opW_x (w_move rfl rfl rfl ?_)
  refine opW_x (w_geq rfl rfl rfl rfl ?_)
  refine opW_x (w_move rfl rfl rfl ?_)
  refine r_split (d := 5) rfl (fun g1 => ?_) (fun g1 => ?_)
  · try simp only [decide_eq_true_eq, decide_eq_false_iff_not, Bool.not_eq_true', Bool.not_eq_false', decide_not, Decidable.not_not, Int.not_lt, Int.not_le, ne_eq] at g1
    refine opW_x (w_move rfl rfl rfl ?_)
    refine opW_x (w_leq rfl rfl rfl rfl ?_)
    refine opW_x (w_pickT rfl rfl rfl rfl ?_)
    refine opW_x (w_move rfl rfl rfl ?_)
    refine r_split (d := 9) rfl (fun g2 => ?_) (fun g2 => ?_)
    · try simp only [decide_eq_true_eq, decide_eq_false_iff_not, Bool.not_eq_true', Bool.not_eq_false', decide_not, Decidable.not_not, Int.not_lt, Int.not_le, ne_eq] at g2
      refine opW_x (w_pass rfl rfl ?_)
      refine opW_x (w_pass rfl rfl ?_)
      refine opW_x (w_pass rfl rfl ?_)
      refine opW_x (w_pass rfl rfl ?_)
      refine opW_x (w_pass rfl rfl ?_)
      refine opW_x (w_pass rfl rfl ?_)
      refine opW_x (w_pickT rfl rfl rfl rfl ?_)
      refine opW_x (w_assign rfl rfl rfl ?_)
      refine w_keep [(0, _), (2, _)] ⟨rfl, rfl, trivial⟩ ?_
      refine w_ret ?_
      exact end0 .ret (.inl rfl) [_] ⟨rfl, trivial⟩ ⟨by exact bool_eq (by rw [Bool.eq_iff_iff]; simp [nameB]; omega), rfl, rfl⟩
    · try simp only [decide_eq_true_eq, decide_eq_false_iff_not, Bool.not_eq_true', Bool.not_eq_false', decide_not, Decidable.not_not, Int.not_lt, Int.not_le, ne_eq] at g2
      refine opW_x (w_move rfl rfl rfl ?_)
      refine opW_x (w_geq rfl rfl rfl rfl ?_)
      refine opW_x (w_move rfl rfl rfl ?_)
      refine r_split (d := 12) rfl (fun g3 => ?_) (fun g3 => ?_)
      · try simp only [decide_eq_true_eq, decide_eq_false_iff_not, Bool.not_eq_true', Bool.not_eq_false', decide_not, Decidable.not_not, Int.not_lt, Int.not_le, ne_eq] at g3
        refine opW_x (w_move rfl rfl rfl ?_)
        refine opW_x (w_leq rfl rfl rfl rfl ?_)
        refine opW_x (w_pickT rfl rfl rfl rfl ?_)
        refine opW_x (w_pickF rfl rfl rfl rfl ?_)
        refine opW_x (w_assign rfl rfl rfl ?_)
        refine w_keep [(0, _), (2, _)] ⟨rfl, rfl, trivial⟩ ?_
        refine w_ret ?_
        exact end0 .ret (.inl rfl) [_] ⟨rfl, trivial⟩ ⟨by exact bool_eq (by rw [Bool.eq_iff_iff]; simp [nameB]; omega), rfl, rfl⟩
      · try simp only [decide_eq_true_eq, decide_eq_false_iff_not, Bool.not_eq_true', Bool.not_eq_false', decide_not, Decidable.not_not, Int.not_lt, Int.not_le, ne_eq] at g3
        refine opW_x (w_pass rfl rfl ?_)
        refine opW_x (w_pass rfl rfl ?_)
        refine opW_x (w_pickF rfl rfl rfl rfl ?_)
        refine opW_x (w_pickF rfl rfl rfl rfl ?_)
        refine opW_x (w_assign rfl rfl rfl ?_)
        refine w_keep [(0, _), (2, _)] ⟨rfl, rfl, trivial⟩ ?_
        refine w_ret ?_
        exact end0 .ret (.inl rfl) [_] ⟨rfl, trivial⟩ ⟨by exact bool_eq (by rw [Bool.eq_iff_iff]; simp [nameB]; omega), rfl, rfl⟩
  · try simp only [decide_eq_true_eq, decide_eq_false_iff_not, Bool.not_eq_true', Bool.not_eq_false', decide_not, Decidable.not_not, Int.not_lt, Int.not_le, ne_eq] at g1
    refine opW_x (w_pass rfl rfl ?_)
    refine opW_x (w_pass rfl rfl ?_)
    refine opW_x (w_pickF rfl rfl rfl rfl ?_)
    refine opW_x (w_move rfl rfl rfl ?_)
    refine opW_x (w_move rfl rfl rfl ?_)
    refine opW_x (w_geq rfl rfl rfl rfl ?_)
    refine opW_x (w_move rfl rfl rfl ?_)
    refine r_split (d := 12) rfl (fun g4 => ?_) (fun g4 => ?_)
    · try simp only [decide_eq_true_eq, decide_eq_false_iff_not, Bool.not_eq_true', Bool.not_eq_false', decide_not, Decidable.not_not, Int.not_lt, Int.not_le, ne_eq] at g4
      refine opW_x (w_move rfl rfl rfl ?_)
      refine opW_x (w_leq rfl rfl rfl rfl ?_)
      refine opW_x (w_pickT rfl rfl rfl rfl ?_)
      refine opW_x (w_pickF rfl rfl rfl rfl ?_)
      refine opW_x (w_assign rfl rfl rfl ?_)
      refine w_keep [(0, _), (2, _)] ⟨rfl, rfl, trivial⟩ ?_
      refine w_ret ?_
      exact end0 .ret (.inl rfl) [_] ⟨rfl, trivial⟩ ⟨by exact bool_eq (by rw [Bool.eq_iff_iff]; simp [nameB]; omega), rfl, rfl⟩
    · try simp only [decide_eq_true_eq, decide_eq_false_iff_not, Bool.not_eq_true', Bool.not_eq_false', decide_not, Decidable.not_not, Int.not_lt, Int.not_le, ne_eq] at g4
      refine opW_x (w_pass rfl rfl ?_)
      refine opW_x (w_pass rfl rfl ?_)
      refine opW_x (w_pickF rfl rfl rfl rfl ?_)
      refine opW_x (w_pickF rfl rfl rfl rfl ?_)
      refine opW_x (w_assign rfl rfl rfl ?_)
      refine w_keep [(0, _), (2, _)] ⟨rfl, rfl, trivial⟩ ?_
      refine w_ret ?_
      exact end0 .ret (.inl rfl) [_] ⟨rfl, trivial⟩ ⟨by exact bool_eq (by rw [Bool.eq_iff_iff]; simp [nameB]; omega), rfl, rfl⟩

set_option maxHeartbeats 400000 in
theorem specName_c (l : List UInt8) (hl : l.length ≤ 1000000) (B : Kn) : RetB Try.prog 7 [str l] B (.bool (nameOk l)) := by
  refine callsB_body 37 Try.func7 rfl rfl rfl (Nat.le_of_ble_eq_true rfl) ?_
  refine w_seq_region ?_
  refine opW_x (w_assign rfl rfl rfl ?_)
  refine w_keep [(0, _), (2, _)] ⟨rfl, rfl, trivial⟩ ?_
  refine w_seq ?_
  refine w_seq_region ?_
  refine opW_x (w_assign rfl rfl rfl ?_)
  refine w_keep [(0, _), (2, _), (3, _)] ⟨rfl, rfl, rfl, trivial⟩ ?_
  refine w_block ?_
  refine w_loop (α := Nat) (fun k => [(0, str l), (3, .int .i64 k)]) (fun k => []) (fun k Bx => Bx = B ∧ k ≤ l.length ∧ (l.take k).all nameB = true) (fun k => l.length - k) 0 ⟨rfl, rfl, trivial⟩ rfl (⟨rfl, Nat.zero_le _, by simp⟩) (fun k B1 hle1 hI => ?_)
  obtain ⟨rfl, hk, ha⟩ := hI
  refine w_seq ?_
  refine w_seq_region ?_
  refine opW_x (w_move rfl rfl rfl ?_)
  refine opW_x (w_move rfl rfl rfl ?_)
  refine opW_x (w_lenS rfl rfl Try.underlying9 rfl ?_)
  refine opW_x (w_lss rfl rfl rfl rfl ?_)
  refine w_keep [(0, _), (3, _), (7, _)] ⟨rfl, rfl, rfl, trivial⟩ ?_
  refine w_cond rfl (fun g1 => ?_) (fun g1 => ?_)
  · try simp only [decide_eq_true_eq, decide_eq_false_iff_not, Bool.not_eq_true', Bool.not_eq_false', decide_not, Decidable.not_not, Int.not_lt, Int.not_le, ne_eq] at g1
    obtain ⟨c, hc⟩ : ∃ c, l[k]? = some c := ⟨_, List.getElem?_eq_getElem (by omega)⟩
    refine w_skip ?_
    refine thn_n ?_
    refine w_seq ?_
    refine w_block ?_
    refine w_seq_bool 33 (!(nameB c)) [0, 3, 7] ?_ ?_
    · skip
      refine opW_x (w_move rfl rfl rfl ?_)
      refine opW_x (w_move rfl rfl rfl ?_)
      refine opW_x (w_index rfl rfl Try.underlying9 rfl rfl (by omega) (by simpa using hc) ?_)
      refine opW_x (w_geq rfl rfl rfl rfl ?_)
      refine opW_x (w_move rfl rfl rfl ?_)
      refine r_split (d := 14) rfl (fun g1 => ?_) (fun g1 => ?_)
      · try simp only [decide_eq_true_eq, decide_eq_false_iff_not, Bool.not_eq_true', Bool.not_eq_false', decide_not, Decidable.not_not, Int.not_lt, Int.not_le, ne_eq] at g1
        refine opW_x (w_move rfl rfl rfl ?_)
        refine opW_x (w_move rfl rfl rfl ?_)
        refine opW_x (w_index rfl rfl Try.underlying9 rfl rfl (by omega) (by simpa using hc) ?_)
        refine opW_x (w_leq rfl rfl rfl rfl ?_)
        refine opW_x (w_pickT rfl rfl rfl rfl ?_)
        refine opW_x (w_not rfl rfl rfl ?_)
        refine opW_x (w_move rfl rfl rfl ?_)
        refine r_split (d := 21) rfl (fun g2 => ?_) (fun g2 => ?_)
        · try simp only [decide_eq_true_eq, decide_eq_false_iff_not, Bool.not_eq_true', Bool.not_eq_false', decide_not, Decidable.not_not, Int.not_lt, Int.not_le, ne_eq] at g2
          refine opW_x (w_move rfl rfl rfl ?_)
          refine opW_x (w_move rfl rfl rfl ?_)
          refine opW_x (w_index rfl rfl Try.underlying9 rfl rfl (by omega) (by simpa using hc) ?_)
          refine opW_x (w_geq rfl rfl rfl rfl ?_)
          refine opW_x (w_move rfl rfl rfl ?_)
          refine r_split (d := 26) rfl (fun g3 => ?_) (fun g3 => ?_)
          · try simp only [decide_eq_true_eq, decide_eq_false_iff_not, Bool.not_eq_true', Bool.not_eq_false', decide_not, Decidable.not_not, Int.not_lt, Int.not_le, ne_eq] at g3
            refine opW_x (w_move rfl rfl rfl ?_)
            refine opW_x (w_move rfl rfl rfl ?_)
            refine opW_x (w_index rfl rfl Try.underlying9 rfl rfl (by omega) (by simpa using hc) ?_)
            refine opW_x (w_leq rfl rfl rfl rfl ?_)
            refine opW_x (w_pickT rfl rfl rfl rfl ?_)
            refine opW_x (w_not rfl rfl rfl ?_)
            refine opW_x (w_pickT rfl rfl rfl rfl ?_)
            exact ⟨rfl, rfl, rfl, leafB rfl (by rw [Bool.eq_iff_iff]; simp [nameB, ]; omega), ⟨rfl, rfl, rfl, trivial⟩⟩
          · try simp only [decide_eq_true_eq, decide_eq_false_iff_not, Bool.not_eq_true', Bool.not_eq_false', decide_not, Decidable.not_not, Int.not_lt, Int.not_le, ne_eq] at g3
            refine opW_x (w_pass rfl rfl ?_)
            refine opW_x (w_pass rfl rfl ?_)
            refine opW_x (w_pass rfl rfl ?_)
            refine opW_x (w_pass rfl rfl ?_)
            refine opW_x (w_pickF rfl rfl rfl rfl ?_)
            refine opW_x (w_not rfl rfl rfl ?_)
            refine opW_x (w_pickT rfl rfl rfl rfl ?_)
            exact ⟨rfl, rfl, rfl, leafB rfl (by rw [Bool.eq_iff_iff]; simp [nameB, ]; omega), ⟨rfl, rfl, rfl, trivial⟩⟩
        · try simp only [decide_eq_true_eq, decide_eq_false_iff_not, Bool.not_eq_true', Bool.not_eq_false', decide_not, Decidable.not_not, Int.not_lt, Int.not_le, ne_eq] at g2
          refine opW_x (w_pass rfl rfl ?_)
          refine opW_x (w_pass rfl rfl ?_)
          refine opW_x (w_pass rfl rfl ?_)
          refine opW_x (w_pass rfl rfl ?_)
          refine opW_x (w_pass rfl rfl ?_)
          refine opW_x (w_pass rfl rfl ?_)
          refine opW_x (w_pass rfl rfl ?_)
          refine opW_x (w_pass rfl rfl ?_)
          refine opW_x (w_pass rfl rfl ?_)
          refine opW_x (w_pass rfl rfl ?_)
          refine opW_x (w_pass rfl rfl ?_)
          refine opW_x (w_pickF rfl rfl rfl rfl ?_)
          exact ⟨rfl, rfl, rfl, leafB rfl (by rw [Bool.eq_iff_iff]; simp [nameB, ]; omega), ⟨rfl, rfl, rfl, trivial⟩⟩
      · try simp only [decide_eq_true_eq, decide_eq_false_iff_not, Bool.not_eq_true', Bool.not_eq_false', decide_not, Decidable.not_not, Int.not_lt, Int.not_le, ne_eq] at g1
        refine opW_x (w_pass rfl rfl ?_)
        refine opW_x (w_pass rfl rfl ?_)
        refine opW_x (w_pass rfl rfl ?_)
        refine opW_x (w_pass rfl rfl ?_)
        refine opW_x (w_pickF rfl rfl rfl rfl ?_)
        refine opW_x (w_not rfl rfl rfl ?_)
        refine opW_x (w_move rfl rfl rfl ?_)
        refine opW_x (w_move rfl rfl rfl ?_)
        refine opW_x (w_move rfl rfl rfl ?_)
        refine opW_x (w_index rfl rfl Try.underlying9 rfl rfl (by omega) (by simpa using hc) ?_)
        refine opW_x (w_geq rfl rfl rfl rfl ?_)
        refine opW_x (w_move rfl rfl rfl ?_)
        refine r_split (d := 26) rfl (fun g4 => ?_) (fun g4 => ?_)
        · try simp only [decide_eq_true_eq, decide_eq_false_iff_not, Bool.not_eq_true', Bool.not_eq_false', decide_not, Decidable.not_not, Int.not_lt, Int.not_le, ne_eq] at g4
          refine opW_x (w_move rfl rfl rfl ?_)
          refine opW_x (w_move rfl rfl rfl ?_)
          refine opW_x (w_index rfl rfl Try.underlying9 rfl rfl (by omega) (by simpa using hc) ?_)
          refine opW_x (w_leq rfl rfl rfl rfl ?_)
          refine opW_x (w_pickT rfl rfl rfl rfl ?_)
          refine opW_x (w_not rfl rfl rfl ?_)
          refine opW_x (w_pickT rfl rfl rfl rfl ?_)
          exact ⟨rfl, rfl, rfl, leafB rfl (by rw [Bool.eq_iff_iff]; simp [nameB, ]; omega), ⟨rfl, rfl, rfl, trivial⟩⟩
        · try simp only [decide_eq_true_eq, decide_eq_false_iff_not, Bool.not_eq_true', Bool.not_eq_false', decide_not, Decidable.not_not, Int.not_lt, Int.not_le, ne_eq] at g4
          refine opW_x (w_pass rfl rfl ?_)
          refine opW_x (w_pass rfl rfl ?_)
          refine opW_x (w_pass rfl rfl ?_)
          refine opW_x (w_pass rfl rfl ?_)
          refine opW_x (w_pickF rfl rfl rfl rfl ?_)
          refine opW_x (w_not rfl rfl rfl ?_)
          refine opW_x (w_pickT rfl rfl rfl rfl ?_)
          exact ⟨rfl, rfl, rfl, leafB rfl (by rw [Bool.eq_iff_iff]; simp [nameB, ]; omega), ⟨rfl, rfl, rfl, trivial⟩⟩
    refine w_keep [(0, _), (3, _), (7, _), (33, _)] ⟨rfl, rfl, rfl, rfl, trivial⟩ ?_
    refine w_cond rfl (fun g9 => ?_) (fun g9 => ?_)
    · try simp only [decide_eq_true_eq, decide_eq_false_iff_not, Bool.not_eq_true', Bool.not_eq_false', decide_not, Decidable.not_not, Int.not_lt, Int.not_le, ne_eq] at g9
      refine w_seq_region ?_
      refine opW_x (w_assign rfl rfl rfl ?_)
      refine w_keep [(0, _), (2, _), (3, _), (7, _), (33, _)] ⟨rfl, rfl, rfl, rfl, rfl, trivial⟩ ?_
      refine w_ret (inB_r (thn_r (rnd_r (inB_r (thn_r ?_)))))
      exact end0 .ret (.inl rfl) [_] ⟨rfl, trivial⟩ ⟨bool_eq (by simp [nameOk, all_stop hc g9]), rfl, rfl⟩
    · try simp only [decide_eq_true_eq, decide_eq_false_iff_not, Bool.not_eq_true', Bool.not_eq_false', decide_not, Decidable.not_not, Int.not_lt, Int.not_le, ne_eq] at g9
      refine w_skip ?_
      refine inB_n (thn_n ?_)
      refine w_region ?_
      refine opW_x (w_move rfl rfl rfl ?_)
      refine opW_x (w_add rfl rfl rfl rfl (by first | exact wrI64 (by omega) (by omega) | rfl) ?_)
      refine opW_x (w_assign rfl rfl rfl ?_)
      exact rnd_n (k + 1) (by omega) ⟨rfl, by omega, all_step hc g9 ha⟩ ⟨rfl, rfl, trivial⟩ rfl
  · try simp only [decide_eq_true_eq, decide_eq_false_iff_not, Bool.not_eq_true', Bool.not_eq_false', decide_not, Decidable.not_not, Int.not_lt, Int.not_le, ne_eq] at g1
    refine w_exit (thn_x (rnd_x (inB_hit (thn_n ?_))))
    refine w_seq_region ?_
    refine opW_x (w_move rfl rfl rfl ?_)
    refine opW_x (w_lenS rfl rfl Try.underlying9 rfl ?_)
    refine opW_x (w_retB rfl rfl en16 rfl (l6In_c _ _ _ _) ?_)
    refine opW_x (w_assign rfl rfl rfl ?_)
    refine w_keep [(0, _), (2, _), (3, _), (7, _)] ⟨rfl, rfl, rfl, rfl, trivial⟩ ?_
    refine w_ret ?_
    exact end0 .ret (.inl rfl) [_] ⟨rfl, trivial⟩ ⟨bool_eq (by (obtain rfl : k = l.length := by omega); rw [List.take_length] at ha; rw [Bool.eq_iff_iff]; simp [nameOk, ha]; omega), rfl, rfl⟩

set_option maxHeartbeats 400000 in
theorem done_c (b : Nat) (l : List UInt8) (i : Nat) (hi : i ≤ l.length) (hl : l.length ≤ 1000000) (B : Kn) : Upd1 Try.prog 15 [ptr ⟨b, 0, none⟩] B (cur b l i) (.bool (decide (i = l.length))) (cur b l i) := by
  refine callsB_body 13 Try.func15 rfl rfl rfl (Nat.le_of_ble_eq_true rfl) ?_
  refine w_seq_region ?_
  refine opW_x (w_assign rfl rfl rfl ?_)
  refine w_keep [(0, _), (2, _)] ⟨rfl, rfl, trivial⟩ ?_
  refine w_seq ?_
  refine w_draw (same _ _) mo (by kernel_rfl) ⟨rfl, rfl⟩ ?_
  refine any_take 0 rfl (by kernel_rfl) rfl (q_of fun D => w_move rfl rfl rfl ⟨rfl, rfl, rfl, rfl⟩) ?_
  refine any_take 1 rfl (by kernel_rfl) rfl (q_of fun D => w_nilCheck rfl rfl rfl ⟨rfl, rfl, rfl, rfl⟩) ?_
  refine any_take 2 rfl (by kernel_rfl) rfl (q_of fun D => w_fieldAddr rfl rfl fo35x1 rfl ⟨rfl, rfl, rfl, rfl⟩) ?_
  refine any_take 3 rfl (by kernel_rfl) rfl (q_of fun D => w_load1 rfl rfl lk3 rfl (atL 0 rfl rfl rfl) ⟨rfl, rfl, rfl, rfl⟩) ?_
  refine any_take 4 rfl (by kernel_rfl) rfl (q_of fun D => w_move rfl rfl rfl ⟨rfl, rfl, rfl, rfl⟩) ?_
  refine any_take 5 rfl (by kernel_rfl) rfl (q_of fun D => w_nilCheck rfl rfl rfl ⟨rfl, rfl, rfl, rfl⟩) ?_
  refine any_take 6 rfl (by kernel_rfl) rfl (q_of fun D => w_fieldAddr rfl rfl fo35x0 rfl ⟨rfl, rfl, rfl, rfl⟩) ?_
  refine any_take 7 rfl (by kernel_rfl) rfl (q_of fun D => w_load1 rfl rfl lk9 rfl (atL 0 rfl rfl rfl) ⟨rfl, rfl, rfl, rfl⟩) ?_
  refine any_take 8 rfl (by kernel_rfl) rfl (q_of fun D => w_lenS rfl rfl Try.underlying9 rfl ⟨rfl, rfl, rfl, rfl⟩) ?_
  refine any_take 9 rfl (by kernel_rfl) rfl (q_of fun D => w_eqlI rfl rfl rfl rfl ⟨rfl, rfl, rfl, rfl⟩) ?_
  refine any_take 10 rfl (by kernel_rfl) rfl (q_of fun D => w_assign rfl rfl rfl ⟨rfl, rfl, rfl, rfl⟩) ?_
  refine any_done (by kernel_rfl) (by kernel_rfl) ?_
  refine thn_n ?_
  refine w_keep [(0, _), (2, _)] ⟨rfl, rfl, trivial⟩ ?_
  refine w_ret ?_
  exact end1 .ret (.inl rfl) [_] 0 rfl ⟨rfl, trivial⟩ ⟨bool_eq (by rw [Bool.eq_iff_iff]; simp; omega), rfl, rfl⟩

set_option maxHeartbeats 400000 in
theorem take_c (b : Nat) (l : List UInt8) (i : Nat) (hi : i ≤ l.length) (hl : l.length ≤ 1000000) (x : UInt8) (B : Kn) : Upd1 Try.prog 24 [ptr ⟨b, 0, none⟩, .int .u8 x.toNat] B (cur b l i) (.bool (decide (l[i]? = some x))) (cur b l (if l[i]? = some x then i + 1 else i)) := by
  refine callsB_body 27 Try.func24 rfl rfl rfl (Nat.le_of_ble_eq_true rfl) ?_
  refine w_seq_region ?_
  refine opW_x (w_assign rfl rfl rfl ?_)
  refine w_keep [(0, _), (1, _), (4, _)] ⟨rfl, rfl, rfl, trivial⟩ ?_
  refine w_seq ?_
  refine w_seq_boolD 19 (decide (l[i]? ≠ some x)) [0, 1, 4] (same _ _) mo (by kernel_rfl) ⟨rfl, rfl⟩ ?_ ?_
  · skip
    refine any_take 0 rfl (by kernel_rfl) rfl (q_of fun D => w_move rfl rfl rfl ⟨rfl, rfl, rfl, rfl⟩) ?_
    refine any_take 1 rfl (by kernel_rfl) rfl (q_of fun D => w_ret1 0 rfl rfl rfl en15 rfl (done_c _ _ _ (by omega) (by omega) _) ⟨rfl, rfl, rfl, rfl⟩) ?_
    refine any_take 2 rfl (by kernel_rfl) rfl (q_of fun D => w_move rfl rfl rfl ⟨rfl, rfl, rfl, rfl⟩) ?_
    refine a_split (d := 7) rfl (fun g1 => ?_) (fun g1 => ?_)
    · try simp only [decide_eq_true_eq, decide_eq_false_iff_not, Bool.not_eq_true', Bool.not_eq_false', decide_not, Decidable.not_not, Int.not_lt, Int.not_le, ne_eq] at g1
      refine any_take 3 rfl (by kernel_rfl) rfl (q_of fun D => w_pass rfl rfl ⟨rfl, rfl, rfl, rfl⟩) ?_
      refine any_take 4 rfl (by kernel_rfl) rfl (q_of fun D => w_pass rfl rfl ⟨rfl, rfl, rfl, rfl⟩) ?_
      refine any_take 5 rfl (by kernel_rfl) rfl (q_of fun D => w_pass rfl rfl ⟨rfl, rfl, rfl, rfl⟩) ?_
      refine any_take 6 rfl (by kernel_rfl) rfl (q_of fun D => w_pass rfl rfl ⟨rfl, rfl, rfl, rfl⟩) ?_
      refine any_take 7 rfl (by kernel_rfl) rfl (q_of fun D => w_pass rfl rfl ⟨rfl, rfl, rfl, rfl⟩) ?_
      refine any_take 8 rfl (by kernel_rfl) rfl (q_of fun D => w_pass rfl rfl ⟨rfl, rfl, rfl, rfl⟩) ?_
      refine any_take 9 rfl (by kernel_rfl) rfl (q_of fun D => w_pass rfl rfl ⟨rfl, rfl, rfl, rfl⟩) ?_
      refine any_take 10 rfl (by kernel_rfl) rfl (q_of fun D => w_pass rfl rfl ⟨rfl, rfl, rfl, rfl⟩) ?_
      refine any_take 11 rfl (by kernel_rfl) rfl (q_of fun D => w_pass rfl rfl ⟨rfl, rfl, rfl, rfl⟩) ?_
      refine any_take 12 rfl (by kernel_rfl) rfl (q_of fun D => w_pass rfl rfl ⟨rfl, rfl, rfl, rfl⟩) ?_
      refine any_take 13 rfl (by kernel_rfl) rfl (q_of fun D => w_pass rfl rfl ⟨rfl, rfl, rfl, rfl⟩) ?_
      refine any_take 14 rfl (by kernel_rfl) rfl (q_of fun D => w_pickT rfl rfl rfl rfl ⟨rfl, rfl, rfl, rfl⟩) ?_
      refine any_done (by kernel_rfl) (by kernel_rfl) ?_
      exact ⟨rfl, rfl, rfl, leafB rfl (by first | (simp [g1]; done) | (rw [Bool.eq_iff_iff]; simp [hc, ← UInt8.toNat_inj]; omega)), ⟨rfl, rfl, rfl, trivial⟩⟩
    · try simp only [decide_eq_true_eq, decide_eq_false_iff_not, Bool.not_eq_true', Bool.not_eq_false', decide_not, Decidable.not_not, Int.not_lt, Int.not_le, ne_eq] at g1
      obtain ⟨c, hc⟩ : ∃ c, l[i]? = some c := ⟨_, List.getElem?_eq_getElem (by omega)⟩
      refine any_take 3 rfl (by kernel_rfl) rfl (q_of fun D => w_move rfl rfl rfl ⟨rfl, rfl, rfl, rfl⟩) ?_
      refine any_take 4 rfl (by kernel_rfl) rfl (q_of fun D => w_nilCheck rfl rfl rfl ⟨rfl, rfl, rfl, rfl⟩) ?_
      refine any_take 5 rfl (by kernel_rfl) rfl (q_of fun D => w_fieldAddr rfl rfl fo35x0 rfl ⟨rfl, rfl, rfl, rfl⟩) ?_
      refine any_take 6 rfl (by kernel_rfl) rfl (q_of fun D => w_load1 rfl rfl lk9 rfl (atL 0 rfl rfl rfl) ⟨rfl, rfl, rfl, rfl⟩) ?_
      refine any_take 7 rfl (by kernel_rfl) rfl (q_of fun D => w_move rfl rfl rfl ⟨rfl, rfl, rfl, rfl⟩) ?_
      refine any_take 8 rfl (by kernel_rfl) rfl (q_of fun D => w_nilCheck rfl rfl rfl ⟨rfl, rfl, rfl, rfl⟩) ?_
      refine any_take 9 rfl (by kernel_rfl) rfl (q_of fun D => w_fieldAddr rfl rfl fo35x1 rfl ⟨rfl, rfl, rfl, rfl⟩) ?_
      refine any_take 10 rfl (by kernel_rfl) rfl (q_of fun D => w_load1 rfl rfl lk3 rfl (atL 0 rfl rfl rfl) ⟨rfl, rfl, rfl, rfl⟩) ?_
      refine any_take 11 rfl (by kernel_rfl) rfl (q_of fun D => w_index rfl rfl Try.underlying9 rfl rfl (by omega) (by simpa using hc) ⟨rfl, rfl, rfl, rfl⟩) ?_
      refine any_take 12 rfl (by kernel_rfl) rfl (q_of fun D => w_move rfl rfl rfl ⟨rfl, rfl, rfl, rfl⟩) ?_
      refine any_take 13 rfl (by kernel_rfl) rfl (q_of fun D => w_neqI rfl rfl rfl rfl ⟨rfl, rfl, rfl, rfl⟩) ?_
      refine any_take 14 rfl (by kernel_rfl) rfl (q_of fun D => w_pickF rfl rfl rfl rfl ⟨rfl, rfl, rfl, rfl⟩) ?_
      refine any_done (by kernel_rfl) (by kernel_rfl) ?_
      exact ⟨rfl, rfl, rfl, leafB rfl (by first | (simp [g1]; done) | (rw [Bool.eq_iff_iff]; simp [hc, ← UInt8.toNat_inj]; omega)), ⟨rfl, rfl, rfl, trivial⟩⟩
  refine w_keep [(0, _), (1, _), (4, _), (19, _)] ⟨rfl, rfl, rfl, rfl, trivial⟩ ?_
  refine w_cond rfl (fun g2 => ?_) (fun g2 => ?_)
  · try simp only [decide_eq_true_eq, decide_eq_false_iff_not, Bool.not_eq_true', Bool.not_eq_false', decide_not, Decidable.not_not, Int.not_lt, Int.not_le, ne_eq] at g2
    refine w_seq_region ?_
    refine opW_x (w_assign rfl rfl rfl ?_)
    refine w_keep [(0, _), (1, _), (4, _), (19, _)] ⟨rfl, rfl, rfl, rfl, trivial⟩ ?_
    refine w_ret (thn_r ?_)
    exact end1 .ret (.inl rfl) [_] 0 rfl ⟨rfl, trivial⟩ ⟨bool_eq (by simp [g2]), rfl, by rw [if_neg g2]⟩
  · try simp only [decide_eq_true_eq, decide_eq_false_iff_not, Bool.not_eq_true', Bool.not_eq_false', decide_not, Decidable.not_not, Int.not_lt, Int.not_le, ne_eq] at g2
    refine w_skip ?_
    refine thn_n ?_
    refine w_seq_region ?_
    refine opW_x (w_move rfl rfl rfl ?_)
    refine opW_x (w_nilCheck rfl rfl rfl ?_)
    refine opW_x (w_fieldAddr rfl rfl fo35x1 rfl ?_)
    refine opW_x (w_load1 rfl rfl lk3 rfl (atL 0 rfl rfl rfl) ?_)
    refine opW_x (w_add rfl rfl rfl rfl (by first | exact wrI64 (by omega) (by omega) | rfl) ?_)
    refine opW_x (w_nilCheck rfl rfl rfl ?_)
    refine opW_x (w_fieldAddr rfl rfl fo35x1 rfl ?_)
    refine opW_x (w_store [_] 0 [_, _] rfl rfl sz3 rfl rfl rfl rfl rfl rfl rfl rfl ?_)
    refine w_tidy [(0, _), (1, _), (4, _), (19, _)] [_] ⟨rfl, rfl, rfl, rfl, trivial⟩ rfl ?_
    refine w_seq_region ?_
    refine opW_x (w_assign rfl rfl rfl ?_)
    refine w_keep [(0, _), (1, _), (4, _), (19, _)] ⟨rfl, rfl, rfl, rfl, trivial⟩ ?_
    refine w_ret ?_
    exact end1 .ret (.inl rfl) [_] 0 rfl ⟨rfl, trivial⟩ ⟨bool_eq (by simp [g2]), rfl, by rw [if_pos g2]; rfl⟩

set_option maxHeartbeats 400000 in
theorem name_c (b : Nat) (l : List UInt8) (i : Nat) (hi : i ≤ l.length) (hl : l.length ≤ 1000000) (B : Kn) : Upd1 Try.prog 14 [ptr ⟨b, 0, none⟩] B (cur b l i) (.tuple #[str (word l i), .bool (wordOk (word l i))]) (cur b l (i + (word l i).length)) := by
  refine callsB_body 54 Try.func14 rfl rfl rfl (Nat.le_of_ble_eq_true rfl) ?_
  refine w_seq_region ?_
  refine opW_x (w_assign rfl rfl rfl ?_)
  refine opW_x (w_assign rfl rfl rfl ?_)
  refine w_keep [(0, _), (2, _), (3, _)] ⟨rfl, rfl, rfl, trivial⟩ ?_
  refine w_seq_region ?_
  refine opW_x (w_move rfl rfl rfl ?_)
  refine opW_x (w_nilCheck rfl rfl rfl ?_)
  refine opW_x (w_fieldAddr rfl rfl fo35x1 rfl ?_)
  refine opW_x (w_load1 rfl rfl lk3 rfl (atL 0 rfl rfl rfl) ?_)
  refine opW_x (w_assign rfl rfl rfl ?_)
  refine w_keep [(0, _), (2, _), (3, _), (4, _)] ⟨rfl, rfl, rfl, rfl, trivial⟩ ?_
  refine w_seq ?_
  refine w_block ?_
  refine w_loop (α := Nat) (fun k => [(0, ptr ⟨b, 0, none⟩), (4, .int .i64 i)]) (fun k => [cur b l (i + k)]) (fun k Bx => Bx = B ∧ i + k ≤ l.length ∧ ((l.drop i).take k).all nameB = true) (fun k => l.length - i - k) 0 ⟨rfl, rfl, trivial⟩ rfl (⟨rfl, by omega, by simp⟩) (fun k B1 hle1 hI => ?_)
  obtain ⟨rfl, hk, ha⟩ := hI
  refine w_seq ?_
  refine w_seq_boolD 24 (match l[i + k]? with | some c => nameB c | none => false) [0, 4] (same _ _) mo (by kernel_rfl) ⟨rfl, rfl⟩ ?_ ?_
  · skip
    refine any_take 0 rfl (by kernel_rfl) rfl (q_of fun D => w_move rfl rfl rfl ⟨rfl, rfl, rfl, rfl⟩) ?_
    refine any_take 1 rfl (by kernel_rfl) rfl (q_of fun D => w_ret1 0 rfl rfl rfl en15 rfl (done_c _ _ _ (by omega) (by omega) _) ⟨rfl, rfl, rfl, rfl⟩) ?_
    refine any_take 2 rfl (by kernel_rfl) rfl (q_of fun D => w_not rfl rfl rfl ⟨rfl, rfl, rfl, rfl⟩) ?_
    refine any_take 3 rfl (by kernel_rfl) rfl (q_of fun D => w_move rfl rfl rfl ⟨rfl, rfl, rfl, rfl⟩) ?_
    refine a_split (d := 13) rfl (fun g1 => ?_) (fun g1 => ?_)
    · try simp only [decide_eq_true_eq, decide_eq_false_iff_not, Bool.not_eq_true', Bool.not_eq_false', decide_not, Decidable.not_not, Int.not_lt, Int.not_le, ne_eq] at g1
      obtain ⟨c, hc⟩ : ∃ c, l[i + k]? = some c := ⟨_, List.getElem?_eq_getElem (by omega)⟩
      refine any_take 4 rfl (by kernel_rfl) rfl (q_of fun D => w_move rfl rfl rfl ⟨rfl, rfl, rfl, rfl⟩) ?_
      refine any_take 5 rfl (by kernel_rfl) rfl (q_of fun D => w_nilCheck rfl rfl rfl ⟨rfl, rfl, rfl, rfl⟩) ?_
      refine any_take 6 rfl (by kernel_rfl) rfl (q_of fun D => w_fieldAddr rfl rfl fo35x0 rfl ⟨rfl, rfl, rfl, rfl⟩) ?_
      refine any_take 7 rfl (by kernel_rfl) rfl (q_of fun D => w_load1 rfl rfl lk9 rfl (atL 0 rfl rfl rfl) ⟨rfl, rfl, rfl, rfl⟩) ?_
      refine any_take 8 rfl (by kernel_rfl) rfl (q_of fun D => w_move rfl rfl rfl ⟨rfl, rfl, rfl, rfl⟩) ?_
      refine any_take 9 rfl (by kernel_rfl) rfl (q_of fun D => w_nilCheck rfl rfl rfl ⟨rfl, rfl, rfl, rfl⟩) ?_
      refine any_take 10 rfl (by kernel_rfl) rfl (q_of fun D => w_fieldAddr rfl rfl fo35x1 rfl ⟨rfl, rfl, rfl, rfl⟩) ?_
      refine any_take 11 rfl (by kernel_rfl) rfl (q_of fun D => w_load1 rfl rfl lk3 rfl (atL 0 rfl rfl rfl) ⟨rfl, rfl, rfl, rfl⟩) ?_
      refine any_take 12 rfl (by kernel_rfl) rfl (q_of fun D => w_index rfl rfl Try.underlying9 rfl rfl (by omega) hc ⟨rfl, rfl, rfl, rfl⟩) ?_
      refine any_take 13 rfl (by kernel_rfl) rfl (q_of fun D => w_retB rfl rfl en23 rfl (nameByte_c _ _) ⟨rfl, rfl, rfl, rfl⟩) ?_
      refine any_take 14 rfl (by kernel_rfl) rfl (q_of fun D => w_pickT rfl rfl rfl rfl ⟨rfl, rfl, rfl, rfl⟩) ?_
      refine any_done (by kernel_rfl) (by kernel_rfl) ?_
      exact ⟨rfl, rfl, rfl, leafB rfl (by first | (rw [hc]; done) | (rw [List.getElem?_eq_none (by omega)])), ⟨rfl, rfl, trivial⟩⟩
    · try simp only [decide_eq_true_eq, decide_eq_false_iff_not, Bool.not_eq_true', Bool.not_eq_false', decide_not, Decidable.not_not, Int.not_lt, Int.not_le, ne_eq] at g1
      refine any_take 4 rfl (by kernel_rfl) rfl (q_of fun D => w_pass rfl rfl ⟨rfl, rfl, rfl, rfl⟩) ?_
      refine any_take 5 rfl (by kernel_rfl) rfl (q_of fun D => w_pass rfl rfl ⟨rfl, rfl, rfl, rfl⟩) ?_
      refine any_take 6 rfl (by kernel_rfl) rfl (q_of fun D => w_pass rfl rfl ⟨rfl, rfl, rfl, rfl⟩) ?_
      refine any_take 7 rfl (by kernel_rfl) rfl (q_of fun D => w_pass rfl rfl ⟨rfl, rfl, rfl, rfl⟩) ?_
      refine any_take 8 rfl (by kernel_rfl) rfl (q_of fun D => w_pass rfl rfl ⟨rfl, rfl, rfl, rfl⟩) ?_
      refine any_take 9 rfl (by kernel_rfl) rfl (q_of fun D => w_pass rfl rfl ⟨rfl, rfl, rfl, rfl⟩) ?_
      refine any_take 10 rfl (by kernel_rfl) rfl (q_of fun D => w_pass rfl rfl ⟨rfl, rfl, rfl, rfl⟩) ?_
      refine any_take 11 rfl (by kernel_rfl) rfl (q_of fun D => w_pass rfl rfl ⟨rfl, rfl, rfl, rfl⟩) ?_
      refine any_take 12 rfl (by kernel_rfl) rfl (q_of fun D => w_pass rfl rfl ⟨rfl, rfl, rfl, rfl⟩) ?_
      refine any_take 13 rfl (by kernel_rfl) rfl (q_of fun D => w_pass rfl rfl ⟨rfl, rfl, rfl, rfl⟩) ?_
      refine any_take 14 rfl (by kernel_rfl) rfl (q_of fun D => w_pickF rfl rfl rfl rfl ⟨rfl, rfl, rfl, rfl⟩) ?_
      refine any_done (by kernel_rfl) (by kernel_rfl) ?_
      exact ⟨rfl, rfl, rfl, leafB rfl (by first | (rw [hc]; done) | (rw [List.getElem?_eq_none (by omega)])), ⟨rfl, rfl, trivial⟩⟩
  refine w_keep [(0, _), (4, _), (24, _)] ⟨rfl, rfl, rfl, trivial⟩ ?_
  refine w_cond rfl (fun g2 => ?_) (fun g2 => ?_)
  · try simp only [decide_eq_true_eq, decide_eq_false_iff_not, Bool.not_eq_true', Bool.not_eq_false', decide_not, Decidable.not_not, Int.not_lt, Int.not_le, ne_eq] at g2
    refine w_skip ?_
    refine thn_n ?_
    refine w_block ?_
    refine w_region ?_
    refine opW_x (w_move rfl rfl rfl ?_)
    refine opW_x (w_nilCheck rfl rfl rfl ?_)
    refine opW_x (w_fieldAddr rfl rfl fo35x1 rfl ?_)
    refine opW_x (w_load1 rfl rfl lk3 rfl (atL 0 rfl rfl rfl) ?_)
    refine opW_x (w_add rfl rfl rfl rfl (by first | exact wrI64 (by omega) (by omega) | rfl) ?_)
    refine opW_x (w_nilCheck rfl rfl rfl ?_)
    refine opW_x (w_fieldAddr rfl rfl fo35x1 rfl ?_)
    refine opW_x (w_store [_] 0 [_, _] rfl rfl sz3 rfl rfl rfl rfl rfl rfl rfl rfl ?_)
    refine inB_n ?_
    obtain ⟨c, hc, hn⟩ := some_true g2
    exact rnd_n (k + 1) (by have := lt_of_get hc; omega) ⟨rfl, by have := lt_of_get hc; omega, all_step (by simpa using hc) hn ha⟩ ⟨rfl, rfl, trivial⟩ rfl
  · try simp only [decide_eq_true_eq, decide_eq_false_iff_not, Bool.not_eq_true', Bool.not_eq_false', decide_not, Decidable.not_not, Int.not_lt, Int.not_le, ne_eq] at g2
    have hw : word l i = (l.drop i).take k := word_end ha (fun c hc => by rw [hc] at g2; exact g2)
    have hwl : (word l i).length = k := by rw [hw, List.length_take, List.length_drop]; omega
    refine w_exit (thn_x (rnd_x (inB_hit (thn_n ?_))))
    refine w_seq_region ?_
    refine opW_x (w_move rfl rfl rfl ?_)
    refine opW_x (w_nilCheck rfl rfl rfl ?_)
    refine opW_x (w_fieldAddr rfl rfl fo35x1 rfl ?_)
    refine opW_x (w_load1 rfl rfl lk3 rfl (atL 0 rfl rfl rfl) ?_)
    refine opW_x (w_move rfl rfl rfl ?_)
    refine opW_x (w_sub rfl rfl rfl rfl (by first | exact wrI64 (by omega) (by omega) | rfl) ?_)
    refine opW_x (w_assign rfl rfl rfl ?_)
    refine w_keep [(0, _), (4, _), (5, _), (24, _)] ⟨rfl, rfl, rfl, rfl, trivial⟩ ?_
    refine w_seq ?_
    refine w_draw (same _ _) mo (by kernel_rfl) ⟨rfl, rfl⟩ ?_
    refine any_take 0 rfl (by kernel_rfl) rfl (q_of fun D => w_move rfl rfl rfl ⟨rfl, rfl, rfl, rfl⟩) ?_
    refine any_take 1 rfl (by kernel_rfl) rfl (q_of fun D => w_nilCheck rfl rfl rfl ⟨rfl, rfl, rfl, rfl⟩) ?_
    refine any_take 2 rfl (by kernel_rfl) rfl (q_of fun D => w_fieldAddr rfl rfl fo35x0 rfl ⟨rfl, rfl, rfl, rfl⟩) ?_
    refine any_take 3 rfl (by kernel_rfl) rfl (q_of fun D => w_load1 rfl rfl lk9 rfl (atL 0 rfl rfl rfl) ⟨rfl, rfl, rfl, rfl⟩) ?_
    refine any_take 4 rfl (by kernel_rfl) rfl (q_of fun D => w_move rfl rfl rfl ⟨rfl, rfl, rfl, rfl⟩) ?_
    refine any_take 5 rfl (by kernel_rfl) rfl (q_of fun D => w_move rfl rfl rfl ⟨rfl, rfl, rfl, rfl⟩) ?_
    refine any_take 6 rfl (by kernel_rfl) rfl (q_of fun D => w_nilCheck rfl rfl rfl ⟨rfl, rfl, rfl, rfl⟩) ?_
    refine any_take 7 rfl (by kernel_rfl) rfl (q_of fun D => w_fieldAddr rfl rfl fo35x1 rfl ⟨rfl, rfl, rfl, rfl⟩) ?_
    refine any_take 8 rfl (by kernel_rfl) rfl (q_of fun D => w_load1 rfl rfl lk3 rfl (atL 0 rfl rfl rfl) ⟨rfl, rfl, rfl, rfl⟩) ?_
    refine any_take 9 rfl (by kernel_rfl) rfl (q_of fun D => w_sliceS rfl rfl Try.underlying9 rfl (a := i) (b := i + k) ⟨_, _, rfl, rfl⟩ ⟨_, _, rfl, by omega⟩ (by omega) (by omega) ⟨rfl, rfl, rfl, rfl⟩) ?_
    refine any_take 10 rfl (by kernel_rfl) rfl (q_of fun D => w_move rfl rfl rfl ⟨rfl, rfl, rfl, rfl⟩) ?_
    refine any_take 11 rfl (by kernel_rfl) rfl (q_of fun D => w_geq rfl rfl rfl rfl ⟨rfl, rfl, rfl, rfl⟩) ?_
    refine any_take 12 rfl (by kernel_rfl) rfl (q_of fun D => w_move rfl rfl rfl ⟨rfl, rfl, rfl, rfl⟩) ?_
    refine a_split (d := 50) rfl (fun g1 => ?_) (fun g1 => ?_)
    · try simp only [decide_eq_true_eq, decide_eq_false_iff_not, Bool.not_eq_true', Bool.not_eq_false', decide_not, Decidable.not_not, Int.not_lt, Int.not_le, ne_eq] at g1
      refine any_take 13 rfl (by kernel_rfl) rfl (q_of fun D => w_move rfl rfl rfl ⟨rfl, rfl, rfl, rfl⟩) ?_
      refine any_take 14 rfl (by kernel_rfl) rfl (q_of fun D => w_leq rfl rfl rfl rfl ⟨rfl, rfl, rfl, rfl⟩) ?_
      refine any_take 15 rfl (by kernel_rfl) rfl (q_of fun D => w_pickT rfl rfl rfl rfl ⟨rfl, rfl, rfl, rfl⟩) ?_
      refine any_take 16 rfl (by kernel_rfl) rfl (q_of fun D => w_assign rfl rfl rfl ⟨rfl, rfl, rfl, rfl⟩) ?_
      refine any_take 17 rfl (by kernel_rfl) rfl (q_of fun D => w_assign rfl rfl rfl ⟨rfl, rfl, rfl, rfl⟩) ?_
      refine any_done (by kernel_rfl) (by kernel_rfl) ?_
      refine thn_n ?_
      refine w_keep [(0, _), (2, _), (3, _), (4, _), (5, _), (24, _)] ⟨rfl, rfl, rfl, rfl, rfl, rfl, trivial⟩ ?_
      refine w_ret ?_
      exact end1 .ret (.inl rfl) [_, _] 0 rfl ⟨rfl, rfl, trivial⟩ ⟨two_eq (by rw [drop_take_word, hw]) (bool_eq (by rw [Bool.eq_iff_iff]; simp [wordOk, hwl]; omega)), rfl, by rw [hwl]⟩
    · try simp only [decide_eq_true_eq, decide_eq_false_iff_not, Bool.not_eq_true', Bool.not_eq_false', decide_not, Decidable.not_not, Int.not_lt, Int.not_le, ne_eq] at g1
      refine any_take 13 rfl (by kernel_rfl) rfl (q_of fun D => w_pass rfl rfl ⟨rfl, rfl, rfl, rfl⟩) ?_
      refine any_take 14 rfl (by kernel_rfl) rfl (q_of fun D => w_pass rfl rfl ⟨rfl, rfl, rfl, rfl⟩) ?_
      refine any_take 15 rfl (by kernel_rfl) rfl (q_of fun D => w_pickF rfl rfl rfl rfl ⟨rfl, rfl, rfl, rfl⟩) ?_
      refine any_take 16 rfl (by kernel_rfl) rfl (q_of fun D => w_assign rfl rfl rfl ⟨rfl, rfl, rfl, rfl⟩) ?_
      refine any_take 17 rfl (by kernel_rfl) rfl (q_of fun D => w_assign rfl rfl rfl ⟨rfl, rfl, rfl, rfl⟩) ?_
      refine any_done (by kernel_rfl) (by kernel_rfl) ?_
      refine thn_n ?_
      refine w_keep [(0, _), (2, _), (3, _), (4, _), (5, _), (24, _)] ⟨rfl, rfl, rfl, rfl, rfl, rfl, trivial⟩ ?_
      refine w_ret ?_
      exact end1 .ret (.inl rfl) [_, _] 0 rfl ⟨rfl, rfl, trivial⟩ ⟨two_eq (by rw [drop_take_word, hw]) (bool_eq (by rw [Bool.eq_iff_iff]; simp [wordOk, hwl]; omega)), rfl, by rw [hwl]⟩

set_option maxHeartbeats 400000 in
theorem domain_c (b : Nat) (l : List UInt8) (i : Nat) (hi : i ≤ l.length) (hl : l.length ≤ 1000000) (B : Kn) : Upd1 Try.prog 25 [ptr ⟨b, 0, none⟩] B (cur b l i) (.tuple #[str (domText l i), .bool (domOk l i)]) (cur b l (dom l i).2) := by
  refine callsB_body 53 Try.func25 rfl rfl rfl (Nat.le_of_ble_eq_true rfl) ?_
  refine w_seq_region ?_
  refine opW_x (w_assign rfl rfl rfl ?_)
  refine opW_x (w_assign rfl rfl rfl ?_)
  refine w_keep [(0, _), (2, _), (3, _)] ⟨rfl, rfl, rfl, trivial⟩ ?_
  refine w_seq_region ?_
  refine opW_x (w_move rfl rfl rfl ?_)
  refine opW_x (w_nilCheck rfl rfl rfl ?_)
  refine opW_x (w_fieldAddr rfl rfl fo35x1 rfl ?_)
  refine opW_x (w_load1 rfl rfl lk3 rfl (atL 0 rfl rfl rfl) ?_)
  refine opW_x (w_assign rfl rfl rfl ?_)
  refine w_keep [(0, _), (2, _), (3, _), (4, _)] ⟨rfl, rfl, rfl, rfl, trivial⟩ ?_
  refine w_seq ?_
  refine w_seq_region ?_
  refine opW_x (w_move rfl rfl rfl ?_)
  refine opW_x (w_upd1 0 rfl rfl rfl en14 rfl (name_c _ _ _ (by omega) (by omega) _) ?_)
  refine opW_x (w_move rfl rfl rfl ?_)
  refine opW_x (w_extract rfl rfl rfl rfl ?_)
  refine opW_x (w_extract rfl rfl rfl rfl ?_)
  refine opW_x (w_assign rfl rfl rfl ?_)
  refine opW_x (w_assign rfl rfl rfl ?_)
  refine w_tidy [(0, _), (2, _), (3, _), (4, _), (6, _)] [_] ⟨rfl, rfl, rfl, rfl, rfl, trivial⟩ rfl ?_
  refine w_seq_region ?_
  refine opW_x (w_move rfl rfl rfl ?_)
  refine opW_x (w_not rfl rfl rfl ?_)
  refine w_keep [(0, _), (2, _), (3, _), (4, _), (6, _), (20, _)] ⟨rfl, rfl, rfl, rfl, rfl, rfl, trivial⟩ ?_
  refine w_cond rfl (fun g1 => ?_) (fun g1 => ?_)
  · try simp only [decide_eq_true_eq, decide_eq_false_iff_not, Bool.not_eq_true', Bool.not_eq_false', decide_not, Decidable.not_not, Int.not_lt, Int.not_le, ne_eq] at g1
    refine w_seq_region ?_
    refine opW_x (w_assign rfl rfl rfl ?_)
    refine opW_x (w_assign rfl rfl rfl ?_)
    refine w_keep [(0, _), (2, _), (3, _), (4, _), (6, _), (20, _)] ⟨rfl, rfl, rfl, rfl, rfl, rfl, trivial⟩ ?_
    refine w_ret (thn_r ?_)
    exact end1 .ret (.inl rfl) [_, _] 0 rfl ⟨rfl, rfl, trivial⟩ ⟨two_eq (by simp [domText, dom_bad g1]) (bool_eq (by simp [domOk, dom_bad g1])), rfl, by rw [dom_bad g1]⟩
  · try simp only [decide_eq_true_eq, decide_eq_false_iff_not, Bool.not_eq_true', Bool.not_eq_false', decide_not, Decidable.not_not, Int.not_lt, Int.not_le, ne_eq] at g1
    refine w_skip ?_
    refine thn_n ?_
    refine w_seq ?_
    refine w_seq_region ?_
    refine opW_x (w_assign rfl rfl rfl ?_)
    refine w_keep [(0, _), (2, _), (3, _), (4, _), (6, _), (7, _), (20, _)] ⟨rfl, rfl, rfl, rfl, rfl, rfl, rfl, trivial⟩ ?_
    refine w_block ?_
    refine w_loop (α := Nat × Nat) (fun x => [(0, ptr ⟨b, 0, none⟩), (4, .int .i64 i), (7, .int .i64 x.1)]) (fun x => [cur b l x.2]) (fun x Bx => Bx = B ∧ 1 ≤ x.1 ∧ x.1 ≤ 3 ∧ i ≤ x.2 ∧ x.2 ≤ l.length ∧ dom l i = more (3 - x.1) l x.2) (fun x => 3 - x.1) (1, i + (word l i).length) ⟨rfl, rfl, rfl, trivial⟩ rfl (⟨rfl, by omega, by omega, by omega, word_le hi, dom_good g1⟩) (fun x B1 hle1 hI => ?_)
    obtain ⟨rfl, hk1, hk3, hix, hxl, hd⟩ := hI
    refine w_seq ?_
    refine w_seq_region ?_
    refine opW_x (w_move rfl rfl rfl ?_)
    refine opW_x (w_lss rfl rfl rfl rfl ?_)
    refine opW_x (w_move rfl rfl rfl ?_)
    refine r_split (d := 23) rfl (fun g2 => ?_) (fun g2 => ?_)
    · try simp only [decide_eq_true_eq, decide_eq_false_iff_not, Bool.not_eq_true', Bool.not_eq_false', decide_not, Decidable.not_not, Int.not_lt, Int.not_le, ne_eq] at g2
      refine opW_x (w_move rfl rfl rfl ?_)
      refine opW_x (w_upd1 0 rfl rfl rfl en24 rfl (take_c _ _ _ (by omega) (by omega) 46 _) ?_)
      refine opW_x (w_pickT rfl rfl rfl rfl ?_)
      refine w_tidy [(0, _), (4, _), (7, _), (26, _)] [_] ⟨rfl, rfl, rfl, rfl, trivial⟩ rfl ?_
      refine w_cond rfl (fun g3 => ?_) (fun g3 => ?_)
      · try simp only [decide_eq_true_eq, decide_eq_false_iff_not, Bool.not_eq_true', Bool.not_eq_false', decide_not, Decidable.not_not, Int.not_lt, Int.not_le, ne_eq] at g3
        rw [if_pos g3]
        have hx2 := lt_of_get g3
        refine w_skip ?_
        refine thn_n ?_
        refine w_seq ?_
        refine w_block ?_
        refine w_seq_region ?_
        refine opW_x (w_move rfl rfl rfl ?_)
        refine opW_x (w_upd1 0 rfl rfl rfl en14 rfl (name_c _ _ _ (by omega) (by omega) _) ?_)
        refine opW_x (w_move rfl rfl rfl ?_)
        refine opW_x (w_extract rfl rfl rfl rfl ?_)
        refine opW_x (w_extract rfl rfl rfl rfl ?_)
        refine opW_x (w_assign rfl rfl rfl ?_)
        refine opW_x (w_assign rfl rfl rfl ?_)
        refine w_tidy [(0, _), (4, _), (7, _), (9, _), (26, _)] [_] ⟨rfl, rfl, rfl, rfl, rfl, trivial⟩ rfl ?_
        refine w_seq_region ?_
        refine opW_x (w_move rfl rfl rfl ?_)
        refine opW_x (w_not rfl rfl rfl ?_)
        refine w_keep [(0, _), (4, _), (7, _), (9, _), (26, _), (35, _)] ⟨rfl, rfl, rfl, rfl, rfl, rfl, trivial⟩ ?_
        refine w_cond rfl (fun g4 => ?_) (fun g4 => ?_)
        · try simp only [decide_eq_true_eq, decide_eq_false_iff_not, Bool.not_eq_true', Bool.not_eq_false', decide_not, Decidable.not_not, Int.not_lt, Int.not_le, ne_eq] at g4
          refine w_seq_region ?_
          refine opW_x (w_assign rfl rfl rfl ?_)
          refine opW_x (w_assign rfl rfl rfl ?_)
          refine w_keep [(0, _), (2, _), (3, _), (4, _), (7, _), (9, _), (26, _), (35, _)] ⟨rfl, rfl, rfl, rfl, rfl, rfl, rfl, rfl, trivial⟩ ?_
          refine w_ret (inB_r (thn_r (rnd_r (inB_r (thn_r ?_)))))
          have hdd := hd.trans (more_bad (by omega) g3 g4)
          exact end1 .ret (.inl rfl) [_, _] 0 rfl ⟨rfl, rfl, trivial⟩ ⟨two_eq (by simp [domText, hdd]) (bool_eq (by simp [domOk, hdd])), rfl, by rw [hdd]⟩
        · try simp only [decide_eq_true_eq, decide_eq_false_iff_not, Bool.not_eq_true', Bool.not_eq_false', decide_not, Decidable.not_not, Int.not_lt, Int.not_le, ne_eq] at g4
          refine w_skip ?_
          refine inB_n (thn_n ?_)
          refine w_region ?_
          refine opW_x (w_move rfl rfl rfl ?_)
          refine opW_x (w_add rfl rfl rfl rfl (by first | exact wrI64 (by omega) (by omega) | rfl) ?_)
          refine opW_x (w_assign rfl rfl rfl ?_)
          exact rnd_n (x.1 + 1, x.2 + 1 + (word l (x.2 + 1)).length) (by simp only []; omega) ⟨rfl, by simp only []; omega, by simp only []; omega, by simp only []; omega, word_le (by omega), by rw [hd, more_good (by omega) g3 g4]; rw [show 3 - (x.1 + 1) = 3 - x.1 - 1 from by omega]⟩ ⟨rfl, rfl, rfl, trivial⟩ rfl
      · try simp only [decide_eq_true_eq, decide_eq_false_iff_not, Bool.not_eq_true', Bool.not_eq_false', decide_not, Decidable.not_not, Int.not_lt, Int.not_le, ne_eq] at g3
        rw [if_neg g3]
        replace hd := hd.trans (more_stop g3)
        refine w_exit (thn_x (rnd_x (inB_hit (thn_n ?_))))
        refine w_seq ?_
        refine w_draw (same _ _) mo (by kernel_rfl) ⟨rfl, rfl⟩ ?_
        refine any_take 0 rfl (by kernel_rfl) rfl (q_of fun D => w_move rfl rfl rfl ⟨rfl, rfl, rfl, rfl⟩) ?_
        refine any_take 1 rfl (by kernel_rfl) rfl (q_of fun D => w_nilCheck rfl rfl rfl ⟨rfl, rfl, rfl, rfl⟩) ?_
        refine any_take 2 rfl (by kernel_rfl) rfl (q_of fun D => w_fieldAddr rfl rfl fo35x0 rfl ⟨rfl, rfl, rfl, rfl⟩) ?_
        refine any_take 3 rfl (by kernel_rfl) rfl (q_of fun D => w_load1 rfl rfl lk9 rfl (atL 0 rfl rfl rfl) ⟨rfl, rfl, rfl, rfl⟩) ?_
        refine any_take 4 rfl (by kernel_rfl) rfl (q_of fun D => w_move rfl rfl rfl ⟨rfl, rfl, rfl, rfl⟩) ?_
        refine any_take 5 rfl (by kernel_rfl) rfl (q_of fun D => w_move rfl rfl rfl ⟨rfl, rfl, rfl, rfl⟩) ?_
        refine any_take 6 rfl (by kernel_rfl) rfl (q_of fun D => w_nilCheck rfl rfl rfl ⟨rfl, rfl, rfl, rfl⟩) ?_
        refine any_take 7 rfl (by kernel_rfl) rfl (q_of fun D => w_fieldAddr rfl rfl fo35x1 rfl ⟨rfl, rfl, rfl, rfl⟩) ?_
        refine any_take 8 rfl (by kernel_rfl) rfl (q_of fun D => w_load1 rfl rfl lk3 rfl (atL 0 rfl rfl rfl) ⟨rfl, rfl, rfl, rfl⟩) ?_
        refine any_take 9 rfl (by kernel_rfl) rfl (q_of fun D => w_sliceS rfl rfl Try.underlying9 rfl (a := i) (b := x.2) ⟨_, _, rfl, rfl⟩ ⟨_, _, rfl, rfl⟩ (by omega) (by omega) ⟨rfl, rfl, rfl, rfl⟩) ?_
        refine any_take 10 rfl (by kernel_rfl) rfl (q_of fun D => w_move rfl rfl rfl ⟨rfl, rfl, rfl, rfl⟩) ?_
        refine any_take 11 rfl (by kernel_rfl) rfl (q_of fun D => w_nilCheck rfl rfl rfl ⟨rfl, rfl, rfl, rfl⟩) ?_
        refine any_take 12 rfl (by kernel_rfl) rfl (q_of fun D => w_fieldAddr rfl rfl fo35x1 rfl ⟨rfl, rfl, rfl, rfl⟩) ?_
        refine any_take 13 rfl (by kernel_rfl) rfl (q_of fun D => w_load1 rfl rfl lk3 rfl (atL 0 rfl rfl rfl) ⟨rfl, rfl, rfl, rfl⟩) ?_
        refine any_take 14 rfl (by kernel_rfl) rfl (q_of fun D => w_move rfl rfl rfl ⟨rfl, rfl, rfl, rfl⟩) ?_
        refine any_take 15 rfl (by kernel_rfl) rfl (q_of fun D => w_sub rfl rfl rfl rfl (by first | exact wrI64 (by omega) (by omega) | rfl) ⟨rfl, rfl, rfl, rfl⟩) ?_
        refine any_take 16 rfl (by kernel_rfl) rfl (q_of fun D => w_leq rfl rfl rfl rfl ⟨rfl, rfl, rfl, rfl⟩) ?_
        refine any_take 17 rfl (by kernel_rfl) rfl (q_of fun D => w_assign rfl rfl rfl ⟨rfl, rfl, rfl, rfl⟩) ?_
        refine any_take 18 rfl (by kernel_rfl) rfl (q_of fun D => w_assign rfl rfl rfl ⟨rfl, rfl, rfl, rfl⟩) ?_
        refine any_done (by kernel_rfl) (by kernel_rfl) ?_
        refine thn_n ?_
        refine w_keep [(0, _), (2, _), (3, _), (4, _), (7, _), (26, _)] ⟨rfl, rfl, rfl, rfl, rfl, rfl, trivial⟩ ?_
        refine w_ret ?_
        exact end1 .ret (.inl rfl) [_, _] 0 rfl ⟨rfl, rfl, trivial⟩ ⟨two_eq (by simp [domText, hd]) (bool_eq (by rw [Bool.eq_iff_iff]; simp [domOk, hd]; omega)), rfl, by rw [hd]⟩
    · try simp only [decide_eq_true_eq, decide_eq_false_iff_not, Bool.not_eq_true', Bool.not_eq_false', decide_not, Decidable.not_not, Int.not_lt, Int.not_le, ne_eq] at g2
      replace hd : dom l i = (true, x.2) := hd.trans (by rw [show 3 - x.1 = 0 from by omega]; rfl)
      refine opW_x (w_pass rfl rfl ?_)
      refine opW_x (w_pass rfl rfl ?_)
      refine opW_x (w_pickF rfl rfl rfl rfl ?_)
      refine w_keep [(0, _), (4, _), (7, _), (26, _)] ⟨rfl, rfl, rfl, rfl, trivial⟩ ?_
      refine w_cond (t := false) rfl (fun h => Bool.noConfusion h) (fun _ => ?_)
      refine w_exit (thn_x (rnd_x (inB_hit (thn_n ?_))))
      refine w_seq ?_
      refine w_draw (same _ _) mo (by kernel_rfl) ⟨rfl, rfl⟩ ?_
      refine any_take 0 rfl (by kernel_rfl) rfl (q_of fun D => w_move rfl rfl rfl ⟨rfl, rfl, rfl, rfl⟩) ?_
      refine any_take 1 rfl (by kernel_rfl) rfl (q_of fun D => w_nilCheck rfl rfl rfl ⟨rfl, rfl, rfl, rfl⟩) ?_
      refine any_take 2 rfl (by kernel_rfl) rfl (q_of fun D => w_fieldAddr rfl rfl fo35x0 rfl ⟨rfl, rfl, rfl, rfl⟩) ?_
      refine any_take 3 rfl (by kernel_rfl) rfl (q_of fun D => w_load1 rfl rfl lk9 rfl (atL 0 rfl rfl rfl) ⟨rfl, rfl, rfl, rfl⟩) ?_
      refine any_take 4 rfl (by kernel_rfl) rfl (q_of fun D => w_move rfl rfl rfl ⟨rfl, rfl, rfl, rfl⟩) ?_
      refine any_take 5 rfl (by kernel_rfl) rfl (q_of fun D => w_move rfl rfl rfl ⟨rfl, rfl, rfl, rfl⟩) ?_
      refine any_take 6 rfl (by kernel_rfl) rfl (q_of fun D => w_nilCheck rfl rfl rfl ⟨rfl, rfl, rfl, rfl⟩) ?_
      refine any_take 7 rfl (by kernel_rfl) rfl (q_of fun D => w_fieldAddr rfl rfl fo35x1 rfl ⟨rfl, rfl, rfl, rfl⟩) ?_
      refine any_take 8 rfl (by kernel_rfl) rfl (q_of fun D => w_load1 rfl rfl lk3 rfl (atL 0 rfl rfl rfl) ⟨rfl, rfl, rfl, rfl⟩) ?_
      refine any_take 9 rfl (by kernel_rfl) rfl (q_of fun D => w_sliceS rfl rfl Try.underlying9 rfl (a := i) (b := x.2) ⟨_, _, rfl, rfl⟩ ⟨_, _, rfl, rfl⟩ (by omega) (by omega) ⟨rfl, rfl, rfl, rfl⟩) ?_
      refine any_take 10 rfl (by kernel_rfl) rfl (q_of fun D => w_move rfl rfl rfl ⟨rfl, rfl, rfl, rfl⟩) ?_
      refine any_take 11 rfl (by kernel_rfl) rfl (q_of fun D => w_nilCheck rfl rfl rfl ⟨rfl, rfl, rfl, rfl⟩) ?_
      refine any_take 12 rfl (by kernel_rfl) rfl (q_of fun D => w_fieldAddr rfl rfl fo35x1 rfl ⟨rfl, rfl, rfl, rfl⟩) ?_
      refine any_take 13 rfl (by kernel_rfl) rfl (q_of fun D => w_load1 rfl rfl lk3 rfl (atL 0 rfl rfl rfl) ⟨rfl, rfl, rfl, rfl⟩) ?_
      refine any_take 14 rfl (by kernel_rfl) rfl (q_of fun D => w_move rfl rfl rfl ⟨rfl, rfl, rfl, rfl⟩) ?_
      refine any_take 15 rfl (by kernel_rfl) rfl (q_of fun D => w_sub rfl rfl rfl rfl (by first | exact wrI64 (by omega) (by omega) | rfl) ⟨rfl, rfl, rfl, rfl⟩) ?_
      refine any_take 16 rfl (by kernel_rfl) rfl (q_of fun D => w_leq rfl rfl rfl rfl ⟨rfl, rfl, rfl, rfl⟩) ?_
      refine any_take 17 rfl (by kernel_rfl) rfl (q_of fun D => w_assign rfl rfl rfl ⟨rfl, rfl, rfl, rfl⟩) ?_
      refine any_take 18 rfl (by kernel_rfl) rfl (q_of fun D => w_assign rfl rfl rfl ⟨rfl, rfl, rfl, rfl⟩) ?_
      refine any_done (by kernel_rfl) (by kernel_rfl) ?_
      refine thn_n ?_
      refine w_keep [(0, _), (2, _), (3, _), (4, _), (7, _), (26, _)] ⟨rfl, rfl, rfl, rfl, rfl, rfl, trivial⟩ ?_
      refine w_ret ?_
      exact end1 .ret (.inl rfl) [_, _] 0 rfl ⟨rfl, rfl, trivial⟩ ⟨two_eq (by simp [domText, hd]) (bool_eq (by rw [Bool.eq_iff_iff]; simp [domOk, hd]; omega)), rfl, by rw [hd]⟩

set_option maxHeartbeats 400000 in
theorem implName_c (l : List UInt8) (hl : l.length ≤ 1000000) (B : Kn) : RetB Try.prog 6 [str l] B (.bool (nameOk l)) := by
  refine callsB_body 16 Try.func6 rfl rfl rfl (Nat.le_of_ble_eq_true rfl) ?_
  refine w_seq_region ?_
  refine opW_x (w_assign rfl rfl rfl ?_)
  refine w_keep [(0, _), (2, _)] ⟨rfl, rfl, trivial⟩ ?_
  refine w_seq_region ?_
  refine opW_x (w_move rfl rfl rfl ?_)
  refine opW_x (w_build (parts := [(0, _)]) [_, _] [_, _] rfl rfl pl35 zo35 rfl rfl rfl ?_)
  refine opW_x (w_alloc (l := [_, _]) rfl rfl zo35 rfl (fun b0 => ?_))
  refine opW_x (w_store [_, _] 0 [_, _] rfl rfl sz35 rfl rfl rfl rfl rfl rfl rfl rfl ?_)
  refine w_tidy [(0, _), (2, _), (3, _)] [_] ⟨rfl, rfl, rfl, trivial⟩ rfl ?_
  refine w_seq_region ?_
  refine opW_x (w_upd1 0 rfl rfl rfl en14 rfl (name_c _ _ 0 (by omega) hl _) ?_)
  refine opW_x (w_move rfl rfl rfl ?_)
  refine opW_x (w_extract rfl rfl rfl rfl ?_)
  refine opW_x (w_extract rfl rfl rfl rfl ?_)
  refine opW_x (w_assign rfl rfl rfl ?_)
  refine opW_x (w_assign rfl rfl rfl ?_)
  refine w_tidy [(0, _), (2, _), (3, _), (5, _)] [_] ⟨rfl, rfl, rfl, rfl, trivial⟩ rfl ?_
  refine w_seq_region ?_
  refine opW_x (w_move rfl rfl rfl ?_)
  refine opW_x (w_move rfl rfl rfl ?_)
  refine r_split (d := 13) rfl (fun g1 => ?_) (fun g1 => ?_)
  · try simp only [decide_eq_true_eq, decide_eq_false_iff_not, Bool.not_eq_true', Bool.not_eq_false', decide_not, Decidable.not_not, Int.not_lt, Int.not_le, ne_eq] at g1
    refine opW_x (w_ret1 0 rfl rfl rfl en15 rfl (done_c _ _ (0 + (word l 0).length) (word_le (Nat.zero_le _)) (by omega) _) ?_)
    refine opW_x (w_pickT rfl rfl rfl rfl ?_)
    refine opW_x (w_assign rfl rfl rfl ?_)
    refine w_keep [(0, _), (2, _), (3, _), (5, _)] ⟨rfl, rfl, rfl, rfl, trivial⟩ ?_
    refine w_ret ?_
    exact end0 .ret (.inl rfl) [_] ⟨rfl, trivial⟩ ⟨bool_eq (by rw [nameOk_word]; simp [g1]; try omega), rfl, rfl⟩
  · try simp only [decide_eq_true_eq, decide_eq_false_iff_not, Bool.not_eq_true', Bool.not_eq_false', decide_not, Decidable.not_not, Int.not_lt, Int.not_le, ne_eq] at g1
    refine opW_x (w_pass rfl rfl ?_)
    refine opW_x (w_pickF rfl rfl rfl rfl ?_)
    refine opW_x (w_assign rfl rfl rfl ?_)
    refine w_keep [(0, _), (2, _), (3, _), (5, _)] ⟨rfl, rfl, rfl, rfl, trivial⟩ ?_
    refine w_ret ?_
    exact end0 .ret (.inl rfl) [_] ⟨rfl, trivial⟩ ⟨bool_eq (by rw [nameOk_word]; simp [g1]; try omega), rfl, rfl⟩

abbrev rd (b : Nat) (q : Option Addr) (m cp p : Nat) : Cells := box1 b [.slice q m cp, .int .i64 p] 47
set_option maxHeartbeats 400000 in
theorem l6Open_c (q : Option Addr) (m cp : Nat) (hmc : m ≤ cp) (B : Kn) (hb : BytesAt B q m) : New1 Try.prog 13 [.slice q m cp] B (fun v s => ∃ b q m cp, v = ptr ⟨b, 0, none⟩ ∧ s = rd b q m cp 0 ∧ m ≤ 2000 ∧ BytesAt B q m) := by
  refine callsB_body 11 Try.func13 rfl rfl rfl (Nat.le_of_ble_eq_true rfl) ?_
  refine w_seq_region ?_
  refine opW_x (w_assign rfl rfl rfl ?_)
  refine w_keep [(0, _), (2, _)] ⟨rfl, rfl, trivial⟩ ?_
  refine w_seq ?_
  refine w_seq_region ?_
  refine opW_x (w_move rfl rfl rfl ?_)
  refine opW_x (w_lenV rfl rfl Try.underlying22 rfl ?_)
  refine opW_x (w_gtr rfl rfl rfl rfl ?_)
  refine w_keep [(0, _), (2, _), (5, _)] ⟨rfl, rfl, rfl, trivial⟩ ?_
  refine w_cond rfl (fun g1 => ?_) (fun g1 => ?_)
  · try simp only [decide_eq_true_eq, decide_eq_false_iff_not, Bool.not_eq_true', Bool.not_eq_false', decide_not, Decidable.not_not, Int.not_lt, Int.not_le, ne_eq] at g1
    refine w_region ?_
    refine opW_x (w_move rfl rfl rfl ?_)
    refine opW_x (w_sliceV rfl rfl Try.underlying22 sz5 rfl (a := 0) (b := 2000) rfl ⟨_, _, rfl, rfl⟩ (by omega) (by omega) ?_)
    refine opW_x (w_assign rfl rfl rfl ?_)
    refine thn_n ?_
    refine w_seq_region ?_
    refine opW_x (w_move rfl rfl rfl ?_)
    refine opW_x (w_build (parts := [(0, _)]) [_, _] [_, _] rfl rfl pl47 zo47 rfl rfl rfl ?_)
    refine opW_x (w_box (l := [_, _]) rfl rfl rfl rfl (fun b0 => ?_))
    refine opW_x (w_assign rfl rfl rfl ?_)
    refine w_tidy [(0, _), (2, _), (5, _)] [_] ⟨rfl, rfl, rfl, trivial⟩ rfl ?_
    refine w_ret ?_
    exact end1 .ret (.inl rfl) [_] 0 rfl ⟨rfl, trivial⟩ ⟨rfl, _, rfl, _, _, _, _, rfl, rfl, by omega, hb.take (by omega)⟩
  · try simp only [decide_eq_true_eq, decide_eq_false_iff_not, Bool.not_eq_true', Bool.not_eq_false', decide_not, Decidable.not_not, Int.not_lt, Int.not_le, ne_eq] at g1
    refine w_skip ?_
    refine thn_n ?_
    refine w_seq_region ?_
    refine opW_x (w_move rfl rfl rfl ?_)
    refine opW_x (w_build (parts := [(0, _)]) [_, _] [_, _] rfl rfl pl47 zo47 rfl rfl rfl ?_)
    refine opW_x (w_box (l := [_, _]) rfl rfl rfl rfl (fun b0 => ?_))
    refine opW_x (w_assign rfl rfl rfl ?_)
    refine w_tidy [(0, _), (2, _), (5, _)] [_] ⟨rfl, rfl, rfl, trivial⟩ rfl ?_
    refine w_ret ?_
    exact end1 .ret (.inl rfl) [_] 0 rfl ⟨rfl, trivial⟩ ⟨rfl, _, rfl, _, _, _, _, rfl, rfl, by omega, hb⟩

set_option maxHeartbeats 400000 in
theorem pick_c (b : Nat) (q : Option Addr) (m cp p : Nat) (n : Int) (hp : p ≤ 1000000000000) (hn : 1 ≤ n) (hn2 : n ≤ 1000000000000) (hm : m ≤ 2000) (B : Kn) (hb : BytesAt B q m) : Ex1 Try.prog 18 [ptr ⟨b, 0, none⟩, .int .i64 n] B (rd b q m cp p) (fun v s => ∃ r : Int, v = .int .i64 r ∧ 0 ≤ r ∧ r < n ∧ s = rd b q m cp (p + 1)) := by
  refine callsB_body 99 Try.func18 rfl rfl rfl (Nat.le_of_ble_eq_true rfl) ?_
  refine w_seq_region ?_
  refine opW_x (w_assign rfl rfl rfl ?_)
  refine w_keep [(0, _), (1, _), (4, _)] ⟨rfl, rfl, rfl, trivial⟩ ?_
  refine w_seq_region ?_
  refine opW_x (w_move rfl rfl rfl ?_)
  refine opW_x (w_move rfl rfl rfl ?_)
  refine opW_x (w_nilCheck rfl rfl rfl ?_)
  refine opW_x (w_fieldAddr rfl rfl fo47x1 rfl ?_)
  refine opW_x (w_load1 rfl rfl lk3 rfl (atL 0 rfl rfl rfl) ?_)
  refine opW_x (w_add rfl rfl rfl rfl (by first | exact wrI64 (by omega) (by omega) | rfl) ?_)
  refine opW_x (w_nilCheck rfl rfl rfl ?_)
  refine opW_x (w_fieldAddr rfl rfl fo47x1 rfl ?_)
  refine opW_x (w_store [_] 0 [_, _] rfl rfl sz3 rfl rfl rfl rfl rfl rfl rfl rfl ?_)
  refine w_tidy [(0, _), (1, _), (4, _)] [_] ⟨rfl, rfl, rfl, trivial⟩ rfl ?_
  refine w_seq ?_
  refine w_seq_region ?_
  refine opW_x (w_move rfl rfl rfl ?_)
  refine opW_x (w_lss rfl rfl rfl rfl ?_)
  refine opW_x (w_move rfl rfl rfl ?_)
  refine r_split (d := 17) rfl (fun g1 => by have := of_decide_eq_true g1; omega) (fun g1 => ?_)
  try simp only [decide_eq_true_eq, decide_eq_false_iff_not, Bool.not_eq_true', Bool.not_eq_false', decide_not, Decidable.not_not, Int.not_lt, Int.not_le, ne_eq] at g1
  refine opW_x (w_move rfl rfl rfl ?_)
  refine opW_x (w_nilCheck rfl rfl rfl ?_)
  refine opW_x (w_fieldAddr rfl rfl fo47x0 rfl ?_)
  refine opW_x (w_load1 rfl rfl lk22 rfl (atL 0 rfl rfl rfl) ?_)
  refine opW_x (w_lenV rfl rfl Try.underlying22 rfl ?_)
  refine opW_x (w_eqlI rfl rfl rfl rfl ?_)
  refine opW_x (w_pickF rfl rfl rfl rfl ?_)
  refine w_keep [(0, _), (1, _), (4, _), (24, _)] ⟨rfl, rfl, rfl, rfl, trivial⟩ ?_
  refine w_cond rfl (fun g2 => ?_) (fun g2 => ?_)
  · try simp only [decide_eq_true_eq, decide_eq_false_iff_not, Bool.not_eq_true', Bool.not_eq_false', decide_not, Decidable.not_not, Int.not_lt, Int.not_le, ne_eq] at g2
    refine w_seq_region ?_
    refine opW_x (w_assign rfl rfl rfl ?_)
    refine w_keep [(0, _), (1, _), (4, _), (24, _)] ⟨rfl, rfl, rfl, rfl, trivial⟩ ?_
    refine w_ret (thn_r ?_)
    exact end1 .ret (.inl rfl) [_] 0 rfl ⟨rfl, trivial⟩ ⟨rfl, _, rfl, 0, rfl, by omega, by omega, rfl⟩
  · try simp only [decide_eq_true_eq, decide_eq_false_iff_not, Bool.not_eq_true', Bool.not_eq_false', decide_not, Decidable.not_not, Int.not_lt, Int.not_le, ne_eq] at g2
    have hm0 : 0 < m := by omega
    obtain ⟨a, rfl, hc⟩ := hb.at hm0
    refine w_skip ?_
    refine thn_n ?_
    refine w_seq_region ?_
    refine opW_x (w_move rfl rfl rfl ?_)
    refine opW_x (w_nilCheck rfl rfl rfl ?_)
    refine opW_x (w_fieldAddr rfl rfl fo47x1 rfl ?_)
    refine opW_x (w_load1 rfl rfl lk3 rfl (atL 0 rfl rfl rfl) ?_)
    refine opW_x (w_sub rfl rfl rfl rfl (by first | exact wrI64 (by omega) (by omega) | rfl) ?_)
    refine opW_x (w_assign rfl rfl rfl ?_)
    refine w_keep [(0, _), (1, _), (4, _), (5, _), (24, _)] ⟨rfl, rfl, rfl, rfl, rfl, trivial⟩ ?_
    refine w_seq ?_
    refine w_seq_region ?_
    refine opW_x (w_move rfl rfl rfl ?_)
    refine opW_x (w_move rfl rfl rfl ?_)
    refine opW_x (w_nilCheck rfl rfl rfl ?_)
    refine opW_x (w_fieldAddr rfl rfl fo47x0 rfl ?_)
    refine opW_x (w_load1 rfl rfl lk22 rfl (atL 0 rfl rfl rfl) ?_)
    refine opW_x (w_lenV rfl rfl Try.underlying22 rfl ?_)
    refine opW_x (w_lss rfl rfl rfl rfl ?_)
    refine w_keep [(0, _), (1, _), (4, _), (5, _), (24, _), (36, _)] ⟨rfl, rfl, rfl, rfl, rfl, rfl, trivial⟩ ?_
    refine w_cond rfl (fun g3 => ?_) (fun g3 => ?_)
    · try simp only [decide_eq_true_eq, decide_eq_false_iff_not, Bool.not_eq_true', Bool.not_eq_false', decide_not, Decidable.not_not, Int.not_lt, Int.not_le, ne_eq] at g3
      obtain ⟨z, hz, h1⟩ := hc (↑p + 1 - 1) (by omega) (by omega)
      refine w_seq_region ?_
      refine opW_x (w_move rfl rfl rfl ?_)
      refine opW_x (w_nilCheck rfl rfl rfl ?_)
      refine opW_x (w_fieldAddr rfl rfl fo47x0 rfl ?_)
      refine opW_x (w_load1 rfl rfl lk22 rfl (atL 0 rfl rfl rfl) ?_)
      refine opW_x (w_move rfl rfl rfl ?_)
      refine opW_x (w_indexAddr rfl rfl Try.underlying22 sz5 rfl rfl (by omega) (by omega) ?_)
      refine opW_x (w_load1 rfl rfl lk5 rfl (h1 _) ?_)
      refine opW_x (w_convI rfl rfl Try.underlying5 Try.underlying3 rfl (by first | exact wrI64 (by omega) (by omega) | rfl) ?_)
      refine opW_x (w_move rfl rfl rfl ?_)
      refine opW_x (w_rem rfl rfl rfl rfl (by omega) (by first | exact wrI64 (by omega) (by omega) | rfl) ?_)
      refine opW_x (w_assign rfl rfl rfl ?_)
      refine w_keep [(0, _), (1, _), (4, _), (5, _), (24, _), (36, _)] ⟨rfl, rfl, rfl, rfl, rfl, rfl, trivial⟩ ?_
      refine w_ret (thn_r ?_)
      exact end1 .ret (.inl rfl) [_] 0 rfl ⟨rfl, trivial⟩ ⟨rfl, _, rfl, _, rfl, Int.tmod_nonneg _ (by omega), Int.tmod_lt_of_pos _ (by omega), rfl⟩
    · try simp only [decide_eq_true_eq, decide_eq_false_iff_not, Bool.not_eq_true', Bool.not_eq_false', decide_not, Decidable.not_not, Int.not_lt, Int.not_le, ne_eq] at g3
      obtain ⟨z, hz, h1⟩ := hc (Int.tmod (↑p + 1 - 1) ↑m) (Int.tmod_nonneg _ (by omega)) (Int.tmod_lt_of_pos _ (by omega))
      obtain ⟨z2, hz2, h2⟩ := hc (Int.tmod ((↑p + 1 - 1) * 7 + 3) ↑m) (Int.tmod_nonneg _ (by omega)) (Int.tmod_lt_of_pos _ (by omega))
      have ht0 : 0 ≤ Int.tdiv (↑p + 1 - 1) ↑m := Int.tdiv_nonneg (by omega) (by omega)
      have ht1 : Int.tdiv (↑p + 1 - 1) ↑m ≤ ↑p + 1 - 1 := Int.tdiv_le_self _ (by omega)
      refine w_skip ?_
      refine thn_n ?_
      refine w_seq ?_
      refine w_draw (same _ _) mo (by kernel_rfl) ⟨rfl, rfl⟩ ?_
      refine any_take 0 rfl (by kernel_rfl) rfl (q_of fun D => w_move rfl rfl rfl ⟨rfl, rfl, rfl, rfl⟩) ?_
      refine any_take 1 rfl (by kernel_rfl) rfl (q_of fun D => w_nilCheck rfl rfl rfl ⟨rfl, rfl, rfl, rfl⟩) ?_
      refine any_take 2 rfl (by kernel_rfl) rfl (q_of fun D => w_fieldAddr rfl rfl fo47x0 rfl ⟨rfl, rfl, rfl, rfl⟩) ?_
      refine any_take 3 rfl (by kernel_rfl) rfl (q_of fun D => w_load1 rfl rfl lk22 rfl (atL 0 rfl rfl rfl) ⟨rfl, rfl, rfl, rfl⟩) ?_
      refine any_take 4 rfl (by kernel_rfl) rfl (q_of fun D => w_move rfl rfl rfl ⟨rfl, rfl, rfl, rfl⟩) ?_
      refine any_take 5 rfl (by kernel_rfl) rfl (q_of fun D => w_move rfl rfl rfl ⟨rfl, rfl, rfl, rfl⟩) ?_
      refine any_take 6 rfl (by kernel_rfl) rfl (q_of fun D => w_nilCheck rfl rfl rfl ⟨rfl, rfl, rfl, rfl⟩) ?_
      refine any_take 7 rfl (by kernel_rfl) rfl (q_of fun D => w_fieldAddr rfl rfl fo47x0 rfl ⟨rfl, rfl, rfl, rfl⟩) ?_
      refine any_take 8 rfl (by kernel_rfl) rfl (q_of fun D => w_load1 rfl rfl lk22 rfl (atL 0 rfl rfl rfl) ⟨rfl, rfl, rfl, rfl⟩) ?_
      refine any_take 9 rfl (by kernel_rfl) rfl (q_of fun D => w_lenV rfl rfl Try.underlying22 rfl ⟨rfl, rfl, rfl, rfl⟩) ?_
      refine any_take 10 rfl (by kernel_rfl) rfl (q_of fun D => w_rem rfl rfl rfl rfl (by omega) (by first | exact wrI64 (by omega) (by omega) | rfl) ⟨rfl, rfl, rfl, rfl⟩) ?_
      refine any_take 11 rfl (by kernel_rfl) rfl (q_of fun D => w_indexAddr rfl rfl Try.underlying22 sz5 rfl rfl (Int.tmod_nonneg _ (by omega)) (Int.tmod_lt_of_pos _ (by omega)) ⟨rfl, rfl, rfl, rfl⟩) ?_
      refine any_take 12 rfl (by kernel_rfl) rfl (q_of fun D => w_load1 rfl rfl lk5 rfl (h1 _) ⟨rfl, rfl, rfl, rfl⟩) ?_
      refine any_take 13 rfl (by kernel_rfl) rfl (q_of fun D => w_convI rfl rfl Try.underlying5 Try.underlying3 rfl (by first | exact wrI64 (by omega) (by omega) | rfl) ⟨rfl, rfl, rfl, rfl⟩) ?_
      refine any_take 14 rfl (by kernel_rfl) rfl (q_of fun D => w_mul rfl rfl rfl rfl (by first | exact wrI64 (by omega) (by omega) | rfl) ⟨rfl, rfl, rfl, rfl⟩) ?_
      refine any_take 15 rfl (by kernel_rfl) rfl (q_of fun D => w_move rfl rfl rfl ⟨rfl, rfl, rfl, rfl⟩) ?_
      refine any_take 16 rfl (by kernel_rfl) rfl (q_of fun D => w_nilCheck rfl rfl rfl ⟨rfl, rfl, rfl, rfl⟩) ?_
      refine any_take 17 rfl (by kernel_rfl) rfl (q_of fun D => w_fieldAddr rfl rfl fo47x0 rfl ⟨rfl, rfl, rfl, rfl⟩) ?_
      refine any_take 18 rfl (by kernel_rfl) rfl (q_of fun D => w_load1 rfl rfl lk22 rfl (atL 0 rfl rfl rfl) ⟨rfl, rfl, rfl, rfl⟩) ?_
      refine any_take 19 rfl (by kernel_rfl) rfl (q_of fun D => w_move rfl rfl rfl ⟨rfl, rfl, rfl, rfl⟩) ?_
      refine any_take 20 rfl (by kernel_rfl) rfl (q_of fun D => w_mul rfl rfl rfl rfl (by first | exact wrI64 (by omega) (by omega) | rfl) ⟨rfl, rfl, rfl, rfl⟩) ?_
      refine any_take 21 rfl (by kernel_rfl) rfl (q_of fun D => w_add rfl rfl rfl rfl (by first | exact wrI64 (by omega) (by omega) | rfl) ⟨rfl, rfl, rfl, rfl⟩) ?_
      refine any_take 22 rfl (by kernel_rfl) rfl (q_of fun D => w_move rfl rfl rfl ⟨rfl, rfl, rfl, rfl⟩) ?_
      refine any_take 23 rfl (by kernel_rfl) rfl (q_of fun D => w_nilCheck rfl rfl rfl ⟨rfl, rfl, rfl, rfl⟩) ?_
      refine any_take 24 rfl (by kernel_rfl) rfl (q_of fun D => w_fieldAddr rfl rfl fo47x0 rfl ⟨rfl, rfl, rfl, rfl⟩) ?_
      refine any_take 25 rfl (by kernel_rfl) rfl (q_of fun D => w_load1 rfl rfl lk22 rfl (atL 0 rfl rfl rfl) ⟨rfl, rfl, rfl, rfl⟩) ?_
      refine any_take 26 rfl (by kernel_rfl) rfl (q_of fun D => w_lenV rfl rfl Try.underlying22 rfl ⟨rfl, rfl, rfl, rfl⟩) ?_
      refine any_take 27 rfl (by kernel_rfl) rfl (q_of fun D => w_rem rfl rfl rfl rfl (by omega) (by first | exact wrI64 (by omega) (by omega) | rfl) ⟨rfl, rfl, rfl, rfl⟩) ?_
      refine any_take 28 rfl (by kernel_rfl) rfl (q_of fun D => w_indexAddr rfl rfl Try.underlying22 sz5 rfl rfl (Int.tmod_nonneg _ (by omega)) (Int.tmod_lt_of_pos _ (by omega)) ⟨rfl, rfl, rfl, rfl⟩) ?_
      refine any_take 29 rfl (by kernel_rfl) rfl (q_of fun D => w_load1 rfl rfl lk5 rfl (h2 _) ⟨rfl, rfl, rfl, rfl⟩) ?_
      refine any_take 30 rfl (by kernel_rfl) rfl (q_of fun D => w_convI rfl rfl Try.underlying5 Try.underlying3 rfl (by first | exact wrI64 (by omega) (by omega) | rfl) ⟨rfl, rfl, rfl, rfl⟩) ?_
      refine any_take 31 rfl (by kernel_rfl) rfl (q_of fun D => w_mul rfl rfl rfl rfl (by first | exact wrI64 (by omega) (by omega) | rfl) ⟨rfl, rfl, rfl, rfl⟩) ?_
      refine any_take 32 rfl (by kernel_rfl) rfl (q_of fun D => w_add rfl rfl rfl rfl (by first | exact wrI64 (by omega) (by omega) | rfl) ⟨rfl, rfl, rfl, rfl⟩) ?_
      refine any_take 33 rfl (by kernel_rfl) rfl (q_of fun D => w_move rfl rfl rfl ⟨rfl, rfl, rfl, rfl⟩) ?_
      refine any_take 34 rfl (by kernel_rfl) rfl (q_of fun D => w_mul rfl rfl rfl rfl (by first | exact wrI64 (by omega) (by omega) | rfl) ⟨rfl, rfl, rfl, rfl⟩) ?_
      refine any_take 35 rfl (by kernel_rfl) rfl (q_of fun D => w_add rfl rfl rfl rfl (by first | exact wrI64 (by omega) (by omega) | rfl) ⟨rfl, rfl, rfl, rfl⟩) ?_
      refine any_take 36 rfl (by kernel_rfl) rfl (q_of fun D => w_move rfl rfl rfl ⟨rfl, rfl, rfl, rfl⟩) ?_
      refine any_take 37 rfl (by kernel_rfl) rfl (q_of fun D => w_move rfl rfl rfl ⟨rfl, rfl, rfl, rfl⟩) ?_
      refine any_take 38 rfl (by kernel_rfl) rfl (q_of fun D => w_nilCheck rfl rfl rfl ⟨rfl, rfl, rfl, rfl⟩) ?_
      refine any_take 39 rfl (by kernel_rfl) rfl (q_of fun D => w_fieldAddr rfl rfl fo47x0 rfl ⟨rfl, rfl, rfl, rfl⟩) ?_
      refine any_take 40 rfl (by kernel_rfl) rfl (q_of fun D => w_load1 rfl rfl lk22 rfl (atL 0 rfl rfl rfl) ⟨rfl, rfl, rfl, rfl⟩) ?_
      refine any_take 41 rfl (by kernel_rfl) rfl (q_of fun D => w_lenV rfl rfl Try.underlying22 rfl ⟨rfl, rfl, rfl, rfl⟩) ?_
      refine any_take 42 rfl (by kernel_rfl) rfl (q_of fun D => w_quo rfl rfl rfl rfl (by omega) (by first | exact wrI64 (by omega) (by omega) | rfl) ⟨rfl, rfl, rfl, rfl⟩) ?_
      refine any_take 43 rfl (by kernel_rfl) rfl (q_of fun D => w_mul rfl rfl rfl rfl (by first | exact wrI64 (by omega) (by omega) | rfl) ⟨rfl, rfl, rfl, rfl⟩) ?_
      refine any_take 44 rfl (by kernel_rfl) rfl (q_of fun D => w_add rfl rfl rfl rfl (by first | exact wrI64 (by omega) (by omega) | rfl) ⟨rfl, rfl, rfl, rfl⟩) ?_
      refine any_take 45 rfl (by kernel_rfl) rfl (q_of fun D => w_assign rfl rfl rfl ⟨rfl, rfl, rfl, rfl⟩) ?_
      refine any_done (by kernel_rfl) (by kernel_rfl) ?_
      refine thn_n ?_
      refine w_keep [(0, _), (1, _), (4, _), (5, _), (6, _), (24, _), (36, _)] ⟨rfl, rfl, rfl, rfl, rfl, rfl, rfl, trivial⟩ ?_
      generalize hx : (↑z * 131 + ↑z2 * 1117 + (↑p + 1 - 1) * 29 + (↑p + 1 - 1 : Int).tdiv ↑m * 53 : Int) = x
      have hx0 : 0 ≤ x := by omega
      have hx1 : x < 1000000000000000 := by omega
      have hy0 : 0 ≤ Int.tdiv x 64 := Int.tdiv_nonneg (by omega) (by omega)
      have hy1 : Int.tdiv x 64 ≤ x := Int.tdiv_le_self _ (by omega)
      refine w_seq_region ?_
      refine opW_x (w_move rfl rfl rfl ?_)
      refine opW_x (w_move rfl rfl rfl ?_)
      refine opW_x (w_quo rfl rfl rfl rfl (by omega) (by first | exact wrI64 (by omega) (by omega) | rfl) ?_)
      refine opW_x (w_xor rfl rfl rfl rfl (by omega) (by omega) (by omega) (by omega) (fun y hy2 hy3 => ?_))
      refine opW_x (w_assign rfl rfl rfl ?_)
      refine w_keep [(0, _), (1, _), (4, _), (5, _), (6, _), (24, _), (36, _)] ⟨rfl, rfl, rfl, rfl, rfl, rfl, rfl, trivial⟩ ?_
      refine w_seq_region ?_
      refine opW_x (w_move rfl rfl rfl ?_)
      refine opW_x (w_move rfl rfl rfl ?_)
      refine opW_x (w_rem rfl rfl rfl rfl (by omega) (by first | exact wrI64 (by omega) (by omega) | rfl) ?_)
      refine opW_x (w_assign rfl rfl rfl ?_)
      refine w_keep [(0, _), (1, _), (4, _), (5, _), (6, _), (24, _), (36, _)] ⟨rfl, rfl, rfl, rfl, rfl, rfl, rfl, trivial⟩ ?_
      refine w_ret ?_
      exact end1 .ret (.inl rfl) [_] 0 rfl ⟨rfl, trivial⟩ ⟨rfl, _, rfl, _, rfl, Int.tmod_nonneg _ (by omega), Int.tmod_lt_of_pos _ (by omega), rfl⟩

set_option maxHeartbeats 400000 in
theorem of_c (b : Nat) (q : Option Addr) (m cp p : Nat) (b1 : Nat) (ls : List (List UInt8)) (hp : p ≤ 1000000000000) (hn : 1 ≤ ls.length) (hn2 : ls.length ≤ 1000000000000) (hm : m ≤ 2000) (B : Kn) (hbm : BytesAt B q m) : CallsB Try.prog 22 [ptr ⟨b, 0, none⟩, .slice (some ⟨b1, 0, none⟩) ls.length ls.length] B [rd b q m cp p, box1 b1 (ls.map str) 9] (fun v B' Ls => B' = B ∧ ∃ x, x ∈ ls ∧ v = str x ∧ Ls = [rd b q m cp (p + 1)]) := by
  refine callsB_body 12 Try.func22 rfl rfl rfl (Nat.le_of_ble_eq_true rfl) ?_
  skip
  refine w_seq_region ?_
  refine opW_x (w_assign rfl rfl rfl ?_)
  refine w_keep [(0, _), (1, _), (4, _)] ⟨rfl, rfl, rfl, trivial⟩ ?_
  refine w_seq_region ?_
  refine opW_x (w_move rfl rfl rfl ?_)
  refine opW_x (w_move rfl rfl rfl ?_)
  refine opW_x (w_move rfl rfl rfl ?_)
  refine opW_x (w_lenV rfl rfl Try.underlying42 rfl ?_)
  refine opW_x (w_ex1 0 rfl rfl rfl en18 rfl (pick_c _ _ _ _ _ _ (by omega) (by omega) (by omega) hm _ hbm) ?_)
  rintro _ _ ⟨r1, rfl, r1a, r1b, rfl⟩
  refine opW_x (w_indexAddr rfl rfl Try.underlying42 sz9 rfl rfl (by omega) (by omega) ?_)
  obtain ⟨x, hx⟩ : ∃ x, ls[r1.toNat]? = some x := ⟨_, List.getElem?_eq_getElem (by omega)⟩
  refine opW_x (w_load1 rfl rfl lk9 rfl (atElem 1 rfl (v := str x) (by rw [Nat.mul_one, List.getElem?_map, hx]; rfl)) ?_)
  refine opW_x (w_assign rfl rfl rfl ?_)
  refine w_tidy [(0, _), (1, _), (4, _)] [_, _] ⟨rfl, rfl, rfl, trivial⟩ rfl ?_
  refine w_ret ?_
  exact endN .ret (.inl rfl) [_] [0] rfl ⟨rfl, trivial⟩ ⟨rfl, x, List.mem_of_getElem? hx, rfl, rfl⟩

set_option maxHeartbeats 400000 in
theorem l91Name_c (b : Nat) (q : Option Addr) (m cp p : Nat) (hp : p ≤ 900000000000) (hm : m ≤ 2000) (B : Kn) (hbm : BytesAt B q m) : Ex1 Try.prog 12 [ptr ⟨b, 0, none⟩] B (rd b q m cp p) (fun v s => ∃ x : List UInt8, v = str x ∧ x.length ≤ 9 ∧ s = rd b q m cp (p + 2)) := by
  refine callsB_body 12 Try.func12 rfl rfl rfl (Nat.le_of_ble_eq_true rfl) ?_
  refine w_seq_region ?_
  refine opW_x (w_assign rfl rfl rfl ?_)
  refine w_keep [(0, _), (2, _)] ⟨rfl, rfl, trivial⟩ ?_
  refine w_seq ?_
  refine w_seq_region ?_
  refine opW_x (w_move rfl rfl rfl ?_)
  refine opW_x (w_ex1 0 rfl rfl rfl en18 rfl (pick_c _ _ _ _ _ _ (by omega) (by omega) (by omega) hm _ hbm) ?_)
  rintro _ _ ⟨r1, rfl, r1a, r1b, rfl⟩
  refine opW_x (w_eqlI rfl rfl rfl rfl ?_)
  refine w_tidy [(0, _), (2, _), (5, _)] [_] ⟨rfl, rfl, rfl, trivial⟩ rfl ?_
  refine w_cond rfl (fun g1 => ?_) (fun g1 => ?_)
  · try simp only [decide_eq_true_eq, decide_eq_false_iff_not, Bool.not_eq_true', Bool.not_eq_false', decide_not, Decidable.not_not, Int.not_lt, Int.not_le, ne_eq] at g1
    refine w_seq_region ?_
    refine opW_x (w_move rfl rfl rfl ?_)
    refine opW_x (w_buildSlice (parts := [(0, _), (1, _), (2, _), (3, _), (4, _), (5, _), (6, _)]) [_, _, _, _, _, _, _] rfl rfl Try.underlying42 sz9 zo9 rfl rfl rfl rfl rfl (fun b1 => ?_))
    refine opW_x (w_callN [0, 1] rfl rfl rfl rfl en22 rfl (of_c _ _ _ _ _ _ [[], [65], [116, 111, 111, 108, 111, 110, 103, 49, 50], [97, 45, 98], [101, 105, 103, 104, 116, 56, 56, 56], [48], [97, 110, 121, 111, 110, 101]] (by omega) (by decide) (by decide) hm _ hbm) ?_)
    rintro _ _ _ hle2 ⟨rfl, x2, hx2, rfl, rfl⟩
    refine opW_x (w_assign rfl rfl rfl ?_)
    refine w_tidy [(0, _), (2, _), (5, _)] [_, _] ⟨rfl, rfl, rfl, trivial⟩ rfl ?_
    refine w_ret (thn_r ?_)
    exact end1 .ret (.inl rfl) [_] 0 rfl ⟨rfl, trivial⟩ ⟨rfl, _, rfl, x2, rfl, (show ∀ x ∈ _, x.length ≤ 9 from by decide) _ hx2, rfl⟩
  · try simp only [decide_eq_true_eq, decide_eq_false_iff_not, Bool.not_eq_true', Bool.not_eq_false', decide_not, Decidable.not_not, Int.not_lt, Int.not_le, ne_eq] at g1
    refine w_skip ?_
    refine thn_n ?_
    refine w_seq_region ?_
    refine opW_x (w_move rfl rfl rfl ?_)
    refine opW_x (w_buildSlice (parts := [(0, _), (1, _), (2, _), (3, _), (4, _), (5, _)]) [_, _, _, _, _, _] rfl rfl Try.underlying42 sz9 zo9 rfl rfl rfl rfl rfl (fun b1 => ?_))
    refine opW_x (w_callN [0, 1] rfl rfl rfl rfl en22 rfl (of_c _ _ _ _ _ _ [[97, 109, 121], [98, 111, 98], [99, 121, 100], [100, 97, 110], [98, 111, 120, 49], [120]] (by omega) (by decide) (by decide) hm _ hbm) ?_)
    rintro _ _ _ hle3 ⟨rfl, x3, hx3, rfl, rfl⟩
    refine opW_x (w_assign rfl rfl rfl ?_)
    refine w_tidy [(0, _), (2, _), (5, _)] [_, _] ⟨rfl, rfl, rfl, trivial⟩ rfl ?_
    refine w_ret ?_
    exact end1 .ret (.inl rfl) [_] 0 rfl ⟨rfl, trivial⟩ ⟨rfl, _, rfl, x3, rfl, (show ∀ x ∈ _, x.length ≤ 9 from by decide) _ hx3, rfl⟩

set_option maxHeartbeats 400000 in
theorem DrawNameValid_c (q : Option Addr) (m cp : Nat) (hmc : m ≤ cp) (B : Kn) (hb : BytesAt B q m) : Ex0 Try.prog 5 [.slice q m cp] B (fun v => ∃ x : List UInt8, v = str x ∧ x.length ≤ 9) := by
  refine callsB_body 6 Try.func5 rfl rfl rfl (Nat.le_of_ble_eq_true rfl) ?_
  refine w_seq_region ?_
  refine opW_x (w_assign rfl rfl rfl ?_)
  refine w_keep [(0, _), (2, _)] ⟨rfl, rfl, trivial⟩ ?_
  refine w_seq_region ?_
  refine opW_x (w_move rfl rfl rfl ?_)
  refine opW_x (w_new1 rfl rfl en13 rfl (l6Open_c _ _ _ (by omega) _ (by assumption)) ?_)
  rintro _ _ ⟨br, q, m, cp, rfl, rfl, hm, hbm⟩
  refine opW_x (w_ex1 0 rfl rfl rfl en12 rfl (l91Name_c _ _ _ _ _ (by omega) hm _ hbm) ?_)
  rintro _ _ ⟨x2, rfl, hx2, rfl⟩
  refine opW_x (w_assign rfl rfl rfl ?_)
  refine w_tidy [(0, _), (2, _)] [_] ⟨rfl, rfl, trivial⟩ rfl ?_
  refine w_ret ?_
  exact end0 .ret (.inl rfl) [_] ⟨rfl, trivial⟩ ⟨rfl, rfl, _, rfl, by assumption⟩

set_option maxHeartbeats 400000 in
theorem put_c (l : List UInt8) (k : Nat) (x : List UInt8) (hk : k ≤ l.length) (hl : l.length ≤ 1000000) (hx : x.length ≤ 1000000) (B : Kn) : RetB Try.prog 8 [str l, .int .i64 k, str x] B (str (l.take k ++ x ++ l.drop k)) := by
  refine callsB_body 16 Try.func8 rfl rfl rfl (Nat.le_of_ble_eq_true rfl) ?_
  refine w_seq_region ?_
  refine opW_x (w_assign rfl rfl rfl ?_)
  refine w_keep [(0, _), (1, _), (2, _), (6, _)] ⟨rfl, rfl, rfl, rfl, trivial⟩ ?_
  refine w_seq ?_
  refine w_draw (same _ _) mo (by kernel_rfl) ⟨rfl, rfl⟩ ?_
  refine any_take 0 rfl (by kernel_rfl) rfl (q_of fun D => w_move rfl rfl rfl ⟨rfl, rfl, rfl, rfl⟩) ?_
  refine any_take 1 rfl (by kernel_rfl) rfl (q_of fun D => w_move rfl rfl rfl ⟨rfl, rfl, rfl, rfl⟩) ?_
  refine any_take 2 rfl (by kernel_rfl) rfl (q_of fun D => w_sliceS rfl rfl Try.underlying9 rfl (a := 0) (b := k) rfl ⟨_, _, rfl, rfl⟩ (by omega) (by omega) ⟨rfl, rfl, rfl, rfl⟩) ?_
  refine any_take 3 rfl (by kernel_rfl) rfl (q_of fun D => w_move rfl rfl rfl ⟨rfl, rfl, rfl, rfl⟩) ?_
  refine any_take 4 rfl (by kernel_rfl) rfl (q_of fun D => w_cat rfl rfl rfl rfl (by first | omega | (simp; omega)) ⟨rfl, rfl, rfl, rfl⟩) ?_
  refine any_take 5 rfl (by kernel_rfl) rfl (q_of fun D => w_move rfl rfl rfl ⟨rfl, rfl, rfl, rfl⟩) ?_
  refine any_take 6 rfl (by kernel_rfl) rfl (q_of fun D => w_move rfl rfl rfl ⟨rfl, rfl, rfl, rfl⟩) ?_
  refine any_take 7 rfl (by kernel_rfl) rfl (q_of fun D => w_sliceS rfl rfl Try.underlying9 rfl (a := k) (b := l.length) ⟨_, _, rfl, rfl⟩ rfl (by omega) (by omega) ⟨rfl, rfl, rfl, rfl⟩) ?_
  refine any_take 8 rfl (by kernel_rfl) rfl (q_of fun D => w_cat rfl rfl rfl rfl (by first | omega | (simp; omega)) ⟨rfl, rfl, rfl, rfl⟩) ?_
  refine any_take 9 rfl (by kernel_rfl) rfl (q_of fun D => w_assign rfl rfl rfl ⟨rfl, rfl, rfl, rfl⟩) ?_
  refine any_done (by kernel_rfl) (by kernel_rfl) ?_
  refine thn_n ?_
  refine w_keep [(0, _), (1, _), (2, _), (6, _)] ⟨rfl, rfl, rfl, rfl, trivial⟩ ?_
  refine w_ret ?_
  exact end0 .ret (.inl rfl) [_] ⟨rfl, trivial⟩ ⟨by rw [List.take_length]; rfl, rfl, rfl⟩

set_option maxHeartbeats 400000 in
theorem fnNameSign_w (W : World) (q1 q2 : Option Addr) (m1 c1 m2 c2 : Nat) (h1 : m1 ≤ c1) (h2 : m2 ≤ c2) (hb1 : BytesAt (allOf W) q1 m1) (hb2 : BytesAt (allOf W) q2 m2) : Calls Try.prog 3 [.slice q1 m1 c1, .slice q2 m2 c2].toArray W fun e w' => ∃ v, e = .returned v ∧ Kept W w' ∧ ∃ (B' : Kn) (Ls' : List Cells), Sat B' Ls'.flatten w' ∧ v = .bool true := by
  refine calls_of (args := [.slice q1 m1 c1, .slice q2 m2 c2]) 72 Try.func3 rfl rfl rfl (Nat.le_of_ble_eq_true rfl) ?_
  refine w_seq_region ?_
  refine opW_x (w_assign rfl rfl rfl ?_)
  refine w_keep [(0, _), (1, _), (4, _)] ⟨rfl, rfl, rfl, trivial⟩ ?_
  refine w_seq ?_
  refine w_seq_region ?_
  refine opW_x (w_move rfl rfl rfl ?_)
  refine opW_x (w_lenV rfl rfl Try.underlying22 rfl ?_)
  refine opW_x (w_gtr rfl rfl rfl rfl ?_)
  refine opW_x (w_move rfl rfl rfl ?_)
  refine r_split (d := 12) rfl (fun g1 => ?_) (fun g1 => ?_)
  · try simp only [decide_eq_true_eq, decide_eq_false_iff_not, Bool.not_eq_true', Bool.not_eq_false', decide_not, Decidable.not_not, Int.not_lt, Int.not_le, ne_eq] at g1
    refine opW_x (w_pass rfl rfl ?_)
    refine opW_x (w_pass rfl rfl ?_)
    refine opW_x (w_pass rfl rfl ?_)
    refine opW_x (w_pickT rfl rfl rfl rfl ?_)
    refine w_keep [(0, _), (1, _), (4, _), (16, _)] ⟨rfl, rfl, rfl, rfl, trivial⟩ ?_
    refine w_cond (t := true) rfl (fun _ => ?_) (fun h => Bool.noConfusion h)
    refine w_seq_region ?_
    refine opW_x (w_assign rfl rfl rfl ?_)
    refine w_keep [(0, _), (1, _), (4, _), (16, _)] ⟨rfl, rfl, rfl, rfl, trivial⟩ ?_
    refine w_ret (thn_r ?_)
    exact end0 .ret (.inl rfl) [_] ⟨rfl, trivial⟩ (by first | rfl | exact bool_eq (by simp [*]))
  · try simp only [decide_eq_true_eq, decide_eq_false_iff_not, Bool.not_eq_true', Bool.not_eq_false', decide_not, Decidable.not_not, Int.not_lt, Int.not_le, ne_eq] at g1
    refine opW_x (w_move rfl rfl rfl ?_)
    refine opW_x (w_lenV rfl rfl Try.underlying22 rfl ?_)
    refine opW_x (w_gtr rfl rfl rfl rfl ?_)
    refine opW_x (w_pickF rfl rfl rfl rfl ?_)
    refine w_keep [(0, _), (1, _), (4, _), (16, _)] ⟨rfl, rfl, rfl, rfl, trivial⟩ ?_
    refine w_cond rfl (fun g2 => ?_) (fun g2 => ?_)
    · try simp only [decide_eq_true_eq, decide_eq_false_iff_not, Bool.not_eq_true', Bool.not_eq_false', decide_not, Decidable.not_not, Int.not_lt, Int.not_le, ne_eq] at g2
      refine w_seq_region ?_
      refine opW_x (w_assign rfl rfl rfl ?_)
      refine w_keep [(0, _), (1, _), (4, _), (16, _)] ⟨rfl, rfl, rfl, rfl, trivial⟩ ?_
      refine w_ret (thn_r ?_)
      exact end0 .ret (.inl rfl) [_] ⟨rfl, trivial⟩ (by first | rfl | exact bool_eq (by simp [*]))
    · try simp only [decide_eq_true_eq, decide_eq_false_iff_not, Bool.not_eq_true', Bool.not_eq_false', decide_not, Decidable.not_not, Int.not_lt, Int.not_le, ne_eq] at g2
      refine w_skip ?_
      refine thn_n ?_
      refine w_seq_region ?_
      refine opW_x (w_move rfl rfl rfl ?_)
      refine opW_x (w_ex0 rfl rfl en5 rfl (DrawNameValid_c _ _ _ (by omega) _ (by assumption)) ?_)
      rintro _ ⟨x1, rfl, hx1⟩
      refine opW_x (w_assign rfl rfl rfl ?_)
      refine w_keep [(0, _), (1, _), (4, _), (5, _), (16, _)] ⟨rfl, rfl, rfl, rfl, rfl, trivial⟩ ?_
      refine w_seq_region ?_
      refine opW_x (w_move rfl rfl rfl ?_)
      refine opW_x (w_retB rfl rfl en6 rfl (implName_c _ (by first | omega | (simp only [List.length_append, List.length_take, List.length_drop, List.length_cons, List.length_nil]; omega)) _) ?_)
      refine opW_x (w_assign rfl rfl rfl ?_)
      refine w_keep [(0, _), (1, _), (4, _), (5, _), (6, _), (16, _)] ⟨rfl, rfl, rfl, rfl, rfl, rfl, trivial⟩ ?_
      refine w_seq_region ?_
      refine opW_x (w_move rfl rfl rfl ?_)
      refine opW_x (w_retB rfl rfl en7 rfl (specName_c _ (by omega) _) ?_)
      refine opW_x (w_assign rfl rfl rfl ?_)
      refine w_keep [(0, _), (1, _), (4, _), (5, _), (6, _), (7, _), (16, _)] ⟨rfl, rfl, rfl, rfl, rfl, rfl, rfl, trivial⟩ ?_
      refine w_seq ?_
      refine w_seq_region ?_
      refine opW_x (w_move rfl rfl rfl ?_)
      refine opW_x (w_move rfl rfl rfl ?_)
      refine opW_x (w_neqE rfl rfl rfl rfl rfl (eqBool Try.underlying4) ?_)
      refine opW_x (w_move rfl rfl rfl ?_)
      refine r_split (d := 26) rfl (fun g3 => by simp at g3) (fun g3 => ?_)
      try simp only [decide_eq_true_eq, decide_eq_false_iff_not, Bool.not_eq_true', Bool.not_eq_false', decide_not, Decidable.not_not, Int.not_lt, Int.not_le, ne_eq] at g3
      refine opW_x (w_move rfl rfl rfl ?_)
      refine opW_x (w_not rfl rfl rfl ?_)
      refine opW_x (w_pickF rfl rfl rfl rfl ?_)
      refine w_keep [(0, _), (1, _), (4, _), (5, _), (6, _), (7, _), (16, _), (29, _)] ⟨rfl, rfl, rfl, rfl, rfl, rfl, rfl, rfl, trivial⟩ ?_
      refine w_cond rfl (fun g4 => ?_) (fun g4 => ?_)
      · try simp only [decide_eq_true_eq, decide_eq_false_iff_not, Bool.not_eq_true', Bool.not_eq_false', decide_not, Decidable.not_not, Int.not_lt, Int.not_le, ne_eq] at g4
        refine w_seq_region ?_
        refine opW_x (w_move rfl rfl rfl ?_)
        refine opW_x (w_move rfl rfl rfl ?_)
        refine opW_x (w_eqlE rfl rfl rfl rfl rfl (eqBool Try.underlying4) ?_)
        refine opW_x (w_assign rfl rfl rfl ?_)
        refine w_keep [(0, _), (1, _), (4, _), (5, _), (6, _), (7, _), (16, _), (29, _)] ⟨rfl, rfl, rfl, rfl, rfl, rfl, rfl, rfl, trivial⟩ ?_
        refine w_ret (thn_r ?_)
        exact end0 .ret (.inl rfl) [_] ⟨rfl, trivial⟩ (by first | rfl | exact bool_eq (by simp [*]))
      · try simp only [decide_eq_true_eq, decide_eq_false_iff_not, Bool.not_eq_true', Bool.not_eq_false', decide_not, Decidable.not_not, Int.not_lt, Int.not_le, ne_eq] at g4
        have hk : m2 % (x1.length + 1) < x1.length + 1 := Nat.mod_lt _ (Nat.succ_pos _)
        refine w_skip ?_
        refine thn_n ?_
        refine w_seq_region ?_
        refine opW_x (w_move rfl rfl rfl ?_)
        refine opW_x (w_lenV rfl rfl Try.underlying22 rfl ?_)
        refine opW_x (w_move rfl rfl rfl ?_)
        refine opW_x (w_lenS rfl rfl Try.underlying9 rfl ?_)
        refine opW_x (w_add rfl rfl rfl rfl (by first | exact wrI64 (by omega) (by omega) | rfl) ?_)
        refine opW_x (w_rem rfl rfl rfl rfl (by omega) (by first | exact wrI64 (by omega) (by omega) | rfl) ?_)
        refine opW_x (w_assign rfl rfl rfl ?_)
        refine w_keep [(0, _), (1, _), (4, _), (5, _), (6, _), (7, _), (8, _), (16, _), (29, _)] ⟨rfl, rfl, rfl, rfl, rfl, rfl, rfl, rfl, rfl, trivial⟩ ?_
        refine w_seq_region ?_
        refine opW_x (w_move rfl rfl rfl ?_)
        refine opW_x (w_move rfl rfl rfl ?_)
        refine opW_x (w_retB rfl rfl en8 rfl (put_c _ (m2 % (x1.length + 1)) _ (by omega) (by omega) (by decide) _) ?_)
        refine opW_x (w_retB rfl rfl en6 rfl (implName_c _ (by first | omega | (simp only [List.length_append, List.length_take, List.length_drop, List.length_cons, List.length_nil]; omega)) _) ?_)
        refine opW_x (w_not rfl rfl rfl ?_)
        refine opW_x (w_move rfl rfl rfl ?_)
        refine r_split (d := 44) rfl (fun g5 => ?_) (fun g5 => by rw [name_put (by decide)] at g5; cases g5)
        try simp only [decide_eq_true_eq, decide_eq_false_iff_not, Bool.not_eq_true', Bool.not_eq_false', decide_not, Decidable.not_not, Int.not_lt, Int.not_le, ne_eq] at g5
        refine opW_x (w_move rfl rfl rfl ?_)
        refine opW_x (w_move rfl rfl rfl ?_)
        refine opW_x (w_retB rfl rfl en8 rfl (put_c _ (m2 % (x1.length + 1)) _ (by omega) (by omega) (by decide) _) ?_)
        refine opW_x (w_retB rfl rfl en6 rfl (implName_c _ (by first | omega | (simp only [List.length_append, List.length_take, List.length_drop, List.length_cons, List.length_nil]; omega)) _) ?_)
        refine opW_x (w_not rfl rfl rfl ?_)
        refine opW_x (w_pickT rfl rfl rfl rfl ?_)
        refine opW_x (w_move rfl rfl rfl ?_)
        refine r_split (d := 51) rfl (fun g6 => ?_) (fun g6 => by rw [name_put (by decide)] at g6; cases g6)
        try simp only [decide_eq_true_eq, decide_eq_false_iff_not, Bool.not_eq_true', Bool.not_eq_false', decide_not, Decidable.not_not, Int.not_lt, Int.not_le, ne_eq] at g6
        refine opW_x (w_move rfl rfl rfl ?_)
        refine opW_x (w_move rfl rfl rfl ?_)
        refine opW_x (w_retB rfl rfl en8 rfl (put_c _ (m2 % (x1.length + 1)) _ (by omega) (by omega) (by decide) _) ?_)
        refine opW_x (w_retB rfl rfl en6 rfl (implName_c _ (by first | omega | (simp only [List.length_append, List.length_take, List.length_drop, List.length_cons, List.length_nil]; omega)) _) ?_)
        refine opW_x (w_not rfl rfl rfl ?_)
        refine opW_x (w_pickT rfl rfl rfl rfl ?_)
        refine opW_x (w_move rfl rfl rfl ?_)
        refine r_split (d := 58) rfl (fun g7 => ?_) (fun g7 => by rw [name_put (by decide)] at g7; cases g7)
        try simp only [decide_eq_true_eq, decide_eq_false_iff_not, Bool.not_eq_true', Bool.not_eq_false', decide_not, Decidable.not_not, Int.not_lt, Int.not_le, ne_eq] at g7
        refine opW_x (w_move rfl rfl rfl ?_)
        refine opW_x (w_move rfl rfl rfl ?_)
        refine opW_x (w_retB rfl rfl en8 rfl (put_c _ (m2 % (x1.length + 1)) _ (by omega) (by omega) (by decide) _) ?_)
        refine opW_x (w_retB rfl rfl en6 rfl (implName_c _ (by first | omega | (simp only [List.length_append, List.length_take, List.length_drop, List.length_cons, List.length_nil]; omega)) _) ?_)
        refine opW_x (w_not rfl rfl rfl ?_)
        refine opW_x (w_pickT rfl rfl rfl rfl ?_)
        refine opW_x (w_move rfl rfl rfl ?_)
        refine r_split (d := 65) rfl (fun g8 => ?_) (fun g8 => by rw [name_put (by decide)] at g8; cases g8)
        try simp only [decide_eq_true_eq, decide_eq_false_iff_not, Bool.not_eq_true', Bool.not_eq_false', decide_not, Decidable.not_not, Int.not_lt, Int.not_le, ne_eq] at g8
        refine opW_x (w_move rfl rfl rfl ?_)
        refine opW_x (w_move rfl rfl rfl ?_)
        refine opW_x (w_retB rfl rfl en8 rfl (put_c _ (m2 % (x1.length + 1)) _ (by omega) (by omega) (by decide) _) ?_)
        refine opW_x (w_retB rfl rfl en6 rfl (implName_c _ (by first | omega | (simp only [List.length_append, List.length_take, List.length_drop, List.length_cons, List.length_nil]; omega)) _) ?_)
        refine opW_x (w_not rfl rfl rfl ?_)
        refine opW_x (w_pickT rfl rfl rfl rfl ?_)
        refine opW_x (w_assign rfl rfl rfl ?_)
        refine w_keep [(0, _), (1, _), (4, _), (5, _), (6, _), (7, _), (8, _), (16, _), (29, _)] ⟨rfl, rfl, rfl, rfl, rfl, rfl, rfl, rfl, rfl, trivial⟩ ?_
        refine w_ret ?_
        exact end0 .ret (.inl rfl) [_] ⟨rfl, trivial⟩ (bool_eq (by rw [name_put (by decide)]; rfl))

end Go.Proofs.Ytaecpljcldlagaa
