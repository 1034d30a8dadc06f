/-
  WHAT THE FUNCTIONS THAT THE LAWS REACH COMPUTE: each function's contract, proved off its printed body (the text is written by program). No condition beyond those that each theorem states.
-/
import Derived.Test.YtnhgfdfmfhkcmaaRows
import Derived.Test.YtnhgfdfmfhkcmaaP
import Derived.Test.YtnhgfdfmfhkcmaaBLLone
import Derived.KernelRfl
namespace Go.Proofs.Ytnhgfdfmfhkcmaa
open Go Go.BL
set_option linter.unusedVariables false
set_option linter.unusedSimpArgs false
theorem en69 : enters Try.prog 69 = true := by kernel_rfl
theorem mo : Try.prog.follows .mixedOrders = true := by kernel_rfl
theorem fo94x1 : fieldOff Try.prog 94 1 = some 1 := by kernel_rfl
theorem lk3 : lk Try.prog 3 = some none := by kernel_rfl
theorem fo94x0 : fieldOff Try.prog 94 0 = some 0 := by kernel_rfl
theorem lk9 : lk Try.prog 9 = some none := by kernel_rfl
theorem en60 : enters Try.prog 60 = true := by kernel_rfl
theorem sz3 : sizeIs Try.prog 3 = some 1 := by kernel_rfl
theorem en133 : enters Try.prog 133 = true := by kernel_rfl
theorem en106 : enters Try.prog 106 = true := by kernel_rfl
theorem pl94 : placesOf Try.prog 94 = some [(0, 1), (1, 1)] := by kernel_rfl
theorem zo94 : zeroOf Try.prog 94 = some (.agg #[.string ⟨#[]⟩, .int .i64 0]) := by kernel_rfl
theorem sz94 : sizeIs Try.prog 94 = some 2 := by kernel_rfl
theorem sz5 : sizeIs Try.prog 5 = some 1 := by kernel_rfl
theorem pl129 : placesOf Try.prog 129 = some [(0, 1), (1, 1)] := by kernel_rfl
theorem zo129 : zeroOf Try.prog 129 = some (.agg #[.slice none 0 0, .int .i64 0]) := by kernel_rfl
theorem fo129x1 : fieldOff Try.prog 129 1 = some 1 := by kernel_rfl
theorem fo129x0 : fieldOff Try.prog 129 0 = some 0 := by kernel_rfl
theorem lk22 : lk Try.prog 22 = some none := by kernel_rfl
theorem lk5 : lk Try.prog 5 = some none := by kernel_rfl
theorem en77 : enters Try.prog 77 = true := by kernel_rfl
theorem sz9 : sizeIs Try.prog 9 = some 1 := by kernel_rfl
theorem zo9 : zeroOf Try.prog 9 = some (str []) := by kernel_rfl
theorem en97 : enters Try.prog 97 = true := by kernel_rfl
theorem eo38 : elemOk Try.prog 38 9 1 16 = true := by kernel_rfl
theorem su38 : (match Program.underlying Try.prog 38 with | some (.slice _) => true | _ => false) = true := by kernel_rfl
theorem en70 : enters Try.prog 70 = true := by kernel_rfl
theorem en114 : enters Try.prog 114 = true := by kernel_rfl
theorem fo40x0 : fieldOff Try.prog 40 0 = some 0 := by kernel_rfl
theorem fo40x1 : fieldOff Try.prog 40 1 = some 1 := by kernel_rfl
theorem lk38 : lk Try.prog 38 = some none := by kernel_rfl
theorem en71 : enters Try.prog 71 = true := by kernel_rfl
theorem fo40x2 : fieldOff Try.prog 40 2 = some 2 := by kernel_rfl
theorem en74 : enters Try.prog 74 = true := by kernel_rfl
theorem en108 : enters Try.prog 108 = true := by kernel_rfl
theorem en73 : enters Try.prog 73 = true := by kernel_rfl
theorem en111 : enters Try.prog 111 = true := by kernel_rfl
theorem fo29x0 : fieldOff Try.prog 29 0 = some 0 := by kernel_rfl
theorem fo29x1 : fieldOff Try.prog 29 1 = some 1 := by kernel_rfl
theorem lk27 : lk Try.prog 27 = some none := by kernel_rfl
theorem sz47 : sizeIs Try.prog 47 = some 4 := by kernel_rfl
theorem lk47 : lk Try.prog 47 = some (some 4) := by kernel_rfl
theorem zo47 : zeroOf Try.prog 47 = some (.agg #[.int .i64 0, .string ⟨#[]⟩, .string ⟨#[]⟩, .slice none 0 0]) := by kernel_rfl
theorem fo47x0 : fieldOff Try.prog 47 0 = some 0 := by kernel_rfl
theorem fo47x1 : fieldOff Try.prog 47 1 = some 1 := by kernel_rfl
theorem fo47x2 : fieldOff Try.prog 47 2 = some 2 := by kernel_rfl
theorem fo47x3 : fieldOff Try.prog 47 3 = some 3 := by kernel_rfl
theorem en26 : enters Try.prog 26 = true := by kernel_rfl
theorem pl40 : placesOf Try.prog 40 = some [(0, 1), (1, 1), (2, 1)] := by kernel_rfl
theorem zo40 : zeroOf Try.prog 40 = some (.agg #[.string ⟨#[]⟩, .slice none 0 0, .string ⟨#[]⟩]) := by kernel_rfl
theorem en29 : enters Try.prog 29 = true := by kernel_rfl
theorem en134 : enters Try.prog 134 = true := by kernel_rfl
theorem zo29 : zeroOf Try.prog 29 = some (.agg #[.int .i64 0, .slice none 0 0]) := by kernel_rfl
theorem pl29 : placesOf Try.prog 29 = some [(0, 1), (1, 1)] := by kernel_rfl
theorem sz29 : sizeIs Try.prog 29 = some 2 := by kernel_rfl
theorem sz38 : sizeIs Try.prog 38 = some 1 := by kernel_rfl
theorem eo27 : elemOk Try.prog 27 47 4 64 = true := by kernel_rfl
theorem su27 : (match Program.underlying Try.prog 27 with | some (.slice _) => true | _ => false) = true := by kernel_rfl
theorem sz27 : sizeIs Try.prog 27 = some 1 := by kernel_rfl
theorem lk29 : lk Try.prog 29 = some (some 2) := by kernel_rfl
theorem en28 : enters Try.prog 28 = true := by kernel_rfl
theorem lk40 : lk Try.prog 40 = some (some 3) := by kernel_rfl
theorem en67 : enters Try.prog 67 = true := by kernel_rfl
theorem pl47 : placesOf Try.prog 47 = some [(0, 1), (1, 1), (2, 1), (3, 1)] := by kernel_rfl
theorem en116 : enters Try.prog 116 = true := by kernel_rfl
theorem en79 : enters Try.prog 79 = true := by kernel_rfl
theorem en109 : enters Try.prog 109 = true := by kernel_rfl
theorem en110 : enters Try.prog 110 = true := by kernel_rfl
theorem sz40 : sizeIs Try.prog 40 = some 3 := by kernel_rfl
theorem en78 : enters Try.prog 78 = true := by kernel_rfl
theorem en63 : enters Try.prog 63 = true := by kernel_rfl
theorem en24 : enters Try.prog 24 = true := by kernel_rfl
theorem en35 : enters Try.prog 35 = true := by kernel_rfl
theorem zo3 : zeroOf Try.prog 3 = some (.int .i64 0) := by kernel_rfl
theorem en52 : enters Try.prog 52 = true := by kernel_rfl
theorem en62 : enters Try.prog 62 = true := by kernel_rfl
theorem zo106 : zeroOf Try.prog 106 = some (.pointer none) := by kernel_rfl
theorem en115 : enters Try.prog 115 = true := by kernel_rfl
theorem en137 : enters Try.prog 137 = true := by kernel_rfl
theorem lk106 : lk Try.prog 106 = some none := by kernel_rfl
theorem en66 : enters Try.prog 66 = true := by kernel_rfl
theorem pl109 : placesOf Try.prog 109 = some [(0, 4), (4, 1)] := by kernel_rfl
theorem zo109 : zeroOf Try.prog 109 = some (.agg #[.int .i64 0, .string ⟨#[]⟩, .string ⟨#[]⟩, .slice none 0 0, .pointer none]) := by kernel_rfl
theorem sz106 : sizeIs Try.prog 106 = some 1 := by kernel_rfl
theorem fo109x0 : fieldOff Try.prog 109 0 = some 0 := by kernel_rfl
theorem fo109x1 : fieldOff Try.prog 109 1 = some 4 := by kernel_rfl
theorem en72 : enters Try.prog 72 = true := by kernel_rfl
theorem en76 : enters Try.prog 76 = true := by kernel_rfl
theorem lk141 : lk Try.prog 141 = some none := by kernel_rfl
theorem eo141 : elemOk Try.prog 141 3 1 8 = true := by kernel_rfl
theorem su141 : (match Program.underlying Try.prog 141 with | some (.slice _) => true | _ => false) = true := by kernel_rfl
theorem sz141 : sizeIs Try.prog 141 = some 1 := by kernel_rfl
theorem mth140Less : mthOk Try.prog 140 "Less" 163 false = true := by kernel_rfl
theorem en163 : enters Try.prog 163 = true := by kernel_rfl
theorem mth140Swap : mthOk Try.prog 140 "Swap" 166 false = true := by kernel_rfl
theorem en166 : enters Try.prog 166 = true := by kernel_rfl
theorem mth140Push : mthOk Try.prog 140 "Push" 165 true = true := by kernel_rfl
theorem en165 : enters Try.prog 165 = true := by kernel_rfl
theorem mth140Len : mthOk Try.prog 140 "Len" 162 false = true := by kernel_rfl
theorem en162 : enters Try.prog 162 = true := by kernel_rfl
theorem en135 : enters Try.prog 135 = true := by kernel_rfl
theorem en136 : enters Try.prog 136 = true := by kernel_rfl
theorem mth140Pop : mthOk Try.prog 140 "Pop" 164 true = true := by kernel_rfl
theorem en164 : enters Try.prog 164 = true := by kernel_rfl
theorem en112 : enters Try.prog 112 = true := by kernel_rfl
theorem en113 : enters Try.prog 113 = true := by kernel_rfl
theorem en64 : enters Try.prog 64 = true := by kernel_rfl
theorem en68 : enters Try.prog 68 = true := by kernel_rfl
theorem en27 : enters Try.prog 27 = true := by kernel_rfl
theorem en65 : enters Try.prog 65 = true := by kernel_rfl
theorem en22 : enters Try.prog 22 = true := by kernel_rfl
theorem en23 : enters Try.prog 23 = true := by kernel_rfl
theorem en25 : enters Try.prog 25 = true := by kernel_rfl
theorem en30 : enters Try.prog 30 = true := by kernel_rfl
theorem en31 : enters Try.prog 31 = true := by kernel_rfl
theorem en32 : enters Try.prog 32 = true := by kernel_rfl
theorem en75 : enters Try.prog 75 = true := by kernel_rfl
theorem en34 : enters Try.prog 34 = true := by kernel_rfl
theorem en33 : enters Try.prog 33 = true := by kernel_rfl
abbrev cur (b : Nat) (l : List UInt8) (i : Nat) : Cells := box1 b [str l, .int .i64 i] 94
set_option maxRecDepth 4000 in
set_option maxHeartbeats 400000 in
theorem l6In_c (n lo hi : Int) (B : Kn) : RetB Try.prog 69 [.int .i64 n, .int .i64 lo, .int .i64 hi] B (.bool (decide (lo ≤ n) && decide (n ≤ hi))) := by
  refine callsB_body 15 Try.func69 rfl rfl rfl (Nat.le_of_ble_eq_true rfl) ?_
  refine w_seq_region ?_
  refine opW_x (w_assign rfl rfl rfl ?_)
  refine w_keep [(0, _), (1, _), (2, _), (6, _)] ⟨rfl, rfl, rfl, rfl, trivial⟩ ?_
  refine w_seq_region ?_
  refine opW_x (w_move rfl rfl rfl ?_)
  refine opW_x (w_move rfl rfl rfl ?_)
  refine opW_x (w_geq rfl rfl rfl rfl ?_)
  refine opW_x (w_move rfl rfl rfl ?_)
  refine r_split (d := 10) rfl (fun g1 => ?_) (fun g1 => ?_)
  · try simp only [decide_eq_true_eq, decide_eq_false_iff_not, Bool.not_eq_true', Bool.not_eq_false', decide_not, Decidable.not_not, Int.not_lt, Int.not_le, ne_eq] at g1
    refine opW_x (w_move rfl rfl rfl ?_)
    refine opW_x (w_move rfl rfl rfl ?_)
    refine opW_x (w_leq rfl rfl rfl rfl ?_)
    refine opW_x (w_pickT rfl rfl rfl rfl ?_)
    refine opW_x (w_assign rfl rfl rfl ?_)
    refine w_keep [(0, _), (1, _), (2, _), (6, _)] ⟨rfl, rfl, rfl, rfl, trivial⟩ ?_
    refine w_ret ?_
    exact end0 .ret (.inl rfl) [_] ⟨rfl, trivial⟩ ⟨by exact bool_eq (by rw [Bool.eq_iff_iff]; simp []; omega), rfl, rfl⟩
  · try simp only [decide_eq_true_eq, decide_eq_false_iff_not, Bool.not_eq_true', Bool.not_eq_false', decide_not, Decidable.not_not, Int.not_lt, Int.not_le, ne_eq] at g1
    refine opW_x (w_pass rfl rfl ?_)
    refine opW_x (w_pass rfl rfl ?_)
    refine opW_x (w_pass rfl rfl ?_)
    refine opW_x (w_pickF rfl rfl rfl rfl ?_)
    refine opW_x (w_assign rfl rfl rfl ?_)
    refine w_keep [(0, _), (1, _), (2, _), (6, _)] ⟨rfl, rfl, rfl, rfl, trivial⟩ ?_
    refine w_ret ?_
    exact end0 .ret (.inl rfl) [_] ⟨rfl, trivial⟩ ⟨by exact bool_eq (by rw [Bool.eq_iff_iff]; simp []; omega), rfl, rfl⟩

set_option maxRecDepth 4000 in
set_option maxHeartbeats 400000 in
theorem nameByte_c (c : UInt8) (B : Kn) : RetB Try.prog 133 [.int .u8 c.toNat] B (.bool (nameB c)) := by
  refine callsB_body 17 Try.func133 rfl rfl rfl (Nat.le_of_ble_eq_true rfl) ?_
  refine w_seq_region ?_
  refine opW_x (w_assign rfl rfl rfl ?_)
  refine w_keep [(0, _), (2, _)] ⟨rfl, rfl, trivial⟩ ?_
  refine w_seq_region ?_
  refine opW_x (w_move rfl rfl rfl ?_)
  refine opW_x (w_geq rfl rfl rfl rfl ?_)
  refine opW_x (w_move rfl rfl rfl ?_)
  refine r_split (d := 5) rfl (fun g1 => ?_) (fun g1 => ?_)
  · try simp only [decide_eq_true_eq, decide_eq_false_iff_not, Bool.not_eq_true', Bool.not_eq_false', decide_not, Decidable.not_not, Int.not_lt, Int.not_le, ne_eq] at g1
    refine opW_x (w_move rfl rfl rfl ?_)
    refine opW_x (w_leq rfl rfl rfl rfl ?_)
    refine opW_x (w_pickT rfl rfl rfl rfl ?_)
    refine opW_x (w_move rfl rfl rfl ?_)
    refine r_split (d := 9) rfl (fun g2 => ?_) (fun g2 => ?_)
    · try simp only [decide_eq_true_eq, decide_eq_false_iff_not, Bool.not_eq_true', Bool.not_eq_false', decide_not, Decidable.not_not, Int.not_lt, Int.not_le, ne_eq] at g2
      refine opW_x (w_pass rfl rfl ?_)
      refine opW_x (w_pass rfl rfl ?_)
      refine opW_x (w_pass rfl rfl ?_)
      refine opW_x (w_pass rfl rfl ?_)
      refine opW_x (w_pass rfl rfl ?_)
      refine opW_x (w_pass rfl rfl ?_)
      refine opW_x (w_pickT rfl rfl rfl rfl ?_)
      refine opW_x (w_assign rfl rfl rfl ?_)
      refine w_keep [(0, _), (2, _)] ⟨rfl, rfl, trivial⟩ ?_
      refine w_ret ?_
      exact end0 .ret (.inl rfl) [_] ⟨rfl, trivial⟩ ⟨by exact bool_eq (by rw [Bool.eq_iff_iff]; simp [nameB]; omega), rfl, rfl⟩
    · try simp only [decide_eq_true_eq, decide_eq_false_iff_not, Bool.not_eq_true', Bool.not_eq_false', decide_not, Decidable.not_not, Int.not_lt, Int.not_le, ne_eq] at g2
      refine opW_x (w_move rfl rfl rfl ?_)
      refine opW_x (w_geq rfl rfl rfl rfl ?_)
      refine opW_x (w_move rfl rfl rfl ?_)
      refine r_split (d := 12) rfl (fun g3 => ?_) (fun g3 => ?_)
      · try simp only [decide_eq_true_eq, decide_eq_false_iff_not, Bool.not_eq_true', Bool.not_eq_false', decide_not, Decidable.not_not, Int.not_lt, Int.not_le, ne_eq] at g3
        refine opW_x (w_move rfl rfl rfl ?_)
        refine opW_x (w_leq rfl rfl rfl rfl ?_)
        refine opW_x (w_pickT rfl rfl rfl rfl ?_)
        refine opW_x (w_pickF rfl rfl rfl rfl ?_)
        refine opW_x (w_assign rfl rfl rfl ?_)
        refine w_keep [(0, _), (2, _)] ⟨rfl, rfl, trivial⟩ ?_
        refine w_ret ?_
        exact end0 .ret (.inl rfl) [_] ⟨rfl, trivial⟩ ⟨by exact bool_eq (by rw [Bool.eq_iff_iff]; simp [nameB]; omega), rfl, rfl⟩
      · try simp only [decide_eq_true_eq, decide_eq_false_iff_not, Bool.not_eq_true', Bool.not_eq_false', decide_not, Decidable.not_not, Int.not_lt, Int.not_le, ne_eq] at g3
        refine opW_x (w_pass rfl rfl ?_)
        refine opW_x (w_pass rfl rfl ?_)
        refine opW_x (w_pickF rfl rfl rfl rfl ?_)
        refine opW_x (w_pickF rfl rfl rfl rfl ?_)
        refine opW_x (w_assign rfl rfl rfl ?_)
        refine w_keep [(0, _), (2, _)] ⟨rfl, rfl, trivial⟩ ?_
        refine w_ret ?_
        exact end0 .ret (.inl rfl) [_] ⟨rfl, trivial⟩ ⟨by exact bool_eq (by rw [Bool.eq_iff_iff]; simp [nameB]; omega), rfl, rfl⟩
  · try simp only [decide_eq_true_eq, decide_eq_false_iff_not, Bool.not_eq_true', Bool.not_eq_false', decide_not, Decidable.not_not, Int.not_lt, Int.not_le, ne_eq] at g1
    refine opW_x (w_pass rfl rfl ?_)
    refine opW_x (w_pass rfl rfl ?_)
    refine opW_x (w_pickF rfl rfl rfl rfl ?_)
    refine opW_x (w_move rfl rfl rfl ?_)
    refine opW_x (w_move rfl rfl rfl ?_)
    refine opW_x (w_geq rfl rfl rfl rfl ?_)
    refine opW_x (w_move rfl rfl rfl ?_)
    refine r_split (d := 12) rfl (fun g4 => ?_) (fun g4 => ?_)
    · try simp only [decide_eq_true_eq, decide_eq_false_iff_not, Bool.not_eq_true', Bool.not_eq_false', decide_not, Decidable.not_not, Int.not_lt, Int.not_le, ne_eq] at g4
      refine opW_x (w_move rfl rfl rfl ?_)
      refine opW_x (w_leq rfl rfl rfl rfl ?_)
      refine opW_x (w_pickT rfl rfl rfl rfl ?_)
      refine opW_x (w_pickF rfl rfl rfl rfl ?_)
      refine opW_x (w_assign rfl rfl rfl ?_)
      refine w_keep [(0, _), (2, _)] ⟨rfl, rfl, trivial⟩ ?_
      refine w_ret ?_
      exact end0 .ret (.inl rfl) [_] ⟨rfl, trivial⟩ ⟨by exact bool_eq (by rw [Bool.eq_iff_iff]; simp [nameB]; omega), rfl, rfl⟩
    · try simp only [decide_eq_true_eq, decide_eq_false_iff_not, Bool.not_eq_true', Bool.not_eq_false', decide_not, Decidable.not_not, Int.not_lt, Int.not_le, ne_eq] at g4
      refine opW_x (w_pass rfl rfl ?_)
      refine opW_x (w_pass rfl rfl ?_)
      refine opW_x (w_pickF rfl rfl rfl rfl ?_)
      refine opW_x (w_pickF rfl rfl rfl rfl ?_)
      refine opW_x (w_assign rfl rfl rfl ?_)
      refine w_keep [(0, _), (2, _)] ⟨rfl, rfl, trivial⟩ ?_
      refine w_ret ?_
      exact end0 .ret (.inl rfl) [_] ⟨rfl, trivial⟩ ⟨by exact bool_eq (by rw [Bool.eq_iff_iff]; simp [nameB]; omega), rfl, rfl⟩

set_option maxRecDepth 4000 in
set_option maxHeartbeats 400000 in
theorem specName_c (l : List UInt8) (hl : l.length ≤ 2000000) (B : Kn) : RetB Try.prog 70 [str l] B (.bool (nameOk l)) := by
  refine callsB_body 37 Try.func70 rfl rfl rfl (Nat.le_of_ble_eq_true rfl) ?_
  refine w_seq_region ?_
  refine opW_x (w_assign rfl rfl rfl ?_)
  refine w_keep [(0, _), (2, _)] ⟨rfl, rfl, trivial⟩ ?_
  refine w_seq ?_
  refine w_seq_region ?_
  refine opW_x (w_assign rfl rfl rfl ?_)
  refine w_keep [(0, _), (2, _), (3, _)] ⟨rfl, rfl, rfl, trivial⟩ ?_
  refine w_block ?_
  refine w_loop (α := Nat) (fun k => [(0, str l), (3, .int .i64 k)]) (fun k => []) (fun k Bx => Bx = B ∧ k ≤ l.length ∧ (l.take k).all nameB = true) (fun k => l.length - k) 0 ⟨rfl, rfl, trivial⟩ rfl (⟨rfl, Nat.zero_le _, by simp⟩) (fun k B1 hle1 hI => ?_)
  obtain ⟨rfl, hk, ha⟩ := hI
  refine w_seq ?_
  refine w_seq_region ?_
  refine opW_x (w_move rfl rfl rfl ?_)
  refine opW_x (w_move rfl rfl rfl ?_)
  refine opW_x (w_lenS rfl rfl Try.underlying9 rfl ?_)
  refine opW_x (w_lss rfl rfl rfl rfl ?_)
  refine w_keep [(0, _), (3, _), (7, _)] ⟨rfl, rfl, rfl, trivial⟩ ?_
  refine w_cond rfl (fun g1 => ?_) (fun g1 => ?_)
  · try simp only [decide_eq_true_eq, decide_eq_false_iff_not, Bool.not_eq_true', Bool.not_eq_false', decide_not, Decidable.not_not, Int.not_lt, Int.not_le, ne_eq] at g1
    obtain ⟨c, hc⟩ : ∃ c, l[k]? = some c := ⟨_, List.getElem?_eq_getElem (by omega)⟩
    refine w_skip ?_
    refine thn_n ?_
    refine w_seq ?_
    refine w_block ?_
    refine w_seq_bool 33 (!(nameB c)) [0, 3, 7] ?_ ?_
    · skip
      refine opW_x (w_move rfl rfl rfl ?_)
      refine opW_x (w_move rfl rfl rfl ?_)
      refine opW_x (w_index rfl rfl Try.underlying9 rfl rfl (by omega) (by simpa using hc) ?_)
      refine opW_x (w_geq rfl rfl rfl rfl ?_)
      refine opW_x (w_move rfl rfl rfl ?_)
      refine r_split (d := 14) rfl (fun g1 => ?_) (fun g1 => ?_)
      · try simp only [decide_eq_true_eq, decide_eq_false_iff_not, Bool.not_eq_true', Bool.not_eq_false', decide_not, Decidable.not_not, Int.not_lt, Int.not_le, ne_eq] at g1
        refine opW_x (w_move rfl rfl rfl ?_)
        refine opW_x (w_move rfl rfl rfl ?_)
        refine opW_x (w_index rfl rfl Try.underlying9 rfl rfl (by omega) (by simpa using hc) ?_)
        refine opW_x (w_leq rfl rfl rfl rfl ?_)
        refine opW_x (w_pickT rfl rfl rfl rfl ?_)
        refine opW_x (w_not rfl rfl rfl ?_)
        refine opW_x (w_move rfl rfl rfl ?_)
        refine r_split (d := 21) rfl (fun g2 => ?_) (fun g2 => ?_)
        · try simp only [decide_eq_true_eq, decide_eq_false_iff_not, Bool.not_eq_true', Bool.not_eq_false', decide_not, Decidable.not_not, Int.not_lt, Int.not_le, ne_eq] at g2
          refine opW_x (w_move rfl rfl rfl ?_)
          refine opW_x (w_move rfl rfl rfl ?_)
          refine opW_x (w_index rfl rfl Try.underlying9 rfl rfl (by omega) (by simpa using hc) ?_)
          refine opW_x (w_geq rfl rfl rfl rfl ?_)
          refine opW_x (w_move rfl rfl rfl ?_)
          refine r_split (d := 26) rfl (fun g3 => ?_) (fun g3 => ?_)
          · try simp only [decide_eq_true_eq, decide_eq_false_iff_not, Bool.not_eq_true', Bool.not_eq_false', decide_not, Decidable.not_not, Int.not_lt, Int.not_le, ne_eq] at g3
            refine opW_x (w_move rfl rfl rfl ?_)
            refine opW_x (w_move rfl rfl rfl ?_)
            refine opW_x (w_index rfl rfl Try.underlying9 rfl rfl (by omega) (by simpa using hc) ?_)
            refine opW_x (w_leq rfl rfl rfl rfl ?_)
            refine opW_x (w_pickT rfl rfl rfl rfl ?_)
            refine opW_x (w_not rfl rfl rfl ?_)
            refine opW_x (w_pickT rfl rfl rfl rfl ?_)
            exact ⟨rfl, rfl, rfl, leafB rfl (by rw [Bool.eq_iff_iff]; simp [nameB, ]; omega), ⟨rfl, rfl, rfl, trivial⟩⟩
          · try simp only [decide_eq_true_eq, decide_eq_false_iff_not, Bool.not_eq_true', Bool.not_eq_false', decide_not, Decidable.not_not, Int.not_lt, Int.not_le, ne_eq] at g3
            refine opW_x (w_pass rfl rfl ?_)
            refine opW_x (w_pass rfl rfl ?_)
            refine opW_x (w_pass rfl rfl ?_)
            refine opW_x (w_pass rfl rfl ?_)
            refine opW_x (w_pickF rfl rfl rfl rfl ?_)
            refine opW_x (w_not rfl rfl rfl ?_)
            refine opW_x (w_pickT rfl rfl rfl rfl ?_)
            exact ⟨rfl, rfl, rfl, leafB rfl (by rw [Bool.eq_iff_iff]; simp [nameB, ]; omega), ⟨rfl, rfl, rfl, trivial⟩⟩
        · try simp only [decide_eq_true_eq, decide_eq_false_iff_not, Bool.not_eq_true', Bool.not_eq_false', decide_not, Decidable.not_not, Int.not_lt, Int.not_le, ne_eq] at g2
          refine opW_x (w_pass rfl rfl ?_)
          refine opW_x (w_pass rfl rfl ?_)
          refine opW_x (w_pass rfl rfl ?_)
          refine opW_x (w_pass rfl rfl ?_)
          refine opW_x (w_pass rfl rfl ?_)
          refine opW_x (w_pass rfl rfl ?_)
          refine opW_x (w_pass rfl rfl ?_)
          refine opW_x (w_pass rfl rfl ?_)
          refine opW_x (w_pass rfl rfl ?_)
          refine opW_x (w_pass rfl rfl ?_)
          refine opW_x (w_pass rfl rfl ?_)
          refine opW_x (w_pickF rfl rfl rfl rfl ?_)
          exact ⟨rfl, rfl, rfl, leafB rfl (by rw [Bool.eq_iff_iff]; simp [nameB, ]; omega), ⟨rfl, rfl, rfl, trivial⟩⟩
      · try simp only [decide_eq_true_eq, decide_eq_false_iff_not, Bool.not_eq_true', Bool.not_eq_false', decide_not, Decidable.not_not, Int.not_lt, Int.not_le, ne_eq] at g1
        refine opW_x (w_pass rfl rfl ?_)
        refine opW_x (w_pass rfl rfl ?_)
        refine opW_x (w_pass rfl rfl ?_)
        refine opW_x (w_pass rfl rfl ?_)
        refine opW_x (w_pickF rfl rfl rfl rfl ?_)
        refine opW_x (w_not rfl rfl rfl ?_)
        refine opW_x (w_move rfl rfl rfl ?_)
        refine opW_x (w_move rfl rfl rfl ?_)
        refine opW_x (w_move rfl rfl rfl ?_)
        refine opW_x (w_index rfl rfl Try.underlying9 rfl rfl (by omega) (by simpa using hc) ?_)
        refine opW_x (w_geq rfl rfl rfl rfl ?_)
        refine opW_x (w_move rfl rfl rfl ?_)
        refine r_split (d := 26) rfl (fun g4 => ?_) (fun g4 => ?_)
        · try simp only [decide_eq_true_eq, decide_eq_false_iff_not, Bool.not_eq_true', Bool.not_eq_false', decide_not, Decidable.not_not, Int.not_lt, Int.not_le, ne_eq] at g4
          refine opW_x (w_move rfl rfl rfl ?_)
          refine opW_x (w_move rfl rfl rfl ?_)
          refine opW_x (w_index rfl rfl Try.underlying9 rfl rfl (by omega) (by simpa using hc) ?_)
          refine opW_x (w_leq rfl rfl rfl rfl ?_)
          refine opW_x (w_pickT rfl rfl rfl rfl ?_)
          refine opW_x (w_not rfl rfl rfl ?_)
          refine opW_x (w_pickT rfl rfl rfl rfl ?_)
          exact ⟨rfl, rfl, rfl, leafB rfl (by rw [Bool.eq_iff_iff]; simp [nameB, ]; omega), ⟨rfl, rfl, rfl, trivial⟩⟩
        · try simp only [decide_eq_true_eq, decide_eq_false_iff_not, Bool.not_eq_true', Bool.not_eq_false', decide_not, Decidable.not_not, Int.not_lt, Int.not_le, ne_eq] at g4
          refine opW_x (w_pass rfl rfl ?_)
          refine opW_x (w_pass rfl rfl ?_)
          refine opW_x (w_pass rfl rfl ?_)
          refine opW_x (w_pass rfl rfl ?_)
          refine opW_x (w_pickF rfl rfl rfl rfl ?_)
          refine opW_x (w_not rfl rfl rfl ?_)
          refine opW_x (w_pickT rfl rfl rfl rfl ?_)
          exact ⟨rfl, rfl, rfl, leafB rfl (by rw [Bool.eq_iff_iff]; simp [nameB, ]; omega), ⟨rfl, rfl, rfl, trivial⟩⟩
    refine w_keep [(0, _), (3, _), (7, _), (33, _)] ⟨rfl, rfl, rfl, rfl, trivial⟩ ?_
    refine w_cond rfl (fun g9 => ?_) (fun g9 => ?_)
    · try simp only [decide_eq_true_eq, decide_eq_false_iff_not, Bool.not_eq_true', Bool.not_eq_false', decide_not, Decidable.not_not, Int.not_lt, Int.not_le, ne_eq] at g9
      refine w_seq_region ?_
      refine opW_x (w_assign rfl rfl rfl ?_)
      refine w_keep [(0, _), (2, _), (3, _), (7, _), (33, _)] ⟨rfl, rfl, rfl, rfl, rfl, trivial⟩ ?_
      refine w_ret (inB_r (thn_r (rnd_r (inB_r (thn_r ?_)))))
      exact end0 .ret (.inl rfl) [_] ⟨rfl, trivial⟩ ⟨bool_eq (by simp [nameOk, all_stop hc g9]), rfl, rfl⟩
    · try simp only [decide_eq_true_eq, decide_eq_false_iff_not, Bool.not_eq_true', Bool.not_eq_false', decide_not, Decidable.not_not, Int.not_lt, Int.not_le, ne_eq] at g9
      refine w_skip ?_
      refine inB_n (thn_n ?_)
      refine w_region ?_
      refine opW_x (w_move rfl rfl rfl ?_)
      refine opW_x (w_add rfl rfl rfl rfl (by first | exact wrI64 (by omega) (by omega) | rfl) ?_)
      refine opW_x (w_assign rfl rfl rfl ?_)
      exact rnd_n (k + 1) (by omega) ⟨rfl, by omega, all_step hc g9 ha⟩ ⟨rfl, rfl, trivial⟩ rfl
  · try simp only [decide_eq_true_eq, decide_eq_false_iff_not, Bool.not_eq_true', Bool.not_eq_false', decide_not, Decidable.not_not, Int.not_lt, Int.not_le, ne_eq] at g1
    refine w_exit (thn_x (rnd_x (inB_hit (thn_n ?_))))
    refine w_seq_region ?_
    refine opW_x (w_move rfl rfl rfl ?_)
    refine opW_x (w_lenS rfl rfl Try.underlying9 rfl ?_)
    refine opW_x (w_retB rfl rfl en69 rfl (l6In_c _ _ _ _) ?_)
    refine opW_x (w_assign rfl rfl rfl ?_)
    refine w_keep [(0, _), (2, _), (3, _), (7, _)] ⟨rfl, rfl, rfl, rfl, trivial⟩ ?_
    refine w_ret ?_
    exact end0 .ret (.inl rfl) [_] ⟨rfl, trivial⟩ ⟨bool_eq (by (obtain rfl : k = l.length := by omega); rw [List.take_length] at ha; rw [Bool.eq_iff_iff]; simp [nameOk, ha]; omega), rfl, rfl⟩

set_option maxRecDepth 4000 in
set_option maxHeartbeats 400000 in
theorem done_c (b : Nat) (l : List UInt8) (i : Nat) (hi : i ≤ l.length) (hl : l.length ≤ 2000000) (B : Kn) : Upd1 Try.prog 60 [ptr ⟨b, 0, none⟩] B (cur b l i) (.bool (decide (i = l.length))) (cur b l i) := by
  refine callsB_body 13 Try.func60 rfl rfl rfl (Nat.le_of_ble_eq_true rfl) ?_
  refine w_seq_region ?_
  refine opW_x (w_assign rfl rfl rfl ?_)
  refine w_keep [(0, _), (2, _)] ⟨rfl, rfl, trivial⟩ ?_
  refine w_seq ?_
  refine w_draw (same _ _) mo (by kernel_rfl) ⟨rfl, rfl⟩ ?_
  refine any_takeP 0 rfl (by kernel_rfl) rfl (fun D B L => w_move rfl rfl rfl ⟨rfl, rfl, rfl, rfl⟩) ?_
  refine any_take 1 rfl (by kernel_rfl) rfl (q_of fun D => w_nilCheck rfl rfl rfl ⟨rfl, rfl, rfl, rfl⟩) ?_
  refine any_take 2 rfl (by kernel_rfl) rfl (q_of fun D => w_fieldAddr rfl rfl fo94x1 rfl ⟨rfl, rfl, rfl, rfl⟩) ?_
  refine any_take 3 rfl (by kernel_rfl) rfl (q_of fun D => w_load1 rfl rfl lk3 rfl (atL 0 rfl rfl rfl) ⟨rfl, rfl, rfl, rfl⟩) ?_
  refine any_takeP 4 rfl (by kernel_rfl) rfl (fun D B L => w_move rfl rfl rfl ⟨rfl, rfl, rfl, rfl⟩) ?_
  refine any_take 5 rfl (by kernel_rfl) rfl (q_of fun D => w_nilCheck rfl rfl rfl ⟨rfl, rfl, rfl, rfl⟩) ?_
  refine any_take 6 rfl (by kernel_rfl) rfl (q_of fun D => w_fieldAddr rfl rfl fo94x0 rfl ⟨rfl, rfl, rfl, rfl⟩) ?_
  refine any_take 7 rfl (by kernel_rfl) rfl (q_of fun D => w_load1 rfl rfl lk9 rfl (atL 0 rfl rfl rfl) ⟨rfl, rfl, rfl, rfl⟩) ?_
  refine any_take 8 rfl (by kernel_rfl) rfl (q_of fun D => w_lenS rfl rfl Try.underlying9 rfl ⟨rfl, rfl, rfl, rfl⟩) ?_
  refine any_take 9 rfl (by kernel_rfl) rfl (q_of fun D => w_eqlI rfl rfl rfl rfl ⟨rfl, rfl, rfl, rfl⟩) ?_
  refine any_takeP 10 rfl (by kernel_rfl) rfl (fun D B L => w_assign rfl rfl rfl ⟨rfl, rfl, rfl, rfl⟩) ?_
  refine any_done (by kernel_rfl) (by kernel_rfl) ?_
  refine thn_n ?_
  refine w_keep [(0, _), (2, _)] ⟨rfl, rfl, trivial⟩ ?_
  refine w_ret ?_
  exact end1 .ret (.inl rfl) [_] 0 rfl ⟨rfl, trivial⟩ ⟨bool_eq (by rw [Bool.eq_iff_iff]; simp; omega), rfl, rfl⟩

set_option maxRecDepth 4000 in
set_option maxHeartbeats 400000 in
theorem name_c (b : Nat) (l : List UInt8) (i : Nat) (hi : i ≤ l.length) (hl : l.length ≤ 2000000) (B : Kn) : Upd1 Try.prog 106 [ptr ⟨b, 0, none⟩] B (cur b l i) (.tuple #[str (word l i), .bool (wordOk (word l i))]) (cur b l (i + (word l i).length)) := by
  refine callsB_body 54 Try.func106 rfl rfl rfl (Nat.le_of_ble_eq_true rfl) ?_
  refine w_seq_region ?_
  refine opW_x (w_assign rfl rfl rfl ?_)
  refine opW_x (w_assign rfl rfl rfl ?_)
  refine w_keep [(0, _), (2, _), (3, _)] ⟨rfl, rfl, rfl, trivial⟩ ?_
  refine w_seq_region ?_
  refine opW_x (w_move rfl rfl rfl ?_)
  refine opW_x (w_nilCheck rfl rfl rfl ?_)
  refine opW_x (w_fieldAddr rfl rfl fo94x1 rfl ?_)
  refine opW_x (w_load1 rfl rfl lk3 rfl (atL 0 rfl rfl rfl) ?_)
  refine opW_x (w_assign rfl rfl rfl ?_)
  refine w_keep [(0, _), (2, _), (3, _), (4, _)] ⟨rfl, rfl, rfl, rfl, trivial⟩ ?_
  refine w_seq ?_
  refine w_block ?_
  refine w_loop (α := Nat) (fun k => [(0, ptr ⟨b, 0, none⟩), (4, .int .i64 i)]) (fun k => [cur b l (i + k)]) (fun k Bx => Bx = B ∧ i + k ≤ l.length ∧ ((l.drop i).take k).all nameB = true) (fun k => l.length - i - k) 0 ⟨rfl, rfl, trivial⟩ rfl (⟨rfl, by omega, by simp⟩) (fun k B1 hle1 hI => ?_)
  obtain ⟨rfl, hk, ha⟩ := hI
  refine w_seq ?_
  refine w_seq_boolD 24 (match l[i + k]? with | some c => nameB c | none => false) [0, 4] (same _ _) mo (by kernel_rfl) ⟨rfl, rfl⟩ ?_ ?_
  · skip
    refine any_takeP 0 rfl (by kernel_rfl) rfl (fun D B L => w_move rfl rfl rfl ⟨rfl, rfl, rfl, rfl⟩) ?_
    refine any_take 1 rfl (by kernel_rfl) rfl (q_of fun D => w_ret1 0 rfl rfl rfl en60 rfl (done_c _ _ _ (by omega) (by omega) _) ⟨rfl, rfl, rfl, rfl⟩) ?_
    refine any_take 2 rfl (by kernel_rfl) rfl (q_of fun D => w_not rfl rfl rfl ⟨rfl, rfl, rfl, rfl⟩) ?_
    refine any_takeP 3 rfl (by kernel_rfl) rfl (fun D B L => w_move rfl rfl rfl ⟨rfl, rfl, rfl, rfl⟩) ?_
    refine a_split (d := 13) rfl (fun g1 => ?_) (fun g1 => ?_)
    · try simp only [decide_eq_true_eq, decide_eq_false_iff_not, Bool.not_eq_true', Bool.not_eq_false', decide_not, Decidable.not_not, Int.not_lt, Int.not_le, ne_eq] at g1
      obtain ⟨c, hc⟩ : ∃ c, l[i + k]? = some c := ⟨_, List.getElem?_eq_getElem (by omega)⟩
      refine any_takeP 4 rfl (by kernel_rfl) rfl (fun D B L => w_move rfl rfl rfl ⟨rfl, rfl, rfl, rfl⟩) ?_
      refine any_take 5 rfl (by kernel_rfl) rfl (q_of fun D => w_nilCheck rfl rfl rfl ⟨rfl, rfl, rfl, rfl⟩) ?_
      refine any_take 6 rfl (by kernel_rfl) rfl (q_of fun D => w_fieldAddr rfl rfl fo94x0 rfl ⟨rfl, rfl, rfl, rfl⟩) ?_
      refine any_take 7 rfl (by kernel_rfl) rfl (q_of fun D => w_load1 rfl rfl lk9 rfl (atL 0 rfl rfl rfl) ⟨rfl, rfl, rfl, rfl⟩) ?_
      refine any_takeP 8 rfl (by kernel_rfl) rfl (fun D B L => w_move rfl rfl rfl ⟨rfl, rfl, rfl, rfl⟩) ?_
      refine any_take 9 rfl (by kernel_rfl) rfl (q_of fun D => w_nilCheck rfl rfl rfl ⟨rfl, rfl, rfl, rfl⟩) ?_
      refine any_take 10 rfl (by kernel_rfl) rfl (q_of fun D => w_fieldAddr rfl rfl fo94x1 rfl ⟨rfl, rfl, rfl, rfl⟩) ?_
      refine any_take 11 rfl (by kernel_rfl) rfl (q_of fun D => w_load1 rfl rfl lk3 rfl (atL 0 rfl rfl rfl) ⟨rfl, rfl, rfl, rfl⟩) ?_
      refine any_take 12 rfl (by kernel_rfl) rfl (q_of fun D => w_index rfl rfl Try.underlying9 rfl rfl (by omega) hc ⟨rfl, rfl, rfl, rfl⟩) ?_
      refine any_take 13 rfl (by kernel_rfl) rfl (q_of fun D => w_retB rfl rfl en133 rfl (nameByte_c _ _) ⟨rfl, rfl, rfl, rfl⟩) ?_
      refine any_take 14 rfl (by kernel_rfl) rfl (q_of fun D => w_pickT rfl rfl rfl rfl ⟨rfl, rfl, rfl, rfl⟩) ?_
      refine any_done (by kernel_rfl) (by kernel_rfl) ?_
      exact ⟨rfl, rfl, rfl, leafB rfl (by first | (rw [hc]; done) | (rw [List.getElem?_eq_none (by omega)])), ⟨rfl, rfl, trivial⟩⟩
    · try simp only [decide_eq_true_eq, decide_eq_false_iff_not, Bool.not_eq_true', Bool.not_eq_false', decide_not, Decidable.not_not, Int.not_lt, Int.not_le, ne_eq] at g1
      refine any_takeP 4 rfl (by kernel_rfl) rfl (fun D B L => w_pass rfl rfl ⟨rfl, rfl, rfl, rfl⟩) ?_
      refine any_take 5 rfl (by kernel_rfl) rfl (q_of fun D => w_pass rfl rfl ⟨rfl, rfl, rfl, rfl⟩) ?_
      refine any_take 6 rfl (by kernel_rfl) rfl (q_of fun D => w_pass rfl rfl ⟨rfl, rfl, rfl, rfl⟩) ?_
      refine any_take 7 rfl (by kernel_rfl) rfl (q_of fun D => w_pass rfl rfl ⟨rfl, rfl, rfl, rfl⟩) ?_
      refine any_takeP 8 rfl (by kernel_rfl) rfl (fun D B L => w_pass rfl rfl ⟨rfl, rfl, rfl, rfl⟩) ?_
      refine any_take 9 rfl (by kernel_rfl) rfl (q_of fun D => w_pass rfl rfl ⟨rfl, rfl, rfl, rfl⟩) ?_
      refine any_take 10 rfl (by kernel_rfl) rfl (q_of fun D => w_pass rfl rfl ⟨rfl, rfl, rfl, rfl⟩) ?_
      refine any_take 11 rfl (by kernel_rfl) rfl (q_of fun D => w_pass rfl rfl ⟨rfl, rfl, rfl, rfl⟩) ?_
      refine any_take 12 rfl (by kernel_rfl) rfl (q_of fun D => w_pass rfl rfl ⟨rfl, rfl, rfl, rfl⟩) ?_
      refine any_take 13 rfl (by kernel_rfl) rfl (q_of fun D => w_pass rfl rfl ⟨rfl, rfl, rfl, rfl⟩) ?_
      refine any_take 14 rfl (by kernel_rfl) rfl (q_of fun D => w_pickF rfl rfl rfl rfl ⟨rfl, rfl, rfl, rfl⟩) ?_
      refine any_done (by kernel_rfl) (by kernel_rfl) ?_
      exact ⟨rfl, rfl, rfl, leafB rfl (by first | (rw [hc]; done) | (rw [List.getElem?_eq_none (by omega)])), ⟨rfl, rfl, trivial⟩⟩
  refine w_keep [(0, _), (4, _), (24, _)] ⟨rfl, rfl, rfl, trivial⟩ ?_
  refine w_cond rfl (fun g2 => ?_) (fun g2 => ?_)
  · try simp only [decide_eq_true_eq, decide_eq_false_iff_not, Bool.not_eq_true', Bool.not_eq_false', decide_not, Decidable.not_not, Int.not_lt, Int.not_le, ne_eq] at g2
    refine w_skip ?_
    refine thn_n ?_
    refine w_block ?_
    refine w_region ?_
    refine opW_x (w_move rfl rfl rfl ?_)
    refine opW_x (w_nilCheck rfl rfl rfl ?_)
    refine opW_x (w_fieldAddr rfl rfl fo94x1 rfl ?_)
    refine opW_x (w_load1 rfl rfl lk3 rfl (atL 0 rfl rfl rfl) ?_)
    refine opW_x (w_add rfl rfl rfl rfl (by first | exact wrI64 (by omega) (by omega) | rfl) ?_)
    refine opW_x (w_nilCheck rfl rfl rfl ?_)
    refine opW_x (w_fieldAddr rfl rfl fo94x1 rfl ?_)
    refine opW_x (w_store [_] 0 [_, _] rfl rfl sz3 rfl rfl rfl rfl rfl rfl rfl rfl ?_)
    refine inB_n ?_
    obtain ⟨c, hc, hn⟩ := some_true g2
    exact rnd_n (k + 1) (by have := lt_of_get hc; omega) ⟨rfl, by have := lt_of_get hc; omega, all_step (by simpa using hc) hn ha⟩ ⟨rfl, rfl, trivial⟩ rfl
  · try simp only [decide_eq_true_eq, decide_eq_false_iff_not, Bool.not_eq_true', Bool.not_eq_false', decide_not, Decidable.not_not, Int.not_lt, Int.not_le, ne_eq] at g2
    have hw : word l i = (l.drop i).take k := word_end ha (fun c hc => by rw [hc] at g2; exact g2)
    have hwl : (word l i).length = k := by rw [hw, List.length_take, List.length_drop]; omega
    refine w_exit (thn_x (rnd_x (inB_hit (thn_n ?_))))
    refine w_seq_region ?_
    refine opW_x (w_move rfl rfl rfl ?_)
    refine opW_x (w_nilCheck rfl rfl rfl ?_)
    refine opW_x (w_fieldAddr rfl rfl fo94x1 rfl ?_)
    refine opW_x (w_load1 rfl rfl lk3 rfl (atL 0 rfl rfl rfl) ?_)
    refine opW_x (w_move rfl rfl rfl ?_)
    refine opW_x (w_sub rfl rfl rfl rfl (by first | exact wrI64 (by omega) (by omega) | rfl) ?_)
    refine opW_x (w_assign rfl rfl rfl ?_)
    refine w_keep [(0, _), (4, _), (5, _), (24, _)] ⟨rfl, rfl, rfl, rfl, trivial⟩ ?_
    refine w_seq ?_
    refine w_draw (same _ _) mo (by kernel_rfl) ⟨rfl, rfl⟩ ?_
    refine any_takeP 0 rfl (by kernel_rfl) rfl (fun D B L => w_move rfl rfl rfl ⟨rfl, rfl, rfl, rfl⟩) ?_
    refine any_take 1 rfl (by kernel_rfl) rfl (q_of fun D => w_nilCheck rfl rfl rfl ⟨rfl, rfl, rfl, rfl⟩) ?_
    refine any_take 2 rfl (by kernel_rfl) rfl (q_of fun D => w_fieldAddr rfl rfl fo94x0 rfl ⟨rfl, rfl, rfl, rfl⟩) ?_
    refine any_take 3 rfl (by kernel_rfl) rfl (q_of fun D => w_load1 rfl rfl lk9 rfl (atL 0 rfl rfl rfl) ⟨rfl, rfl, rfl, rfl⟩) ?_
    refine any_takeP 4 rfl (by kernel_rfl) rfl (fun D B L => w_move rfl rfl rfl ⟨rfl, rfl, rfl, rfl⟩) ?_
    refine any_takeP 5 rfl (by kernel_rfl) rfl (fun D B L => w_move rfl rfl rfl ⟨rfl, rfl, rfl, rfl⟩) ?_
    refine any_take 6 rfl (by kernel_rfl) rfl (q_of fun D => w_nilCheck rfl rfl rfl ⟨rfl, rfl, rfl, rfl⟩) ?_
    refine any_take 7 rfl (by kernel_rfl) rfl (q_of fun D => w_fieldAddr rfl rfl fo94x1 rfl ⟨rfl, rfl, rfl, rfl⟩) ?_
    refine any_take 8 rfl (by kernel_rfl) rfl (q_of fun D => w_load1 rfl rfl lk3 rfl (atL 0 rfl rfl rfl) ⟨rfl, rfl, rfl, rfl⟩) ?_
    refine any_take 9 rfl (by kernel_rfl) rfl (q_of fun D => w_sliceS rfl rfl Try.underlying9 rfl (a := i) (b := i + k) ⟨_, _, rfl, rfl⟩ ⟨_, _, rfl, by omega⟩ (by omega) (by omega) ⟨rfl, rfl, rfl, rfl⟩) ?_
    refine any_takeP 10 rfl (by kernel_rfl) rfl (fun D B L => w_move rfl rfl rfl ⟨rfl, rfl, rfl, rfl⟩) ?_
    refine any_take 11 rfl (by kernel_rfl) rfl (q_of fun D => w_geq rfl rfl rfl rfl ⟨rfl, rfl, rfl, rfl⟩) ?_
    refine any_takeP 12 rfl (by kernel_rfl) rfl (fun D B L => w_move rfl rfl rfl ⟨rfl, rfl, rfl, rfl⟩) ?_
    refine a_split (d := 50) rfl (fun g1 => ?_) (fun g1 => ?_)
    · try simp only [decide_eq_true_eq, decide_eq_false_iff_not, Bool.not_eq_true', Bool.not_eq_false', decide_not, Decidable.not_not, Int.not_lt, Int.not_le, ne_eq] at g1
      refine any_takeP 13 rfl (by kernel_rfl) rfl (fun D B L => w_move rfl rfl rfl ⟨rfl, rfl, rfl, rfl⟩) ?_
      refine any_take 14 rfl (by kernel_rfl) rfl (q_of fun D => w_leq rfl rfl rfl rfl ⟨rfl, rfl, rfl, rfl⟩) ?_
      refine any_take 15 rfl (by kernel_rfl) rfl (q_of fun D => w_pickT rfl rfl rfl rfl ⟨rfl, rfl, rfl, rfl⟩) ?_
      refine any_takeP 16 rfl (by kernel_rfl) rfl (fun D B L => w_assign rfl rfl rfl ⟨rfl, rfl, rfl, rfl⟩) ?_
      refine any_takeP 17 rfl (by kernel_rfl) rfl (fun D B L => w_assign rfl rfl rfl ⟨rfl, rfl, rfl, rfl⟩) ?_
      refine any_done (by kernel_rfl) (by kernel_rfl) ?_
      refine thn_n ?_
      refine w_keep [(0, _), (2, _), (3, _), (4, _), (5, _), (24, _)] ⟨rfl, rfl, rfl, rfl, rfl, rfl, trivial⟩ ?_
      refine w_ret ?_
      exact end1 .ret (.inl rfl) [_, _] 0 rfl ⟨rfl, rfl, trivial⟩ ⟨two_eq (by rw [drop_take_word, hw]) (bool_eq (by rw [Bool.eq_iff_iff]; simp [wordOk, hwl]; omega)), rfl, by rw [hwl]⟩
    · try simp only [decide_eq_true_eq, decide_eq_false_iff_not, Bool.not_eq_true', Bool.not_eq_false', decide_not, Decidable.not_not, Int.not_lt, Int.not_le, ne_eq] at g1
      refine any_takeP 13 rfl (by kernel_rfl) rfl (fun D B L => w_pass rfl rfl ⟨rfl, rfl, rfl, rfl⟩) ?_
      refine any_take 14 rfl (by kernel_rfl) rfl (q_of fun D => w_pass rfl rfl ⟨rfl, rfl, rfl, rfl⟩) ?_
      refine any_take 15 rfl (by kernel_rfl) rfl (q_of fun D => w_pickF rfl rfl rfl rfl ⟨rfl, rfl, rfl, rfl⟩) ?_
      refine any_takeP 16 rfl (by kernel_rfl) rfl (fun D B L => w_assign rfl rfl rfl ⟨rfl, rfl, rfl, rfl⟩) ?_
      refine any_takeP 17 rfl (by kernel_rfl) rfl (fun D B L => w_assign rfl rfl rfl ⟨rfl, rfl, rfl, rfl⟩) ?_
      refine any_done (by kernel_rfl) (by kernel_rfl) ?_
      refine thn_n ?_
      refine w_keep [(0, _), (2, _), (3, _), (4, _), (5, _), (24, _)] ⟨rfl, rfl, rfl, rfl, rfl, rfl, trivial⟩ ?_
      refine w_ret ?_
      exact end1 .ret (.inl rfl) [_, _] 0 rfl ⟨rfl, rfl, trivial⟩ ⟨two_eq (by rw [drop_take_word, hw]) (bool_eq (by rw [Bool.eq_iff_iff]; simp [wordOk, hwl]; omega)), rfl, by rw [hwl]⟩

set_option maxRecDepth 4000 in
set_option maxHeartbeats 400000 in
theorem implName_c (l : List UInt8) (hl : l.length ≤ 2000000) (B : Kn) : RetB Try.prog 108 [str l] B (.bool (nameOk l)) := by
  refine callsB_body 16 Try.func108 rfl rfl rfl (Nat.le_of_ble_eq_true rfl) ?_
  refine w_seq_region ?_
  refine opW_x (w_assign rfl rfl rfl ?_)
  refine w_keep [(0, _), (2, _)] ⟨rfl, rfl, trivial⟩ ?_
  refine w_seq_region ?_
  refine opW_x (w_move rfl rfl rfl ?_)
  refine opW_x (w_build (parts := [(0, _)]) [_, _] [_, _] rfl rfl pl94 zo94 rfl rfl rfl ?_)
  refine opW_x (w_alloc (l := [_, _]) rfl rfl zo94 rfl (fun b0 => ?_))
  refine opW_x (w_store [_, _] 0 [_, _] rfl rfl sz94 rfl rfl rfl rfl rfl rfl rfl rfl ?_)
  refine w_tidy [(0, _), (2, _), (3, _)] [_] ⟨rfl, rfl, rfl, trivial⟩ rfl ?_
  refine w_seq_region ?_
  refine opW_x (w_upd1 0 rfl rfl rfl en106 rfl (name_c _ _ 0 (by omega) hl _) ?_)
  refine opW_x (w_move rfl rfl rfl ?_)
  refine opW_x (w_extract rfl rfl rfl rfl ?_)
  refine opW_x (w_extract rfl rfl rfl rfl ?_)
  refine opW_x (w_assign rfl rfl rfl ?_)
  refine opW_x (w_assign rfl rfl rfl ?_)
  refine w_tidy [(0, _), (2, _), (3, _), (5, _)] [_] ⟨rfl, rfl, rfl, rfl, trivial⟩ rfl ?_
  refine w_seq_region ?_
  refine opW_x (w_move rfl rfl rfl ?_)
  refine opW_x (w_move rfl rfl rfl ?_)
  refine r_split (d := 13) rfl (fun g1 => ?_) (fun g1 => ?_)
  · try simp only [decide_eq_true_eq, decide_eq_false_iff_not, Bool.not_eq_true', Bool.not_eq_false', decide_not, Decidable.not_not, Int.not_lt, Int.not_le, ne_eq] at g1
    refine opW_x (w_ret1 0 rfl rfl rfl en60 rfl (done_c _ _ (0 + (word l 0).length) (word_le (Nat.zero_le _)) (by omega) _) ?_)
    refine opW_x (w_pickT rfl rfl rfl rfl ?_)
    refine opW_x (w_assign rfl rfl rfl ?_)
    refine w_keep [(0, _), (2, _), (3, _), (5, _)] ⟨rfl, rfl, rfl, rfl, trivial⟩ ?_
    refine w_ret ?_
    exact end0 .ret (.inl rfl) [_] ⟨rfl, trivial⟩ ⟨bool_eq (by rw [nameOk_word]; simp [g1]; try omega), rfl, rfl⟩
  · try simp only [decide_eq_true_eq, decide_eq_false_iff_not, Bool.not_eq_true', Bool.not_eq_false', decide_not, Decidable.not_not, Int.not_lt, Int.not_le, ne_eq] at g1
    refine opW_x (w_pass rfl rfl ?_)
    refine opW_x (w_pickF rfl rfl rfl rfl ?_)
    refine opW_x (w_assign rfl rfl rfl ?_)
    refine w_keep [(0, _), (2, _), (3, _), (5, _)] ⟨rfl, rfl, rfl, rfl, trivial⟩ ?_
    refine w_ret ?_
    exact end0 .ret (.inl rfl) [_] ⟨rfl, trivial⟩ ⟨bool_eq (by rw [nameOk_word]; simp [g1]; try omega), rfl, rfl⟩

abbrev rd (b : Nat) (q : Option Addr) (m cp p : Nat) : Cells := box1 b [.slice q m cp, .int .i64 p] 129
set_option maxRecDepth 4000 in
set_option maxHeartbeats 400000 in
theorem l6Open_c (q : Option Addr) (m cp : Nat) (hmc : m ≤ cp) (B : Kn) (hb : BytesAt B q m) : New1 Try.prog 52 [.slice q m cp] B (fun v s => ∃ b q m cp, v = ptr ⟨b, 0, none⟩ ∧ s = rd b q m cp 0 ∧ m ≤ 2000 ∧ BytesAt B q m) := by
  refine callsB_body 11 Try.func52 rfl rfl rfl (Nat.le_of_ble_eq_true rfl) ?_
  refine w_seq_region ?_
  refine opW_x (w_assign rfl rfl rfl ?_)
  refine w_keep [(0, _), (2, _)] ⟨rfl, rfl, trivial⟩ ?_
  refine w_seq ?_
  refine w_seq_region ?_
  refine opW_x (w_move rfl rfl rfl ?_)
  refine opW_x (w_lenV rfl rfl Try.underlying22 rfl ?_)
  refine opW_x (w_gtr rfl rfl rfl rfl ?_)
  refine w_keep [(0, _), (2, _), (5, _)] ⟨rfl, rfl, rfl, trivial⟩ ?_
  refine w_cond rfl (fun g1 => ?_) (fun g1 => ?_)
  · try simp only [decide_eq_true_eq, decide_eq_false_iff_not, Bool.not_eq_true', Bool.not_eq_false', decide_not, Decidable.not_not, Int.not_lt, Int.not_le, ne_eq] at g1
    refine w_region ?_
    refine opW_x (w_move rfl rfl rfl ?_)
    refine opW_x (w_sliceV rfl rfl Try.underlying22 sz5 rfl (a := 0) (b := 2000) rfl ⟨_, _, rfl, rfl⟩ (by omega) (by omega) ?_)
    refine opW_x (w_assign rfl rfl rfl ?_)
    refine thn_n ?_
    refine w_seq_region ?_
    refine opW_x (w_move rfl rfl rfl ?_)
    refine opW_x (w_build (parts := [(0, _)]) [_, _] [_, _] rfl rfl pl129 zo129 rfl rfl rfl ?_)
    refine opW_x (w_box (l := [_, _]) rfl rfl rfl rfl (fun b0 => ?_))
    refine opW_x (w_assign rfl rfl rfl ?_)
    refine w_tidy [(0, _), (2, _), (5, _)] [_] ⟨rfl, rfl, rfl, trivial⟩ rfl ?_
    refine w_ret ?_
    exact end1 .ret (.inl rfl) [_] 0 rfl ⟨rfl, trivial⟩ ⟨rfl, _, rfl, _, _, _, _, rfl, rfl, by omega, hb.take (by omega)⟩
  · try simp only [decide_eq_true_eq, decide_eq_false_iff_not, Bool.not_eq_true', Bool.not_eq_false', decide_not, Decidable.not_not, Int.not_lt, Int.not_le, ne_eq] at g1
    refine w_skip ?_
    refine thn_n ?_
    refine w_seq_region ?_
    refine opW_x (w_move rfl rfl rfl ?_)
    refine opW_x (w_build (parts := [(0, _)]) [_, _] [_, _] rfl rfl pl129 zo129 rfl rfl rfl ?_)
    refine opW_x (w_box (l := [_, _]) rfl rfl rfl rfl (fun b0 => ?_))
    refine opW_x (w_assign rfl rfl rfl ?_)
    refine w_tidy [(0, _), (2, _), (5, _)] [_] ⟨rfl, rfl, rfl, trivial⟩ rfl ?_
    refine w_ret ?_
    exact end1 .ret (.inl rfl) [_] 0 rfl ⟨rfl, trivial⟩ ⟨rfl, _, rfl, _, _, _, _, rfl, rfl, by omega, hb⟩

set_option maxRecDepth 4000 in
set_option maxHeartbeats 400000 in
theorem pick_c (b : Nat) (q : Option Addr) (m cp p : Nat) (n : Int) (hp : p ≤ 1000000000000) (hn : 1 ≤ n) (hn2 : n ≤ 1000000000000) (hm : m ≤ 2000) (B : Kn) (hb : BytesAt B q m) : Ex1 Try.prog 77 [ptr ⟨b, 0, none⟩, .int .i64 n] B (rd b q m cp p) (fun v s => ∃ r : Int, v = .int .i64 r ∧ 0 ≤ r ∧ r < n ∧ s = rd b q m cp (p + 1)) := by
  refine callsB_body 99 Try.func77 rfl rfl rfl (Nat.le_of_ble_eq_true rfl) ?_
  refine w_seq_region ?_
  refine opW_x (w_assign rfl rfl rfl ?_)
  refine w_keep [(0, _), (1, _), (4, _)] ⟨rfl, rfl, rfl, trivial⟩ ?_
  refine w_seq_region ?_
  refine opW_x (w_move rfl rfl rfl ?_)
  refine opW_x (w_move rfl rfl rfl ?_)
  refine opW_x (w_nilCheck rfl rfl rfl ?_)
  refine opW_x (w_fieldAddr rfl rfl fo129x1 rfl ?_)
  refine opW_x (w_load1 rfl rfl lk3 rfl (atL 0 rfl rfl rfl) ?_)
  refine opW_x (w_add rfl rfl rfl rfl (by first | exact wrI64 (by omega) (by omega) | rfl) ?_)
  refine opW_x (w_nilCheck rfl rfl rfl ?_)
  refine opW_x (w_fieldAddr rfl rfl fo129x1 rfl ?_)
  refine opW_x (w_store [_] 0 [_, _] rfl rfl sz3 rfl rfl rfl rfl rfl rfl rfl rfl ?_)
  refine w_tidy [(0, _), (1, _), (4, _)] [_] ⟨rfl, rfl, rfl, trivial⟩ rfl ?_
  refine w_seq ?_
  refine w_seq_region ?_
  refine opW_x (w_move rfl rfl rfl ?_)
  refine opW_x (w_lss rfl rfl rfl rfl ?_)
  refine opW_x (w_move rfl rfl rfl ?_)
  refine r_split (d := 17) rfl (fun g1 => by have := of_decide_eq_true g1; omega) (fun g1 => ?_)
  try simp only [decide_eq_true_eq, decide_eq_false_iff_not, Bool.not_eq_true', Bool.not_eq_false', decide_not, Decidable.not_not, Int.not_lt, Int.not_le, ne_eq] at g1
  refine opW_x (w_move rfl rfl rfl ?_)
  refine opW_x (w_nilCheck rfl rfl rfl ?_)
  refine opW_x (w_fieldAddr rfl rfl fo129x0 rfl ?_)
  refine opW_x (w_load1 rfl rfl lk22 rfl (atL 0 rfl rfl rfl) ?_)
  refine opW_x (w_lenV rfl rfl Try.underlying22 rfl ?_)
  refine opW_x (w_eqlI rfl rfl rfl rfl ?_)
  refine opW_x (w_pickF rfl rfl rfl rfl ?_)
  refine w_keep [(0, _), (1, _), (4, _), (24, _)] ⟨rfl, rfl, rfl, rfl, trivial⟩ ?_
  refine w_cond rfl (fun g2 => ?_) (fun g2 => ?_)
  · try simp only [decide_eq_true_eq, decide_eq_false_iff_not, Bool.not_eq_true', Bool.not_eq_false', decide_not, Decidable.not_not, Int.not_lt, Int.not_le, ne_eq] at g2
    refine w_seq_region ?_
    refine opW_x (w_assign rfl rfl rfl ?_)
    refine w_keep [(0, _), (1, _), (4, _), (24, _)] ⟨rfl, rfl, rfl, rfl, trivial⟩ ?_
    refine w_ret (thn_r ?_)
    exact end1 .ret (.inl rfl) [_] 0 rfl ⟨rfl, trivial⟩ ⟨rfl, _, rfl, 0, rfl, by omega, by omega, rfl⟩
  · try simp only [decide_eq_true_eq, decide_eq_false_iff_not, Bool.not_eq_true', Bool.not_eq_false', decide_not, Decidable.not_not, Int.not_lt, Int.not_le, ne_eq] at g2
    have hm0 : 0 < m := by omega
    obtain ⟨a, rfl, hc⟩ := hb.at hm0
    refine w_skip ?_
    refine thn_n ?_
    refine w_seq_region ?_
    refine opW_x (w_move rfl rfl rfl ?_)
    refine opW_x (w_nilCheck rfl rfl rfl ?_)
    refine opW_x (w_fieldAddr rfl rfl fo129x1 rfl ?_)
    refine opW_x (w_load1 rfl rfl lk3 rfl (atL 0 rfl rfl rfl) ?_)
    refine opW_x (w_sub rfl rfl rfl rfl (by first | exact wrI64 (by omega) (by omega) | rfl) ?_)
    refine opW_x (w_assign rfl rfl rfl ?_)
    refine w_keep [(0, _), (1, _), (4, _), (5, _), (24, _)] ⟨rfl, rfl, rfl, rfl, rfl, trivial⟩ ?_
    refine w_seq ?_
    refine w_seq_region ?_
    refine opW_x (w_move rfl rfl rfl ?_)
    refine opW_x (w_move rfl rfl rfl ?_)
    refine opW_x (w_nilCheck rfl rfl rfl ?_)
    refine opW_x (w_fieldAddr rfl rfl fo129x0 rfl ?_)
    refine opW_x (w_load1 rfl rfl lk22 rfl (atL 0 rfl rfl rfl) ?_)
    refine opW_x (w_lenV rfl rfl Try.underlying22 rfl ?_)
    refine opW_x (w_lss rfl rfl rfl rfl ?_)
    refine w_keep [(0, _), (1, _), (4, _), (5, _), (24, _), (36, _)] ⟨rfl, rfl, rfl, rfl, rfl, rfl, trivial⟩ ?_
    refine w_cond rfl (fun g3 => ?_) (fun g3 => ?_)
    · try simp only [decide_eq_true_eq, decide_eq_false_iff_not, Bool.not_eq_true', Bool.not_eq_false', decide_not, Decidable.not_not, Int.not_lt, Int.not_le, ne_eq] at g3
      obtain ⟨z, hz, h1⟩ := hc (↑p + 1 - 1) (by omega) (by omega)
      refine w_seq_region ?_
      refine opW_x (w_move rfl rfl rfl ?_)
      refine opW_x (w_nilCheck rfl rfl rfl ?_)
      refine opW_x (w_fieldAddr rfl rfl fo129x0 rfl ?_)
      refine opW_x (w_load1 rfl rfl lk22 rfl (atL 0 rfl rfl rfl) ?_)
      refine opW_x (w_move rfl rfl rfl ?_)
      refine opW_x (w_indexAddr rfl rfl Try.underlying22 sz5 rfl rfl (by omega) (by omega) ?_)
      refine opW_x (w_load1 rfl rfl lk5 rfl (h1 _) ?_)
      refine opW_x (w_convI rfl rfl Try.underlying5 Try.underlying3 rfl (by first | exact wrI64 (by omega) (by omega) | rfl) ?_)
      refine opW_x (w_move rfl rfl rfl ?_)
      refine opW_x (w_rem rfl rfl rfl rfl (by omega) (by first | exact wrI64 (by omega) (by omega) | rfl) ?_)
      refine opW_x (w_assign rfl rfl rfl ?_)
      refine w_keep [(0, _), (1, _), (4, _), (5, _), (24, _), (36, _)] ⟨rfl, rfl, rfl, rfl, rfl, rfl, trivial⟩ ?_
      refine w_ret (thn_r ?_)
      exact end1 .ret (.inl rfl) [_] 0 rfl ⟨rfl, trivial⟩ ⟨rfl, _, rfl, _, rfl, Int.tmod_nonneg _ (by omega), Int.tmod_lt_of_pos _ (by omega), rfl⟩
    · try simp only [decide_eq_true_eq, decide_eq_false_iff_not, Bool.not_eq_true', Bool.not_eq_false', decide_not, Decidable.not_not, Int.not_lt, Int.not_le, ne_eq] at g3
      obtain ⟨z, hz, h1⟩ := hc (Int.tmod (↑p + 1 - 1) ↑m) (Int.tmod_nonneg _ (by omega)) (Int.tmod_lt_of_pos _ (by omega))
      obtain ⟨z2, hz2, h2⟩ := hc (Int.tmod ((↑p + 1 - 1) * 7 + 3) ↑m) (Int.tmod_nonneg _ (by omega)) (Int.tmod_lt_of_pos _ (by omega))
      have ht0 : 0 ≤ Int.tdiv (↑p + 1 - 1) ↑m := Int.tdiv_nonneg (by omega) (by omega)
      have ht1 : Int.tdiv (↑p + 1 - 1) ↑m ≤ ↑p + 1 - 1 := Int.tdiv_le_self _ (by omega)
      refine w_skip ?_
      refine thn_n ?_
      refine w_seq ?_
      refine w_draw (same _ _) mo (by kernel_rfl) ⟨rfl, rfl⟩ ?_
      refine any_takeP 0 rfl (by kernel_rfl) rfl (fun D B L => w_move rfl rfl rfl ⟨rfl, rfl, rfl, rfl⟩) ?_
      refine any_take 1 rfl (by kernel_rfl) rfl (q_of fun D => w_nilCheck rfl rfl rfl ⟨rfl, rfl, rfl, rfl⟩) ?_
      refine any_take 2 rfl (by kernel_rfl) rfl (q_of fun D => w_fieldAddr rfl rfl fo129x0 rfl ⟨rfl, rfl, rfl, rfl⟩) ?_
      refine any_take 3 rfl (by kernel_rfl) rfl (q_of fun D => w_load1 rfl rfl lk22 rfl (atL 0 rfl rfl rfl) ⟨rfl, rfl, rfl, rfl⟩) ?_
      refine any_takeP 4 rfl (by kernel_rfl) rfl (fun D B L => w_move rfl rfl rfl ⟨rfl, rfl, rfl, rfl⟩) ?_
      refine any_takeP 5 rfl (by kernel_rfl) rfl (fun D B L => w_move rfl rfl rfl ⟨rfl, rfl, rfl, rfl⟩) ?_
      refine any_take 6 rfl (by kernel_rfl) rfl (q_of fun D => w_nilCheck rfl rfl rfl ⟨rfl, rfl, rfl, rfl⟩) ?_
      refine any_take 7 rfl (by kernel_rfl) rfl (q_of fun D => w_fieldAddr rfl rfl fo129x0 rfl ⟨rfl, rfl, rfl, rfl⟩) ?_
      refine any_take 8 rfl (by kernel_rfl) rfl (q_of fun D => w_load1 rfl rfl lk22 rfl (atL 0 rfl rfl rfl) ⟨rfl, rfl, rfl, rfl⟩) ?_
      refine any_take 9 rfl (by kernel_rfl) rfl (q_of fun D => w_lenV rfl rfl Try.underlying22 rfl ⟨rfl, rfl, rfl, rfl⟩) ?_
      refine any_take 10 rfl (by kernel_rfl) rfl (q_of fun D => w_rem rfl rfl rfl rfl (by omega) (by first | exact wrI64 (by omega) (by omega) | rfl) ⟨rfl, rfl, rfl, rfl⟩) ?_
      refine any_take 11 rfl (by kernel_rfl) rfl (q_of fun D => w_indexAddr rfl rfl Try.underlying22 sz5 rfl rfl (Int.tmod_nonneg _ (by omega)) (Int.tmod_lt_of_pos _ (by omega)) ⟨rfl, rfl, rfl, rfl⟩) ?_
      refine any_take 12 rfl (by kernel_rfl) rfl (q_of fun D => w_load1 rfl rfl lk5 rfl (h1 _) ⟨rfl, rfl, rfl, rfl⟩) ?_
      refine any_take 13 rfl (by kernel_rfl) rfl (q_of fun D => w_convI rfl rfl Try.underlying5 Try.underlying3 rfl (by first | exact wrI64 (by omega) (by omega) | rfl) ⟨rfl, rfl, rfl, rfl⟩) ?_
      refine any_take 14 rfl (by kernel_rfl) rfl (q_of fun D => w_mul rfl rfl rfl rfl (by first | exact wrI64 (by omega) (by omega) | rfl) ⟨rfl, rfl, rfl, rfl⟩) ?_
      refine any_takeP 15 rfl (by kernel_rfl) rfl (fun D B L => w_move rfl rfl rfl ⟨rfl, rfl, rfl, rfl⟩) ?_
      refine any_take 16 rfl (by kernel_rfl) rfl (q_of fun D => w_nilCheck rfl rfl rfl ⟨rfl, rfl, rfl, rfl⟩) ?_
      refine any_take 17 rfl (by kernel_rfl) rfl (q_of fun D => w_fieldAddr rfl rfl fo129x0 rfl ⟨rfl, rfl, rfl, rfl⟩) ?_
      refine any_take 18 rfl (by kernel_rfl) rfl (q_of fun D => w_load1 rfl rfl lk22 rfl (atL 0 rfl rfl rfl) ⟨rfl, rfl, rfl, rfl⟩) ?_
      refine any_takeP 19 rfl (by kernel_rfl) rfl (fun D B L => w_move rfl rfl rfl ⟨rfl, rfl, rfl, rfl⟩) ?_
      refine any_take 20 rfl (by kernel_rfl) rfl (q_of fun D => w_mul rfl rfl rfl rfl (by first | exact wrI64 (by omega) (by omega) | rfl) ⟨rfl, rfl, rfl, rfl⟩) ?_
      refine any_take 21 rfl (by kernel_rfl) rfl (q_of fun D => w_add rfl rfl rfl rfl (by first | exact wrI64 (by omega) (by omega) | rfl) ⟨rfl, rfl, rfl, rfl⟩) ?_
      refine any_takeP 22 rfl (by kernel_rfl) rfl (fun D B L => w_move rfl rfl rfl ⟨rfl, rfl, rfl, rfl⟩) ?_
      refine any_take 23 rfl (by kernel_rfl) rfl (q_of fun D => w_nilCheck rfl rfl rfl ⟨rfl, rfl, rfl, rfl⟩) ?_
      refine any_take 24 rfl (by kernel_rfl) rfl (q_of fun D => w_fieldAddr rfl rfl fo129x0 rfl ⟨rfl, rfl, rfl, rfl⟩) ?_
      refine any_take 25 rfl (by kernel_rfl) rfl (q_of fun D => w_load1 rfl rfl lk22 rfl (atL 0 rfl rfl rfl) ⟨rfl, rfl, rfl, rfl⟩) ?_
      refine any_take 26 rfl (by kernel_rfl) rfl (q_of fun D => w_lenV rfl rfl Try.underlying22 rfl ⟨rfl, rfl, rfl, rfl⟩) ?_
      refine any_take 27 rfl (by kernel_rfl) rfl (q_of fun D => w_rem rfl rfl rfl rfl (by omega) (by first | exact wrI64 (by omega) (by omega) | rfl) ⟨rfl, rfl, rfl, rfl⟩) ?_
      refine any_take 28 rfl (by kernel_rfl) rfl (q_of fun D => w_indexAddr rfl rfl Try.underlying22 sz5 rfl rfl (Int.tmod_nonneg _ (by omega)) (Int.tmod_lt_of_pos _ (by omega)) ⟨rfl, rfl, rfl, rfl⟩) ?_
      refine any_take 29 rfl (by kernel_rfl) rfl (q_of fun D => w_load1 rfl rfl lk5 rfl (h2 _) ⟨rfl, rfl, rfl, rfl⟩) ?_
      refine any_take 30 rfl (by kernel_rfl) rfl (q_of fun D => w_convI rfl rfl Try.underlying5 Try.underlying3 rfl (by first | exact wrI64 (by omega) (by omega) | rfl) ⟨rfl, rfl, rfl, rfl⟩) ?_
      refine any_take 31 rfl (by kernel_rfl) rfl (q_of fun D => w_mul rfl rfl rfl rfl (by first | exact wrI64 (by omega) (by omega) | rfl) ⟨rfl, rfl, rfl, rfl⟩) ?_
      refine any_take 32 rfl (by kernel_rfl) rfl (q_of fun D => w_add rfl rfl rfl rfl (by first | exact wrI64 (by omega) (by omega) | rfl) ⟨rfl, rfl, rfl, rfl⟩) ?_
      refine any_takeP 33 rfl (by kernel_rfl) rfl (fun D B L => w_move rfl rfl rfl ⟨rfl, rfl, rfl, rfl⟩) ?_
      refine any_take 34 rfl (by kernel_rfl) rfl (q_of fun D => w_mul rfl rfl rfl rfl (by first | exact wrI64 (by omega) (by omega) | rfl) ⟨rfl, rfl, rfl, rfl⟩) ?_
      refine any_take 35 rfl (by kernel_rfl) rfl (q_of fun D => w_add rfl rfl rfl rfl (by first | exact wrI64 (by omega) (by omega) | rfl) ⟨rfl, rfl, rfl, rfl⟩) ?_
      refine any_takeP 36 rfl (by kernel_rfl) rfl (fun D B L => w_move rfl rfl rfl ⟨rfl, rfl, rfl, rfl⟩) ?_
      refine any_takeP 37 rfl (by kernel_rfl) rfl (fun D B L => w_move rfl rfl rfl ⟨rfl, rfl, rfl, rfl⟩) ?_
      refine any_take 38 rfl (by kernel_rfl) rfl (q_of fun D => w_nilCheck rfl rfl rfl ⟨rfl, rfl, rfl, rfl⟩) ?_
      refine any_take 39 rfl (by kernel_rfl) rfl (q_of fun D => w_fieldAddr rfl rfl fo129x0 rfl ⟨rfl, rfl, rfl, rfl⟩) ?_
      refine any_take 40 rfl (by kernel_rfl) rfl (q_of fun D => w_load1 rfl rfl lk22 rfl (atL 0 rfl rfl rfl) ⟨rfl, rfl, rfl, rfl⟩) ?_
      refine any_take 41 rfl (by kernel_rfl) rfl (q_of fun D => w_lenV rfl rfl Try.underlying22 rfl ⟨rfl, rfl, rfl, rfl⟩) ?_
      refine any_take 42 rfl (by kernel_rfl) rfl (q_of fun D => w_quo rfl rfl rfl rfl (by omega) (by first | exact wrI64 (by omega) (by omega) | rfl) ⟨rfl, rfl, rfl, rfl⟩) ?_
      refine any_take 43 rfl (by kernel_rfl) rfl (q_of fun D => w_mul rfl rfl rfl rfl (by first | exact wrI64 (by omega) (by omega) | rfl) ⟨rfl, rfl, rfl, rfl⟩) ?_
      refine any_take 44 rfl (by kernel_rfl) rfl (q_of fun D => w_add rfl rfl rfl rfl (by first | exact wrI64 (by omega) (by omega) | rfl) ⟨rfl, rfl, rfl, rfl⟩) ?_
      refine any_takeP 45 rfl (by kernel_rfl) rfl (fun D B L => w_assign rfl rfl rfl ⟨rfl, rfl, rfl, rfl⟩) ?_
      refine any_done (by kernel_rfl) (by kernel_rfl) ?_
      refine thn_n ?_
      refine w_keep [(0, _), (1, _), (4, _), (5, _), (6, _), (24, _), (36, _)] ⟨rfl, rfl, rfl, rfl, rfl, rfl, rfl, trivial⟩ ?_
      generalize hx : (↑z * 131 + ↑z2 * 1117 + (↑p + 1 - 1) * 29 + (↑p + 1 - 1 : Int).tdiv ↑m * 53 : Int) = x
      have hx0 : 0 ≤ x := by omega
      have hx1 : x < 1000000000000000 := by omega
      have hy0 : 0 ≤ Int.tdiv x 64 := Int.tdiv_nonneg (by omega) (by omega)
      have hy1 : Int.tdiv x 64 ≤ x := Int.tdiv_le_self _ (by omega)
      refine w_seq_region ?_
      refine opW_x (w_move rfl rfl rfl ?_)
      refine opW_x (w_move rfl rfl rfl ?_)
      refine opW_x (w_quo rfl rfl rfl rfl (by omega) (by first | exact wrI64 (by omega) (by omega) | rfl) ?_)
      refine opW_x (w_xor rfl rfl rfl rfl (by omega) (by omega) (by omega) (by omega) (fun y hy2 hy3 => ?_))
      refine opW_x (w_assign rfl rfl rfl ?_)
      refine w_keep [(0, _), (1, _), (4, _), (5, _), (6, _), (24, _), (36, _)] ⟨rfl, rfl, rfl, rfl, rfl, rfl, rfl, trivial⟩ ?_
      refine w_seq_region ?_
      refine opW_x (w_move rfl rfl rfl ?_)
      refine opW_x (w_move rfl rfl rfl ?_)
      refine opW_x (w_rem rfl rfl rfl rfl (by omega) (by first | exact wrI64 (by omega) (by omega) | rfl) ?_)
      refine opW_x (w_assign rfl rfl rfl ?_)
      refine w_keep [(0, _), (1, _), (4, _), (5, _), (6, _), (24, _), (36, _)] ⟨rfl, rfl, rfl, rfl, rfl, rfl, rfl, trivial⟩ ?_
      refine w_ret ?_
      exact end1 .ret (.inl rfl) [_] 0 rfl ⟨rfl, trivial⟩ ⟨rfl, _, rfl, _, rfl, Int.tmod_nonneg _ (by omega), Int.tmod_lt_of_pos _ (by omega), rfl⟩

set_option maxRecDepth 4000 in
set_option maxHeartbeats 400000 in
theorem of_c (b : Nat) (q : Option Addr) (m cp p : Nat) (b1 : Nat) (ls : List (List UInt8)) (hp : p ≤ 1000000000000) (hn : 1 ≤ ls.length) (hn2 : ls.length ≤ 1000000000000) (hm : m ≤ 2000) (B : Kn) (hbm : BytesAt B q m) : CallsB Try.prog 97 [ptr ⟨b, 0, none⟩, .slice (some ⟨b1, 0, none⟩) ls.length ls.length] B [rd b q m cp p, box1 b1 (ls.map str) 9] (fun v B' Ls => B' = B ∧ ∃ x, x ∈ ls ∧ v = str x ∧ Ls = [rd b q m cp (p + 1)]) := by
  refine callsB_body 12 Try.func97 rfl rfl rfl (Nat.le_of_ble_eq_true rfl) ?_
  skip
  refine w_seq_region ?_
  refine opW_x (w_assign rfl rfl rfl ?_)
  refine w_keep [(0, _), (1, _), (4, _)] ⟨rfl, rfl, rfl, trivial⟩ ?_
  refine w_seq_region ?_
  refine opW_x (w_move rfl rfl rfl ?_)
  refine opW_x (w_move rfl rfl rfl ?_)
  refine opW_x (w_move rfl rfl rfl ?_)
  refine opW_x (w_lenV rfl rfl Try.underlying38 rfl ?_)
  refine opW_x (w_ex1 0 rfl rfl rfl en77 rfl (pick_c _ _ _ _ _ _ (by omega) (by omega) (by omega) hm _ hbm) ?_)
  rintro _ _ ⟨r1, rfl, r1a, r1b, rfl⟩
  refine opW_x (w_indexAddr rfl rfl Try.underlying38 sz9 rfl rfl (by omega) (by omega) ?_)
  obtain ⟨x, hx⟩ : ∃ x, ls[r1.toNat]? = some x := ⟨_, List.getElem?_eq_getElem (by omega)⟩
  refine opW_x (w_load1 rfl rfl lk9 rfl (atElem 1 rfl (v := str x) (by rw [Nat.mul_one, List.getElem?_map, hx]; rfl)) ?_)
  refine opW_x (w_assign rfl rfl rfl ?_)
  refine w_tidy [(0, _), (1, _), (4, _)] [_, _] ⟨rfl, rfl, rfl, trivial⟩ rfl ?_
  refine w_ret ?_
  exact endN .ret (.inl rfl) [_] [0] rfl ⟨rfl, trivial⟩ ⟨rfl, x, List.mem_of_getElem? hx, rfl, rfl⟩

set_option maxRecDepth 4000 in
set_option maxHeartbeats 400000 in
theorem l91Name_c (b : Nat) (q : Option Addr) (m cp p : Nat) (hp : p ≤ 900000000000) (hm : m ≤ 2000) (B : Kn) (hbm : BytesAt B q m) : Ex1 Try.prog 78 [ptr ⟨b, 0, none⟩] B (rd b q m cp p) (fun v s => ∃ x : List UInt8, v = str x ∧ x.length ≤ 9 ∧ s = rd b q m cp (p + 2)) := by
  refine callsB_body 12 Try.func78 rfl rfl rfl (Nat.le_of_ble_eq_true rfl) ?_
  refine w_seq_region ?_
  refine opW_x (w_assign rfl rfl rfl ?_)
  refine w_keep [(0, _), (2, _)] ⟨rfl, rfl, trivial⟩ ?_
  refine w_seq ?_
  refine w_seq_region ?_
  refine opW_x (w_move rfl rfl rfl ?_)
  refine opW_x (w_ex1 0 rfl rfl rfl en77 rfl (pick_c _ _ _ _ _ _ (by omega) (by omega) (by omega) hm _ hbm) ?_)
  rintro _ _ ⟨r1, rfl, r1a, r1b, rfl⟩
  refine opW_x (w_eqlI rfl rfl rfl rfl ?_)
  refine w_tidy [(0, _), (2, _), (5, _)] [_] ⟨rfl, rfl, rfl, trivial⟩ rfl ?_
  refine w_cond rfl (fun g1 => ?_) (fun g1 => ?_)
  · try simp only [decide_eq_true_eq, decide_eq_false_iff_not, Bool.not_eq_true', Bool.not_eq_false', decide_not, Decidable.not_not, Int.not_lt, Int.not_le, ne_eq] at g1
    refine w_seq_region ?_
    refine opW_x (w_move rfl rfl rfl ?_)
    refine opW_x (w_buildSlice (parts := [(0, _), (1, _), (2, _), (3, _), (4, _), (5, _), (6, _)]) [_, _, _, _, _, _, _] rfl rfl Try.underlying38 sz9 zo9 rfl rfl rfl rfl rfl (fun b1 => ?_))
    refine opW_x (w_callN [0, 1] rfl rfl rfl rfl en97 rfl (of_c _ _ _ _ _ _ [[], [65], [116, 111, 111, 108, 111, 110, 103, 49, 50], [97, 45, 98], [101, 105, 103, 104, 116, 56, 56, 56], [48], [97, 110, 121, 111, 110, 101]] (by omega) (by decide) (by decide) hm _ hbm) ?_)
    rintro _ _ _ hle2 ⟨rfl, x2, hx2, rfl, rfl⟩
    refine opW_x (w_assign rfl rfl rfl ?_)
    refine w_tidy [(0, _), (2, _), (5, _)] [_, _] ⟨rfl, rfl, rfl, trivial⟩ rfl ?_
    refine w_ret (thn_r ?_)
    exact end1 .ret (.inl rfl) [_] 0 rfl ⟨rfl, trivial⟩ ⟨rfl, _, rfl, x2, rfl, (show ∀ x ∈ _, x.length ≤ 9 from by decide) _ hx2, rfl⟩
  · try simp only [decide_eq_true_eq, decide_eq_false_iff_not, Bool.not_eq_true', Bool.not_eq_false', decide_not, Decidable.not_not, Int.not_lt, Int.not_le, ne_eq] at g1
    refine w_skip ?_
    refine thn_n ?_
    refine w_seq_region ?_
    refine opW_x (w_move rfl rfl rfl ?_)
    refine opW_x (w_buildSlice (parts := [(0, _), (1, _), (2, _), (3, _), (4, _), (5, _)]) [_, _, _, _, _, _] rfl rfl Try.underlying38 sz9 zo9 rfl rfl rfl rfl rfl (fun b1 => ?_))
    refine opW_x (w_callN [0, 1] rfl rfl rfl rfl en97 rfl (of_c _ _ _ _ _ _ [[97, 109, 121], [98, 111, 98], [99, 121, 100], [100, 97, 110], [98, 111, 120, 49], [120]] (by omega) (by decide) (by decide) hm _ hbm) ?_)
    rintro _ _ _ hle3 ⟨rfl, x3, hx3, rfl, rfl⟩
    refine opW_x (w_assign rfl rfl rfl ?_)
    refine w_tidy [(0, _), (2, _), (5, _)] [_, _] ⟨rfl, rfl, rfl, trivial⟩ rfl ?_
    refine w_ret ?_
    exact end1 .ret (.inl rfl) [_] 0 rfl ⟨rfl, trivial⟩ ⟨rfl, _, rfl, x3, rfl, (show ∀ x ∈ _, x.length ≤ 9 from by decide) _ hx3, rfl⟩

set_option maxRecDepth 4000 in
set_option maxHeartbeats 400000 in
theorem sameNames_c (q q' : Option Addr) (cp cp' : Nat) (xs ys : List Str) (B : Kn) (ha : SlK B q cp 1 StrR xs) (hb : SlK B q' cp' 1 StrR ys) : RetB Try.prog 26 [.slice q xs.length cp, .slice q' ys.length cp'] B (.bool (decide (xs = ys))) := by
  refine callsB_body 26 Try.func26 rfl rfl rfl (Nat.le_of_ble_eq_true rfl) ?_
  have han := ha.len
  have hbn := hb.len
  refine w_seq_region ?_
  refine opW_x (w_assign rfl rfl rfl ?_)
  refine w_keep [(0, _), (1, _), (4, _)] ⟨rfl, rfl, rfl, trivial⟩ ?_
  refine w_seq ?_
  refine w_seq_region ?_
  refine opW_x (w_move rfl rfl rfl ?_)
  refine opW_x (w_lenV rfl rfl Try.underlying38 rfl ?_)
  refine opW_x (w_move rfl rfl rfl ?_)
  refine opW_x (w_lenV rfl rfl Try.underlying38 rfl ?_)
  refine opW_x (w_neqI rfl rfl rfl rfl ?_)
  refine w_keep [(0, _), (1, _), (4, _), (10, _)] ⟨rfl, rfl, rfl, rfl, trivial⟩ ?_
  refine w_cond rfl (fun g1 => ?_) (fun g1 => ?_)
  · try simp only [decide_eq_true_eq, decide_eq_false_iff_not, Bool.not_eq_true', Bool.not_eq_false', decide_not, Decidable.not_not, Int.not_lt, Int.not_le, ne_eq] at g1
    refine w_seq_region ?_
    refine opW_x (w_assign rfl rfl rfl ?_)
    refine w_keep [(0, _), (1, _), (4, _), (10, _)] ⟨rfl, rfl, rfl, rfl, trivial⟩ ?_
    refine w_ret (thn_r ?_)
    exact end0 .ret (.inl rfl) [_] ⟨rfl, trivial⟩ ⟨bool_eq (eqF_len g1), rfl, rfl⟩
  · try simp only [decide_eq_true_eq, decide_eq_false_iff_not, Bool.not_eq_true', Bool.not_eq_false', decide_not, Decidable.not_not, Int.not_lt, Int.not_le, ne_eq] at g1
    refine w_skip ?_
    refine thn_n ?_
    refine w_seq ?_
    refine w_seq_region ?_
    refine opW_x (w_assign rfl rfl rfl ?_)
    refine w_keep [(0, _), (1, _), (4, _), (5, _), (10, _)] ⟨rfl, rfl, rfl, rfl, rfl, trivial⟩ ?_
    refine w_block ?_
    refine w_loopE (α := Nat) [0, 1, 10] (fun k => [(5, .int .i64 k)]) [] (fun k => []) (fun k Bx => Bx = B ∧ k ≤ xs.length ∧ xs.take k = ys.take k) (fun k => xs.length - k) 0 ⟨rfl, trivial⟩ rfl (⟨rfl, Nat.zero_le _, by simp⟩) (fun k B1 hle1 hI => ?_)
    obtain ⟨rfl, hk, he⟩ := hI
    refine w_tidy [(0, _), (1, _), (5, _), (10, _)] [] ⟨rfl, rfl, rfl, rfl, trivial⟩ rfl ?_
    refine w_seq ?_
    refine w_seq_region ?_
    refine opW_x (w_move rfl rfl rfl ?_)
    refine opW_x (w_move rfl rfl rfl ?_)
    refine opW_x (w_lenV rfl rfl Try.underlying38 rfl ?_)
    refine opW_x (w_lss rfl rfl rfl rfl ?_)
    refine w_keep [(0, _), (1, _), (5, _), (10, _), (14, _)] ⟨rfl, rfl, rfl, rfl, rfl, trivial⟩ ?_
    refine w_cond rfl (fun g2 => ?_) (fun g2 => ?_)
    · try simp only [decide_eq_true_eq, decide_eq_false_iff_not, Bool.not_eq_true', Bool.not_eq_false', decide_not, Decidable.not_not, Int.not_lt, Int.not_le, ne_eq] at g2
      refine w_skip ?_
      refine thn_n ?_
      refine w_seq ?_
      refine w_block ?_
      refine w_seq ?_
      refine w_draw (same _ _) mo (by kernel_rfl) ⟨rfl, rfl⟩ ?_
      refine any_takeP 0 rfl (by kernel_rfl) rfl (fun D B L => w_move rfl rfl rfl ⟨rfl, rfl, rfl, rfl⟩) ?_
      refine any_takeP 1 rfl (by kernel_rfl) rfl (fun D B L => w_move rfl rfl rfl ⟨rfl, rfl, rfl, rfl⟩) ?_
      obtain ⟨x, hx⟩ := getLt (xs := xs) (i := k) (by first | omega | (simp; done) | (simp; omega))
      obtain ⟨bb3, oo3, rfl⟩ := ha.base hx
      obtain ⟨_, ⟨rfl, hb4⟩, hc4⟩ := ha.elem hx
      refine any_take 2 rfl (by kernel_rfl) rfl (q_of fun D => w_ixB rfl rfl Try.underlying38 sz9 rfl rfl (by first | omega | (simp; done) | (simp; omega)) (by first | omega | (simp; done) | (simp; omega)) ⟨rfl, rfl, rfl, rfl⟩) ?_
      refine any_take 3 rfl (by kernel_rfl) rfl (q_of fun D => w_load1 rfl rfl lk9 rfl (hc4 _ 0 _ rfl) ⟨rfl, rfl, rfl, rfl⟩) ?_
      refine any_takeP 4 rfl (by kernel_rfl) rfl (fun D B L => w_move rfl rfl rfl ⟨rfl, rfl, rfl, rfl⟩) ?_
      refine any_takeP 5 rfl (by kernel_rfl) rfl (fun D B L => w_move rfl rfl rfl ⟨rfl, rfl, rfl, rfl⟩) ?_
      obtain ⟨y, hy⟩ := getLt (xs := ys) (i := k) (by first | omega | (simp; done) | (simp; omega))
      obtain ⟨bb6, oo6, rfl⟩ := hb.base hy
      obtain ⟨_, ⟨rfl, hb7⟩, hc7⟩ := hb.elem hy
      refine any_take 6 rfl (by kernel_rfl) rfl (q_of fun D => w_ixB rfl rfl Try.underlying38 sz9 rfl rfl (by first | omega | (simp; done) | (simp; omega)) (by first | omega | (simp; done) | (simp; omega)) ⟨rfl, rfl, rfl, rfl⟩) ?_
      refine any_take 7 rfl (by kernel_rfl) rfl (q_of fun D => w_load1 rfl rfl lk9 rfl (hc7 _ 0 _ rfl) ⟨rfl, rfl, rfl, rfl⟩) ?_
      refine any_take 8 rfl (by kernel_rfl) rfl (q_of fun D => w_neqS rfl rfl rfl rfl ⟨rfl, rfl, rfl, rfl⟩) ?_
      refine any_done (by kernel_rfl) (by kernel_rfl) ?_
      refine thn_n ?_
      refine w_keep [(0, _), (1, _), (5, _), (10, _), (14, _), (25, _)] ⟨rfl, rfl, rfl, rfl, rfl, rfl, trivial⟩ ?_
      refine w_cond rfl (fun g3 => ?_) (fun g3 => ?_)
      · try simp only [decide_eq_true_eq, decide_eq_false_iff_not, Bool.not_eq_true', Bool.not_eq_false', decide_not, Decidable.not_not, Int.not_lt, Int.not_le, ne_eq] at g3
        refine w_seq_region ?_
        refine opW_x (w_assign rfl rfl rfl ?_)
        refine w_keep [(0, _), (1, _), (4, _), (5, _), (10, _), (14, _), (25, _)] ⟨rfl, rfl, rfl, rfl, rfl, rfl, rfl, trivial⟩ ?_
        refine w_ret (inB_r (thn_r (rndE_r (inB_r (thn_r ?_)))))
        exact end0 .ret (.inl rfl) [_] ⟨rfl, trivial⟩ ⟨bool_eq (eqF_elem hx hy g3), rfl, rfl⟩
      · try simp only [decide_eq_true_eq, decide_eq_false_iff_not, Bool.not_eq_true', Bool.not_eq_false', decide_not, Decidable.not_not, Int.not_lt, Int.not_le, ne_eq] at g3
        refine w_skip ?_
        refine inB_n (thn_n ?_)
        refine w_region ?_
        refine opW_x (w_move rfl rfl rfl ?_)
        refine opW_x (w_add rfl rfl rfl rfl (by first | exact wrI64 (by first | omega | (simp; done) | (simp; omega)) (by first | omega | (simp; done) | (simp; omega)) | rfl) ?_)
        refine opW_x (w_assign rfl rfl rfl ?_)
        exact rndE_n (k + 1) [] (by first | omega | (simp only []; omega)) ⟨rfl, by omega, take_eq_next hx hy g3 he⟩ ⟨rfl, rfl, rfl, rfl, trivial⟩ rfl
    · try simp only [decide_eq_true_eq, decide_eq_false_iff_not, Bool.not_eq_true', Bool.not_eq_false', decide_not, Decidable.not_not, Int.not_lt, Int.not_le, ne_eq] at g2
      refine w_exit (thn_x (rndE_x (inB_hit (thn_n ?_))))
      refine w_seq_region ?_
      refine opW_x (w_assign rfl rfl rfl ?_)
      refine w_keep [(0, _), (1, _), (4, _), (5, _), (10, _), (14, _)] ⟨rfl, rfl, rfl, rfl, rfl, rfl, trivial⟩ ?_
      refine w_ret ?_
      exact end0 .ret (.inl rfl) [_] ⟨rfl, trivial⟩ ⟨bool_eq (eqT (by omega) (by omega) he), rfl, rfl⟩

set_option maxRecDepth 4000 in
set_option maxHeartbeats 400000 in
theorem hasName_c (q : Option Addr) (cp : Nat) (xs : List Str) (u : Str) (B : Kn) (ha : SlK B q cp 1 StrR xs) : RetB Try.prog 32 [.slice q xs.length cp, str u] B (.bool (decide (u ∈ xs))) := by
  refine callsB_body 18 Try.func32 rfl rfl rfl (Nat.le_of_ble_eq_true rfl) ?_
  have han := ha.len
  refine w_seq_region ?_
  refine opW_x (w_assign rfl rfl rfl ?_)
  refine w_keep [(0, _), (1, _), (4, _)] ⟨rfl, rfl, rfl, trivial⟩ ?_
  refine w_seq ?_
  refine w_seq_region ?_
  refine opW_x (w_assign rfl rfl rfl ?_)
  refine w_keep [(0, _), (1, _), (4, _), (5, _)] ⟨rfl, rfl, rfl, rfl, trivial⟩ ?_
  refine w_block ?_
  refine w_loopE (α := Nat) [0, 1] (fun k => [(5, .int .i64 k)]) [] (fun k => []) (fun k Bx => Bx = B ∧ k ≤ xs.length ∧ ∀ x, x ∈ xs.take k → x ≠ u) (fun k => xs.length - k) 0 ⟨rfl, trivial⟩ rfl (⟨rfl, Nat.zero_le _, by simp⟩) (fun k B1 hle1 hI => ?_)
  obtain ⟨rfl, hk, hn⟩ := hI
  refine w_tidy [(0, _), (1, _), (5, _)] [] ⟨rfl, rfl, rfl, trivial⟩ rfl ?_
  refine w_seq ?_
  refine w_seq_region ?_
  refine opW_x (w_move rfl rfl rfl ?_)
  refine opW_x (w_move rfl rfl rfl ?_)
  refine opW_x (w_lenV rfl rfl Try.underlying38 rfl ?_)
  refine opW_x (w_lss rfl rfl rfl rfl ?_)
  refine w_keep [(0, _), (1, _), (5, _), (9, _)] ⟨rfl, rfl, rfl, rfl, trivial⟩ ?_
  refine w_cond rfl (fun g1 => ?_) (fun g1 => ?_)
  · try simp only [decide_eq_true_eq, decide_eq_false_iff_not, Bool.not_eq_true', Bool.not_eq_false', decide_not, Decidable.not_not, Int.not_lt, Int.not_le, ne_eq] at g1
    refine w_skip ?_
    refine thn_n ?_
    refine w_seq ?_
    refine w_block ?_
    refine w_seq_region ?_
    refine opW_x (w_move rfl rfl rfl ?_)
    refine opW_x (w_move rfl rfl rfl ?_)
    obtain ⟨x, hx⟩ := getLt (xs := xs) (i := k) (by first | omega | (simp; done) | (simp; omega))
    obtain ⟨bb3, oo3, rfl⟩ := ha.base hx
    obtain ⟨_, ⟨rfl, hb4⟩, hc4⟩ := ha.elem hx
    refine opW_x (w_ixB rfl rfl Try.underlying38 sz9 rfl rfl (by first | omega | (simp; done) | (simp; omega)) (by first | omega | (simp; done) | (simp; omega)) ?_)
    refine opW_x (w_load1 rfl rfl lk9 rfl (hc4 _ 0 _ rfl) ?_)
    refine opW_x (w_move rfl rfl rfl ?_)
    refine opW_x (w_eqlS rfl rfl rfl rfl ?_)
    refine w_keep [(0, _), (1, _), (5, _), (9, _), (17, _)] ⟨rfl, rfl, rfl, rfl, rfl, trivial⟩ ?_
    refine w_cond rfl (fun g2 => ?_) (fun g2 => ?_)
    · try simp only [decide_eq_true_eq, decide_eq_false_iff_not, Bool.not_eq_true', Bool.not_eq_false', decide_not, Decidable.not_not, Int.not_lt, Int.not_le, ne_eq] at g2
      refine w_seq_region ?_
      refine opW_x (w_assign rfl rfl rfl ?_)
      refine w_keep [(0, _), (1, _), (4, _), (5, _), (9, _), (17, _)] ⟨rfl, rfl, rfl, rfl, rfl, rfl, trivial⟩ ?_
      refine w_ret (inB_r (thn_r (rndE_r (inB_r (thn_r ?_)))))
      exact end0 .ret (.inl rfl) [_] ⟨rfl, trivial⟩ ⟨bool_eq (memT hx g2), rfl, rfl⟩
    · try simp only [decide_eq_true_eq, decide_eq_false_iff_not, Bool.not_eq_true', Bool.not_eq_false', decide_not, Decidable.not_not, Int.not_lt, Int.not_le, ne_eq] at g2
      refine w_skip ?_
      refine inB_n (thn_n ?_)
      refine w_region ?_
      refine opW_x (w_move rfl rfl rfl ?_)
      refine opW_x (w_add rfl rfl rfl rfl (by first | exact wrI64 (by first | omega | (simp; done) | (simp; omega)) (by first | omega | (simp; done) | (simp; omega)) | rfl) ?_)
      refine opW_x (w_assign rfl rfl rfl ?_)
      exact rndE_n (k + 1) [] (by first | omega | (simp only []; omega)) ⟨rfl, by omega, all_next hx hn g2⟩ ⟨rfl, rfl, rfl, trivial⟩ rfl
  · try simp only [decide_eq_true_eq, decide_eq_false_iff_not, Bool.not_eq_true', Bool.not_eq_false', decide_not, Decidable.not_not, Int.not_lt, Int.not_le, ne_eq] at g1
    refine w_exit (thn_x (rndE_x (inB_hit (thn_n ?_))))
    refine w_seq_region ?_
    refine opW_x (w_assign rfl rfl rfl ?_)
    refine w_keep [(0, _), (1, _), (4, _), (5, _), (9, _)] ⟨rfl, rfl, rfl, rfl, rfl, trivial⟩ ?_
    refine w_ret ?_
    exact end0 .ret (.inl rfl) [_] ⟨rfl, trivial⟩ ⟨bool_eq (memF (take_end (by omega) hn)), rfl, rfl⟩

set_option maxRecDepth 4000 in
set_option maxHeartbeats 400000 in
theorem l21Has_c (q : Option Addr) (cp : Nat) (xs : List Str) (u : Str) (B : Kn) (ha : SlK B q cp 1 StrR xs) : RetB Try.prog 114 [.slice q xs.length cp, str u] B (.bool (decide (u ∈ xs))) := by
  refine callsB_body 18 Try.func114 rfl rfl rfl (Nat.le_of_ble_eq_true rfl) ?_
  have han := ha.len
  refine w_seq_region ?_
  refine opW_x (w_assign rfl rfl rfl ?_)
  refine w_keep [(0, _), (1, _), (4, _)] ⟨rfl, rfl, rfl, trivial⟩ ?_
  refine w_seq ?_
  refine w_seq_region ?_
  refine opW_x (w_assign rfl rfl rfl ?_)
  refine w_keep [(0, _), (1, _), (4, _), (5, _)] ⟨rfl, rfl, rfl, rfl, trivial⟩ ?_
  refine w_block ?_
  refine w_loopE (α := Nat) [0, 1] (fun k => [(5, .int .i64 k)]) [] (fun k => []) (fun k Bx => Bx = B ∧ k ≤ xs.length ∧ ∀ x, x ∈ xs.take k → x ≠ u) (fun k => xs.length - k) 0 ⟨rfl, trivial⟩ rfl (⟨rfl, Nat.zero_le _, by simp⟩) (fun k B1 hle1 hI => ?_)
  obtain ⟨rfl, hk, hn⟩ := hI
  refine w_tidy [(0, _), (1, _), (5, _)] [] ⟨rfl, rfl, rfl, trivial⟩ rfl ?_
  refine w_seq ?_
  refine w_seq_region ?_
  refine opW_x (w_move rfl rfl rfl ?_)
  refine opW_x (w_move rfl rfl rfl ?_)
  refine opW_x (w_lenV rfl rfl Try.underlying38 rfl ?_)
  refine opW_x (w_lss rfl rfl rfl rfl ?_)
  refine w_keep [(0, _), (1, _), (5, _), (9, _)] ⟨rfl, rfl, rfl, rfl, trivial⟩ ?_
  refine w_cond rfl (fun g1 => ?_) (fun g1 => ?_)
  · try simp only [decide_eq_true_eq, decide_eq_false_iff_not, Bool.not_eq_true', Bool.not_eq_false', decide_not, Decidable.not_not, Int.not_lt, Int.not_le, ne_eq] at g1
    refine w_skip ?_
    refine thn_n ?_
    refine w_seq ?_
    refine w_block ?_
    refine w_seq_region ?_
    refine opW_x (w_move rfl rfl rfl ?_)
    refine opW_x (w_move rfl rfl rfl ?_)
    obtain ⟨x, hx⟩ := getLt (xs := xs) (i := k) (by first | omega | (simp; done) | (simp; omega))
    obtain ⟨bb3, oo3, rfl⟩ := ha.base hx
    obtain ⟨_, ⟨rfl, hb4⟩, hc4⟩ := ha.elem hx
    refine opW_x (w_ixB rfl rfl Try.underlying38 sz9 rfl rfl (by first | omega | (simp; done) | (simp; omega)) (by first | omega | (simp; done) | (simp; omega)) ?_)
    refine opW_x (w_load1 rfl rfl lk9 rfl (hc4 _ 0 _ rfl) ?_)
    refine opW_x (w_move rfl rfl rfl ?_)
    refine opW_x (w_eqlS rfl rfl rfl rfl ?_)
    refine w_keep [(0, _), (1, _), (5, _), (9, _), (17, _)] ⟨rfl, rfl, rfl, rfl, rfl, trivial⟩ ?_
    refine w_cond rfl (fun g2 => ?_) (fun g2 => ?_)
    · try simp only [decide_eq_true_eq, decide_eq_false_iff_not, Bool.not_eq_true', Bool.not_eq_false', decide_not, Decidable.not_not, Int.not_lt, Int.not_le, ne_eq] at g2
      refine w_seq_region ?_
      refine opW_x (w_assign rfl rfl rfl ?_)
      refine w_keep [(0, _), (1, _), (4, _), (5, _), (9, _), (17, _)] ⟨rfl, rfl, rfl, rfl, rfl, rfl, trivial⟩ ?_
      refine w_ret (inB_r (thn_r (rndE_r (inB_r (thn_r ?_)))))
      exact end0 .ret (.inl rfl) [_] ⟨rfl, trivial⟩ ⟨bool_eq (memT hx g2), rfl, rfl⟩
    · try simp only [decide_eq_true_eq, decide_eq_false_iff_not, Bool.not_eq_true', Bool.not_eq_false', decide_not, Decidable.not_not, Int.not_lt, Int.not_le, ne_eq] at g2
      refine w_skip ?_
      refine inB_n (thn_n ?_)
      refine w_region ?_
      refine opW_x (w_move rfl rfl rfl ?_)
      refine opW_x (w_add rfl rfl rfl rfl (by first | exact wrI64 (by first | omega | (simp; done) | (simp; omega)) (by first | omega | (simp; done) | (simp; omega)) | rfl) ?_)
      refine opW_x (w_assign rfl rfl rfl ?_)
      exact rndE_n (k + 1) [] (by first | omega | (simp only []; omega)) ⟨rfl, by omega, all_next hx hn g2⟩ ⟨rfl, rfl, rfl, trivial⟩ rfl
  · try simp only [decide_eq_true_eq, decide_eq_false_iff_not, Bool.not_eq_true', Bool.not_eq_false', decide_not, Decidable.not_not, Int.not_lt, Int.not_le, ne_eq] at g1
    refine w_exit (thn_x (rndE_x (inB_hit (thn_n ?_))))
    refine w_seq_region ?_
    refine opW_x (w_assign rfl rfl rfl ?_)
    refine w_keep [(0, _), (1, _), (4, _), (5, _), (9, _)] ⟨rfl, rfl, rfl, rfl, rfl, trivial⟩ ?_
    refine w_ret ?_
    exact end0 .ret (.inl rfl) [_] ⟨rfl, trivial⟩ ⟨bool_eq (memF (take_end (by omega) hn)), rfl, rfl⟩

set_option maxRecDepth 4000 in
set_option maxHeartbeats 400000 in
theorem l21Names_c (q : Option Addr) (cp : Nat) (xs : List Str) (B : Kn) (ha : SlK B q cp 1 StrR xs) : RetB Try.prog 71 [.slice q xs.length cp] B (.bool (namesOk xs)) := by
  refine callsB_body 29 Try.func71 rfl rfl rfl (Nat.le_of_ble_eq_true rfl) ?_
  have han := ha.len
  refine w_seq_region ?_
  refine opW_x (w_assign rfl rfl rfl ?_)
  refine w_keep [(0, _), (2, _)] ⟨rfl, rfl, trivial⟩ ?_
  refine w_seq ?_
  refine w_seq_region ?_
  refine opW_x (w_assign rfl rfl rfl ?_)
  refine w_keep [(0, _), (2, _), (3, _)] ⟨rfl, rfl, rfl, trivial⟩ ?_
  refine w_block ?_
  refine w_loopE (α := Nat) [0] (fun k => [(3, .int .i64 k)]) [] (fun k => []) (fun k Bx => Bx = B ∧ k ≤ xs.length ∧ (xs.take k).all nameOk = true ∧ (xs.take k).Nodup) (fun k => xs.length - k) 0 ⟨rfl, trivial⟩ rfl (⟨rfl, Nat.zero_le _, by simp, by simp⟩) (fun k B1 hle1 hI => ?_)
  obtain ⟨rfl, hk, hv, hn⟩ := hI
  refine w_tidy [(0, _), (3, _)] [] ⟨rfl, rfl, trivial⟩ rfl ?_
  refine w_seq ?_
  refine w_seq_region ?_
  refine opW_x (w_move rfl rfl rfl ?_)
  refine opW_x (w_move rfl rfl rfl ?_)
  refine opW_x (w_lenV rfl rfl Try.underlying38 rfl ?_)
  refine opW_x (w_lss rfl rfl rfl rfl ?_)
  refine w_keep [(0, _), (3, _), (7, _)] ⟨rfl, rfl, rfl, trivial⟩ ?_
  refine w_cond rfl (fun g1 => ?_) (fun g1 => ?_)
  · try simp only [decide_eq_true_eq, decide_eq_false_iff_not, Bool.not_eq_true', Bool.not_eq_false', decide_not, Decidable.not_not, Int.not_lt, Int.not_le, ne_eq] at g1
    refine w_skip ?_
    refine thn_n ?_
    refine w_seq ?_
    refine w_block ?_
    refine w_seq ?_
    refine w_draw (same _ _) mo (by kernel_rfl) ⟨rfl, rfl⟩ ?_
    refine any_takeP 0 rfl (by kernel_rfl) rfl (fun D B L => w_move rfl rfl rfl ⟨rfl, rfl, rfl, rfl⟩) ?_
    refine any_takeP 1 rfl (by kernel_rfl) rfl (fun D B L => w_move rfl rfl rfl ⟨rfl, rfl, rfl, rfl⟩) ?_
    obtain ⟨x, hx⟩ := getLt (xs := xs) (i := k) (by first | omega | (simp; done) | (simp; omega))
    obtain ⟨bb3, oo3, rfl⟩ := ha.base hx
    obtain ⟨_, ⟨rfl, hb4⟩, hc4⟩ := ha.elem hx
    refine any_take 2 rfl (by kernel_rfl) rfl (q_of fun D => w_ixB rfl rfl Try.underlying38 sz9 rfl rfl (by first | omega | (simp; done) | (simp; omega)) (by first | omega | (simp; done) | (simp; omega)) ⟨rfl, rfl, rfl, rfl⟩) ?_
    refine any_take 3 rfl (by kernel_rfl) rfl (q_of fun D => w_load1 rfl rfl lk9 rfl (hc4 _ 0 _ rfl) ⟨rfl, rfl, rfl, rfl⟩) ?_
    refine any_take 4 rfl (by kernel_rfl) rfl (q_of fun D => w_retB rfl rfl en70 rfl (specName_c _ (by first | assumption | omega | (simp; omega)) _) ⟨rfl, rfl, rfl, rfl⟩) ?_
    refine any_take 5 rfl (by kernel_rfl) rfl (q_of fun D => w_not rfl rfl rfl ⟨rfl, rfl, rfl, rfl⟩) ?_
    refine any_takeP 6 rfl (by kernel_rfl) rfl (fun D B L => w_move rfl rfl rfl ⟨rfl, rfl, rfl, rfl⟩) ?_
    refine a_split (d := 16) rfl (fun g2 => ?_) (fun g2 => ?_)
    · try simp only [decide_eq_true_eq, decide_eq_false_iff_not, Bool.not_eq_true', Bool.not_eq_false', decide_not, Decidable.not_not, Int.not_lt, Int.not_le, ne_eq] at g2
      refine any_takeP 7 rfl (by kernel_rfl) rfl (fun D B L => w_pass rfl rfl ⟨rfl, rfl, rfl, rfl⟩) ?_
      refine any_takeP 8 rfl (by kernel_rfl) rfl (fun D B L => w_pass rfl rfl ⟨rfl, rfl, rfl, rfl⟩) ?_
      refine any_take 9 rfl (by kernel_rfl) rfl (q_of fun D => w_pass rfl rfl ⟨rfl, rfl, rfl, rfl⟩) ?_
      refine any_takeP 10 rfl (by kernel_rfl) rfl (fun D B L => w_pass rfl rfl ⟨rfl, rfl, rfl, rfl⟩) ?_
      refine any_takeP 11 rfl (by kernel_rfl) rfl (fun D B L => w_pass rfl rfl ⟨rfl, rfl, rfl, rfl⟩) ?_
      refine any_take 12 rfl (by kernel_rfl) rfl (q_of fun D => w_pass rfl rfl ⟨rfl, rfl, rfl, rfl⟩) ?_
      refine any_take 13 rfl (by kernel_rfl) rfl (q_of fun D => w_pass rfl rfl ⟨rfl, rfl, rfl, rfl⟩) ?_
      refine any_take 14 rfl (by kernel_rfl) rfl (q_of fun D => w_pass rfl rfl ⟨rfl, rfl, rfl, rfl⟩) ?_
      refine any_take 15 rfl (by kernel_rfl) rfl (q_of fun D => w_pickT rfl rfl rfl rfl ⟨rfl, rfl, rfl, rfl⟩) ?_
      refine any_done (by kernel_rfl) (by kernel_rfl) ?_
      refine thn_n ?_
      refine w_keep [(0, _), (3, _), (7, _), (25, _)] ⟨rfl, rfl, rfl, rfl, trivial⟩ ?_
      refine w_cond (t := true) rfl (fun _ => ?_) (fun h => Bool.noConfusion h)
      refine w_seq_region ?_
      refine opW_x (w_assign rfl rfl rfl ?_)
      refine w_keep [(0, _), (2, _), (3, _), (7, _), (25, _)] ⟨rfl, rfl, rfl, rfl, rfl, trivial⟩ ?_
      refine w_ret (inB_r (thn_r (rndE_r (inB_r (thn_r ?_)))))
      exact end0 .ret (.inl rfl) [_] ⟨rfl, trivial⟩ ⟨bool_eq (namesOk_bad1 hx g2), rfl, rfl⟩
    · try simp only [decide_eq_true_eq, decide_eq_false_iff_not, Bool.not_eq_true', Bool.not_eq_false', decide_not, Decidable.not_not, Int.not_lt, Int.not_le, ne_eq] at g2
      refine any_takeP 7 rfl (by kernel_rfl) rfl (fun D B L => w_move rfl rfl rfl ⟨rfl, rfl, rfl, rfl⟩) ?_
      refine any_takeP 8 rfl (by kernel_rfl) rfl (fun D B L => w_move rfl rfl rfl ⟨rfl, rfl, rfl, rfl⟩) ?_
      obtain ⟨hq6, q6, cp6, hv6, hr6⟩ := ha.cutE 0 k (by first | omega | (simp; done) | (simp; omega)) (by first | omega | (simp; done) | (simp; omega))
      have hr6n := hr6.len
      refine any_take 9 rfl (by kernel_rfl) rfl (q_of fun D => w_cutV (a := 0) (b := k) hv6 (by first | omega | (simp; done) | (simp; omega)) hq6 rfl rfl Try.underlying38 sz9 rfl rfl ⟨_, _, rfl, by first | omega | (simp; done) | (simp; omega)⟩ ⟨rfl, rfl, rfl, rfl⟩) ?_
      refine any_takeP 10 rfl (by kernel_rfl) rfl (fun D B L => w_move rfl rfl rfl ⟨rfl, rfl, rfl, rfl⟩) ?_
      refine any_takeP 11 rfl (by kernel_rfl) rfl (fun D B L => w_move rfl rfl rfl ⟨rfl, rfl, rfl, rfl⟩) ?_
      refine any_take 12 rfl (by kernel_rfl) rfl (q_of fun D => w_ixB rfl rfl Try.underlying38 sz9 rfl rfl (by first | omega | (simp; done) | (simp; omega)) (by first | omega | (simp; done) | (simp; omega)) ⟨rfl, rfl, rfl, rfl⟩) ?_
      refine any_take 13 rfl (by kernel_rfl) rfl (q_of fun D => w_load1 rfl rfl lk9 rfl (hc4 _ 0 _ rfl) ⟨rfl, rfl, rfl, rfl⟩) ?_
      refine any_take 14 rfl (by kernel_rfl) rfl (q_of fun D => w_retB rfl rfl en114 rfl (l21Has_c _ _ _ _ _ hr6) ⟨rfl, rfl, rfl, rfl⟩) ?_
      refine any_take 15 rfl (by kernel_rfl) rfl (q_of fun D => w_pickF rfl rfl rfl rfl ⟨rfl, rfl, rfl, rfl⟩) ?_
      refine any_done (by kernel_rfl) (by kernel_rfl) ?_
      refine thn_n ?_
      refine w_keep [(0, _), (3, _), (7, _), (25, _)] ⟨rfl, rfl, rfl, rfl, trivial⟩ ?_
      refine w_cond rfl (fun g3 => ?_) (fun g3 => ?_)
      · try simp only [decide_eq_true_eq, decide_eq_false_iff_not, Bool.not_eq_true', Bool.not_eq_false', decide_not, Decidable.not_not, Int.not_lt, Int.not_le, ne_eq] at g3
        refine w_seq_region ?_
        refine opW_x (w_assign rfl rfl rfl ?_)
        refine w_keep [(0, _), (2, _), (3, _), (7, _), (25, _)] ⟨rfl, rfl, rfl, rfl, rfl, trivial⟩ ?_
        refine w_ret (inB_r (thn_r (rndE_r (inB_r (thn_r ?_)))))
        exact end0 .ret (.inl rfl) [_] ⟨rfl, trivial⟩ ⟨bool_eq (namesOk_bad2 hx (by simpa using g3)), rfl, rfl⟩
      · try simp only [decide_eq_true_eq, decide_eq_false_iff_not, Bool.not_eq_true', Bool.not_eq_false', decide_not, Decidable.not_not, Int.not_lt, Int.not_le, ne_eq] at g3
        refine w_skip ?_
        refine inB_n (thn_n ?_)
        refine w_region ?_
        refine opW_x (w_move rfl rfl rfl ?_)
        refine opW_x (w_add rfl rfl rfl rfl (by first | exact wrI64 (by first | omega | (simp; done) | (simp; omega)) (by first | omega | (simp; done) | (simp; omega)) | rfl) ?_)
        refine opW_x (w_assign rfl rfl rfl ?_)
        exact rndE_n (k + 1) [] (by first | omega | (simp only []; omega)) ⟨rfl, by omega, all_step2 hx g2 hv, nd_next hx hn (by simpa using g3)⟩ ⟨rfl, rfl, trivial⟩ rfl
  · try simp only [decide_eq_true_eq, decide_eq_false_iff_not, Bool.not_eq_true', Bool.not_eq_false', decide_not, Decidable.not_not, Int.not_lt, Int.not_le, ne_eq] at g1
    refine w_exit (thn_x (rndE_x (inB_hit (thn_n ?_))))
    refine w_seq_region ?_
    refine opW_x (w_move rfl rfl rfl ?_)
    refine opW_x (w_lenV rfl rfl Try.underlying38 rfl ?_)
    refine opW_x (w_leq rfl rfl rfl rfl ?_)
    refine opW_x (w_assign rfl rfl rfl ?_)
    refine w_keep [(0, _), (2, _), (3, _), (7, _)] ⟨rfl, rfl, rfl, rfl, trivial⟩ ?_
    refine w_ret ?_
    exact end0 .ret (.inl rfl) [_] ⟨rfl, trivial⟩ ⟨bool_eq (namesOk_end (by omega) hv hn), rfl, rfl⟩

set_option maxRecDepth 4000 in
set_option maxHeartbeats 400000 in
theorem specLetter_c (q : Option Addr) (cp : Nat) (x : DLetter) (B : Kn) (ha : SlK B q cp 1 StrR x.to_) (h1 : x.fr.length ≤ 2000000) (h2 : x.text.length ≤ 2000000) : RetB Try.prog 29 [.agg #[str x.fr, .slice q x.to_.length cp, str x.text]] B (.bool (letterOk x)) := by
  refine callsB_body 23 Try.func29 rfl rfl rfl (Nat.le_of_ble_eq_true rfl) ?_
  refine w_seq_region ?_
  refine opW_x (w_box (l := [_, _, _]) rfl rfl rfl rfl (fun b1 => ?_))
  refine opW_x (w_assign rfl rfl rfl ?_)
  refine w_tidy [(0, _), (1, _), (2, _)] [_] ⟨rfl, rfl, rfl, trivial⟩ rfl ?_
  refine w_seq_region ?_
  refine opW_x (w_fieldAddr rfl rfl fo40x0 rfl ?_)
  refine opW_x (w_load1 rfl rfl lk9 rfl (atL 0 rfl rfl rfl) ?_)
  refine opW_x (w_retB rfl rfl en70 rfl (specName_c _ (by first | assumption | omega | (simp; omega)) _) ?_)
  refine opW_x (w_move rfl rfl rfl ?_)
  refine r_split (d := 6) rfl (fun g1 => ?_) (fun g1 => ?_)
  · try simp only [decide_eq_true_eq, decide_eq_false_iff_not, Bool.not_eq_true', Bool.not_eq_false', decide_not, Decidable.not_not, Int.not_lt, Int.not_le, ne_eq] at g1
    refine opW_x (w_fieldAddr rfl rfl fo40x1 rfl ?_)
    refine opW_x (w_load1 rfl rfl lk38 rfl (atL 0 rfl rfl rfl) ?_)
    refine opW_x (w_retB rfl rfl en71 rfl (l21Names_c _ _ _ _ ha) ?_)
    refine opW_x (w_pickT rfl rfl rfl rfl ?_)
    refine opW_x (w_move rfl rfl rfl ?_)
    refine r_split (d := 11) rfl (fun g2 => ?_) (fun g2 => ?_)
    · try simp only [decide_eq_true_eq, decide_eq_false_iff_not, Bool.not_eq_true', Bool.not_eq_false', decide_not, Decidable.not_not, Int.not_lt, Int.not_le, ne_eq] at g2
      refine opW_x (w_fieldAddr rfl rfl fo40x1 rfl ?_)
      refine opW_x (w_load1 rfl rfl lk38 rfl (atL 0 rfl rfl rfl) ?_)
      refine opW_x (w_lenV rfl rfl Try.underlying38 rfl ?_)
      refine opW_x (w_gtr rfl rfl rfl rfl ?_)
      refine opW_x (w_pickT rfl rfl rfl rfl ?_)
      refine opW_x (w_move rfl rfl rfl ?_)
      refine r_split (d := 17) rfl (fun g3 => ?_) (fun g3 => ?_)
      · try simp only [decide_eq_true_eq, decide_eq_false_iff_not, Bool.not_eq_true', Bool.not_eq_false', decide_not, Decidable.not_not, Int.not_lt, Int.not_le, ne_eq] at g3
        refine opW_x (w_fieldAddr rfl rfl fo40x2 rfl ?_)
        refine opW_x (w_load1 rfl rfl lk9 rfl (atL 0 rfl rfl rfl) ?_)
        refine opW_x (w_lenS rfl rfl Try.underlying9 rfl ?_)
        refine opW_x (w_leq rfl rfl rfl rfl ?_)
        refine opW_x (w_pickT rfl rfl rfl rfl ?_)
        refine opW_x (w_assign rfl rfl rfl ?_)
        refine w_keep [(0, _), (1, _), (2, _)] ⟨rfl, rfl, rfl, trivial⟩ ?_
        refine w_ret ?_
        exact end0 .ret (.inl rfl) [_] ⟨rfl, trivial⟩ ⟨bool_eq (by rw [Bool.eq_iff_iff]; simp [letterOk, g1, g2, g3]; try omega), rfl, rfl⟩
      · try simp only [decide_eq_true_eq, decide_eq_false_iff_not, Bool.not_eq_true', Bool.not_eq_false', decide_not, Decidable.not_not, Int.not_lt, Int.not_le, ne_eq] at g3
        refine opW_x (w_pass rfl rfl ?_)
        refine opW_x (w_pass rfl rfl ?_)
        refine opW_x (w_pass rfl rfl ?_)
        refine opW_x (w_pass rfl rfl ?_)
        refine opW_x (w_pickF rfl rfl rfl rfl ?_)
        refine opW_x (w_assign rfl rfl rfl ?_)
        refine w_keep [(0, _), (1, _), (2, _)] ⟨rfl, rfl, rfl, trivial⟩ ?_
        refine w_ret ?_
        exact end0 .ret (.inl rfl) [_] ⟨rfl, trivial⟩ ⟨bool_eq (by rw [Bool.eq_iff_iff]; simp [letterOk, g1, g2, g3]; try omega), rfl, rfl⟩
    · try simp only [decide_eq_true_eq, decide_eq_false_iff_not, Bool.not_eq_true', Bool.not_eq_false', decide_not, Decidable.not_not, Int.not_lt, Int.not_le, ne_eq] at g2
      refine opW_x (w_pass rfl rfl ?_)
      refine opW_x (w_pass rfl rfl ?_)
      refine opW_x (w_pass rfl rfl ?_)
      refine opW_x (w_pass rfl rfl ?_)
      refine opW_x (w_pickF rfl rfl rfl rfl ?_)
      refine opW_x (w_move rfl rfl rfl ?_)
      refine opW_x (w_pass rfl rfl ?_)
      refine opW_x (w_pass rfl rfl ?_)
      refine opW_x (w_pass rfl rfl ?_)
      refine opW_x (w_pass rfl rfl ?_)
      refine opW_x (w_pickF rfl rfl rfl rfl ?_)
      refine opW_x (w_assign rfl rfl rfl ?_)
      refine w_keep [(0, _), (1, _), (2, _)] ⟨rfl, rfl, rfl, trivial⟩ ?_
      refine w_ret ?_
      exact end0 .ret (.inl rfl) [_] ⟨rfl, trivial⟩ ⟨bool_eq (by rw [Bool.eq_iff_iff]; simp [letterOk, g1, g2]; try omega), rfl, rfl⟩
  · try simp only [decide_eq_true_eq, decide_eq_false_iff_not, Bool.not_eq_true', Bool.not_eq_false', decide_not, Decidable.not_not, Int.not_lt, Int.not_le, ne_eq] at g1
    refine opW_x (w_pass rfl rfl ?_)
    refine opW_x (w_pass rfl rfl ?_)
    refine opW_x (w_pass rfl rfl ?_)
    refine opW_x (w_pickF rfl rfl rfl rfl ?_)
    refine opW_x (w_move rfl rfl rfl ?_)
    refine opW_x (w_pass rfl rfl ?_)
    refine opW_x (w_pass rfl rfl ?_)
    refine opW_x (w_pass rfl rfl ?_)
    refine opW_x (w_pass rfl rfl ?_)
    refine opW_x (w_pickF rfl rfl rfl rfl ?_)
    refine opW_x (w_move rfl rfl rfl ?_)
    refine opW_x (w_pass rfl rfl ?_)
    refine opW_x (w_pass rfl rfl ?_)
    refine opW_x (w_pass rfl rfl ?_)
    refine opW_x (w_pass rfl rfl ?_)
    refine opW_x (w_pickF rfl rfl rfl rfl ?_)
    refine opW_x (w_assign rfl rfl rfl ?_)
    refine w_keep [(0, _), (1, _), (2, _)] ⟨rfl, rfl, rfl, trivial⟩ ?_
    refine w_ret ?_
    exact end0 .ret (.inl rfl) [_] ⟨rfl, trivial⟩ ⟨bool_eq (by rw [Bool.eq_iff_iff]; simp [letterOk, g1]; try omega), rfl, rfl⟩

set_option maxRecDepth 4000 in
set_option maxHeartbeats 400000 in
theorem index_c (q : Option Addr) (cp : Nat) (xs : List Str) (v : Str) (B : Kn) (ha : SlK B q cp 1 StrR xs) : RetB Try.prog 74 [.slice q xs.length cp, str v] B (.int .i64 (idxS xs v)) := by
  refine callsB_body 19 Try.func74 rfl rfl rfl (Nat.le_of_ble_eq_true rfl) ?_
  have han := ha.len
  refine w_seq_region ?_
  refine opW_x (w_assign rfl rfl rfl ?_)
  refine w_keep [(0, _), (1, _), (4, _)] ⟨rfl, rfl, rfl, trivial⟩ ?_
  refine w_seq ?_
  refine w_seq_region ?_
  refine opW_x (w_move rfl rfl rfl ?_)
  refine opW_x (w_lenV rfl rfl Try.underlying38 rfl ?_)
  refine opW_x (w_move rfl rfl rfl ?_)
  refine w_keep [(0, _), (1, _), (4, _), (7, _), (8, _)] ⟨rfl, rfl, rfl, rfl, rfl, trivial⟩ ?_
  refine w_block ?_
  refine w_loopE (α := Nat) [0, 1, 7] (fun k => [(8, .int .i64 k)]) [] (fun k => []) (fun k Bx => Bx = B ∧ k ≤ xs.length ∧ ∀ x, x ∈ xs.take k → decide (x = v) = false) (fun k => xs.length - k) 0 ⟨rfl, trivial⟩ rfl (⟨rfl, Nat.zero_le _, by simp⟩) (fun k B1 hle1 hI => ?_)
  obtain ⟨rfl, hk, hn⟩ := hI
  refine w_tidy [(0, _), (1, _), (7, _), (8, _)] [] ⟨rfl, rfl, rfl, rfl, trivial⟩ rfl ?_
  refine w_seq_region ?_
  refine opW_x (w_lss rfl rfl rfl rfl ?_)
  refine w_keep [(0, _), (1, _), (7, _), (8, _), (9, _)] ⟨rfl, rfl, rfl, rfl, rfl, trivial⟩ ?_
  refine w_seq ?_
  refine w_cond rfl (fun g1 => ?_) (fun g1 => ?_)
  · try simp only [decide_eq_true_eq, decide_eq_false_iff_not, Bool.not_eq_true', Bool.not_eq_false', decide_not, Decidable.not_not, Int.not_lt, Int.not_le, ne_eq] at g1
    refine w_skip ?_
    refine thn_n ?_
    refine w_seq ?_
    refine w_block ?_
    refine w_seq_region ?_
    refine opW_x (w_move rfl rfl rfl ?_)
    refine opW_x (w_assign rfl rfl rfl ?_)
    refine w_keep [(0, _), (1, _), (5, _), (7, _), (8, _), (9, _)] ⟨rfl, rfl, rfl, rfl, rfl, rfl, trivial⟩ ?_
    refine w_seq_region ?_
    refine opW_x (w_move rfl rfl rfl ?_)
    refine opW_x (w_move rfl rfl rfl ?_)
    refine opW_x (w_move rfl rfl rfl ?_)
    obtain ⟨x, hx⟩ := getLt (xs := xs) (i := k) (by first | omega | (simp; done) | (simp; omega))
    obtain ⟨bb3, oo3, rfl⟩ := ha.base hx
    obtain ⟨_, ⟨rfl, hb4⟩, hc4⟩ := ha.elem hx
    refine opW_x (w_ixB rfl rfl Try.underlying38 sz9 rfl rfl (by first | omega | (simp; done) | (simp; omega)) (by first | omega | (simp; done) | (simp; omega)) ?_)
    refine opW_x (w_load1 rfl rfl lk9 rfl (hc4 _ 0 _ rfl) ?_)
    refine opW_x (w_eqlS rfl rfl rfl rfl ?_)
    refine w_keep [(0, _), (1, _), (5, _), (7, _), (8, _), (9, _), (16, _)] ⟨rfl, rfl, rfl, rfl, rfl, rfl, rfl, trivial⟩ ?_
    refine w_cond rfl (fun g2 => ?_) (fun g2 => ?_)
    · try simp only [decide_eq_true_eq, decide_eq_false_iff_not, Bool.not_eq_true', Bool.not_eq_false', decide_not, Decidable.not_not, Int.not_lt, Int.not_le, ne_eq] at g2
      refine w_seq_region ?_
      refine opW_x (w_move rfl rfl rfl ?_)
      refine opW_x (w_assign rfl rfl rfl ?_)
      refine w_keep [(0, _), (1, _), (4, _), (5, _), (7, _), (8, _), (9, _), (16, _)] ⟨rfl, rfl, rfl, rfl, rfl, rfl, rfl, rfl, trivial⟩ ?_
      refine w_ret (inB_r (thn_r (rndE_r (inB_r (thn_r ?_)))))
      exact end0 .ret (.inl rfl) [_] ⟨rfl, trivial⟩ ⟨int_eq (idxP_hit hx (by simp [g2]) hn).symm, rfl, rfl⟩
    · try simp only [decide_eq_true_eq, decide_eq_false_iff_not, Bool.not_eq_true', Bool.not_eq_false', decide_not, Decidable.not_not, Int.not_lt, Int.not_le, ne_eq] at g2
      refine w_skip ?_
      refine inB_n (thn_n ?_)
      refine w_region ?_
      refine opW_x (w_add rfl rfl rfl rfl (by first | exact wrI64 (by first | omega | (simp; done) | (simp; omega)) (by first | omega | (simp; done) | (simp; omega)) | rfl) ?_)
      refine opW_x (w_move rfl rfl rfl ?_)
      exact rndE_n (k + 1) [] (by first | omega | (simp only []; omega)) ⟨rfl, by omega, all_next hx hn (by simp [Ne.symm g2])⟩ ⟨rfl, rfl, rfl, rfl, trivial⟩ rfl
  · try simp only [decide_eq_true_eq, decide_eq_false_iff_not, Bool.not_eq_true', Bool.not_eq_false', decide_not, Decidable.not_not, Int.not_lt, Int.not_le, ne_eq] at g1
    refine w_exit (thn_x (rndE_x (inB_hit (thn_n ?_))))
    refine w_seq_region ?_
    refine opW_x (w_assign rfl rfl rfl ?_)
    refine w_keep [(0, _), (1, _), (4, _), (7, _), (8, _), (9, _)] ⟨rfl, rfl, rfl, rfl, rfl, rfl, trivial⟩ ?_
    refine w_ret ?_
    exact end0 .ret (.inl rfl) [_] ⟨rfl, trivial⟩ ⟨int_eq (idxP_none (take_end (by omega) hn)).symm, rfl, rfl⟩

set_option maxRecDepth 4000 in
set_option maxHeartbeats 400000 in
theorem contains_c (q : Option Addr) (cp : Nat) (xs : List Str) (v : Str) (B : Kn) (ha : SlK B q cp 1 StrR xs) : RetB Try.prog 73 [.slice q xs.length cp, str v] B (.bool (decide (v ∈ xs))) := by
  refine callsB_body 9 Try.func73 rfl rfl rfl (Nat.le_of_ble_eq_true rfl) ?_
  refine w_seq_region ?_
  refine opW_x (w_assign rfl rfl rfl ?_)
  refine w_keep [(0, _), (1, _), (4, _)] ⟨rfl, rfl, rfl, trivial⟩ ?_
  refine w_seq_region ?_
  refine opW_x (w_move rfl rfl rfl ?_)
  refine opW_x (w_move rfl rfl rfl ?_)
  refine opW_x (w_retB rfl rfl en74 rfl (index_c _ _ _ _ _ ha) ?_)
  refine opW_x (w_geq rfl rfl rfl rfl ?_)
  refine opW_x (w_assign rfl rfl rfl ?_)
  refine w_keep [(0, _), (1, _), (4, _)] ⟨rfl, rfl, rfl, trivial⟩ ?_
  refine w_ret ?_
  exact end0 .ret (.inl rfl) [_] ⟨rfl, trivial⟩ ⟨bool_eq (by rw [Bool.eq_iff_iff]; simp [idxS_mem]), rfl, rfl⟩

set_option maxRecDepth 4000 in
set_option maxHeartbeats 400000 in
theorem receivers_c (q : Option Addr) (cp : Nat) (xs : List Str) (B : Kn) (ha : SlK B q cp 1 StrR xs) : RetB Try.prog 111 [.slice q xs.length cp] B (.bool (decide (1 ≤ xs.length) && namesOk xs)) := by
  refine callsB_body 31 Try.func111 rfl rfl rfl (Nat.le_of_ble_eq_true rfl) ?_
  have han := ha.len
  refine w_seq_region ?_
  refine opW_x (w_assign rfl rfl rfl ?_)
  refine w_keep [(0, _), (2, _)] ⟨rfl, rfl, trivial⟩ ?_
  refine w_seq ?_
  refine w_seq_region ?_
  refine opW_x (w_move rfl rfl rfl ?_)
  refine opW_x (w_lenV rfl rfl Try.underlying38 rfl ?_)
  refine opW_x (w_lss rfl rfl rfl rfl ?_)
  refine opW_x (w_move rfl rfl rfl ?_)
  refine r_split (d := 8) rfl (fun g1 => ?_) (fun g1 => ?_)
  · try simp only [decide_eq_true_eq, decide_eq_false_iff_not, Bool.not_eq_true', Bool.not_eq_false', decide_not, Decidable.not_not, Int.not_lt, Int.not_le, ne_eq] at g1
    refine opW_x (w_pass rfl rfl ?_)
    refine opW_x (w_pass rfl rfl ?_)
    refine opW_x (w_pass rfl rfl ?_)
    refine opW_x (w_pickT rfl rfl rfl rfl ?_)
    refine w_keep [(0, _), (2, _), (12, _)] ⟨rfl, rfl, rfl, trivial⟩ ?_
    refine w_cond (t := true) rfl (fun _ => ?_) (fun h => Bool.noConfusion h)
    refine w_seq_region ?_
    refine opW_x (w_assign rfl rfl rfl ?_)
    refine w_keep [(0, _), (2, _), (12, _)] ⟨rfl, rfl, rfl, trivial⟩ ?_
    refine w_ret (thn_r ?_)
    exact end0 .ret (.inl rfl) [_] ⟨rfl, trivial⟩ ⟨bool_eq (by simp; omega), rfl, rfl⟩
  · try simp only [decide_eq_true_eq, decide_eq_false_iff_not, Bool.not_eq_true', Bool.not_eq_false', decide_not, Decidable.not_not, Int.not_lt, Int.not_le, ne_eq] at g1
    refine opW_x (w_move rfl rfl rfl ?_)
    refine opW_x (w_lenV rfl rfl Try.underlying38 rfl ?_)
    refine opW_x (w_gtr rfl rfl rfl rfl ?_)
    refine opW_x (w_pickF rfl rfl rfl rfl ?_)
    refine w_keep [(0, _), (2, _), (12, _)] ⟨rfl, rfl, rfl, trivial⟩ ?_
    refine w_cond rfl (fun g2 => ?_) (fun g2 => ?_)
    · try simp only [decide_eq_true_eq, decide_eq_false_iff_not, Bool.not_eq_true', Bool.not_eq_false', decide_not, Decidable.not_not, Int.not_lt, Int.not_le, ne_eq] at g2
      refine w_seq_region ?_
      refine opW_x (w_assign rfl rfl rfl ?_)
      refine w_keep [(0, _), (2, _), (12, _)] ⟨rfl, rfl, rfl, trivial⟩ ?_
      refine w_ret (thn_r ?_)
      exact end0 .ret (.inl rfl) [_] ⟨rfl, trivial⟩ ⟨bool_eq (by simp [namesOk]; omega), rfl, rfl⟩
    · try simp only [decide_eq_true_eq, decide_eq_false_iff_not, Bool.not_eq_true', Bool.not_eq_false', decide_not, Decidable.not_not, Int.not_lt, Int.not_le, ne_eq] at g2
      refine w_skip ?_
      refine thn_n ?_
      refine w_seq ?_
      refine w_seq_region ?_
      refine opW_x (w_move rfl rfl rfl ?_)
      refine opW_x (w_lenV rfl rfl Try.underlying38 rfl ?_)
      refine opW_x (w_move rfl rfl rfl ?_)
      refine w_keep [(0, _), (2, _), (12, _), (13, _), (14, _), (15, _)] ⟨rfl, rfl, rfl, rfl, rfl, rfl, trivial⟩ ?_
      refine w_block ?_
      refine w_loopE (α := Nat) [0, 12, 13, 14] (fun k => [(15, .int .i64 k)]) [] (fun k => []) (fun k Bx => Bx = B ∧ k ≤ xs.length ∧ (xs.take k).all nameOk = true ∧ (xs.take k).Nodup) (fun k => xs.length - k) 0 ⟨rfl, trivial⟩ rfl (⟨rfl, Nat.zero_le _, by simp, by simp⟩) (fun k B1 hle1 hI => ?_)
      obtain ⟨rfl, hk, hv, hn⟩ := hI
      refine w_tidy [(0, _), (12, _), (13, _), (14, _), (15, _)] [] ⟨rfl, rfl, rfl, rfl, rfl, trivial⟩ rfl ?_
      refine w_seq_region ?_
      refine opW_x (w_lss rfl rfl rfl rfl ?_)
      refine w_keep [(0, _), (12, _), (13, _), (14, _), (15, _), (16, _)] ⟨rfl, rfl, rfl, rfl, rfl, rfl, trivial⟩ ?_
      refine w_seq ?_
      refine w_cond rfl (fun g3 => ?_) (fun g3 => ?_)
      · try simp only [decide_eq_true_eq, decide_eq_false_iff_not, Bool.not_eq_true', Bool.not_eq_false', decide_not, Decidable.not_not, Int.not_lt, Int.not_le, ne_eq] at g3
        refine w_skip ?_
        refine thn_n ?_
        refine w_seq ?_
        refine w_block ?_
        refine w_seq_region ?_
        refine opW_x (w_move rfl rfl rfl ?_)
        obtain ⟨x, hx⟩ := getLt (xs := xs) (i := k) (by first | omega | (simp; done) | (simp; omega))
        obtain ⟨bb3, oo3, rfl⟩ := ha.base hx
        obtain ⟨_, ⟨rfl, hb4⟩, hc4⟩ := ha.elem hx
        refine opW_x (w_ixB rfl rfl Try.underlying38 sz9 rfl rfl (by first | omega | (simp; done) | (simp; omega)) (by first | omega | (simp; done) | (simp; omega)) ?_)
        refine opW_x (w_load1 rfl rfl lk9 rfl (hc4 _ 0 _ rfl) ?_)
        refine opW_x (w_assign rfl rfl rfl ?_)
        refine opW_x (w_assign rfl rfl rfl ?_)
        refine w_keep [(0, _), (3, _), (4, _), (12, _), (13, _), (14, _), (15, _), (16, _)] ⟨rfl, rfl, rfl, rfl, rfl, rfl, rfl, rfl, trivial⟩ ?_
        refine w_seq_region ?_
        refine opW_x (w_move rfl rfl rfl ?_)
        refine opW_x (w_retB rfl rfl en108 rfl (implName_c _ (by first | assumption | omega | (simp; omega)) _) ?_)
        refine opW_x (w_not rfl rfl rfl ?_)
        refine opW_x (w_move rfl rfl rfl ?_)
        refine r_split (d := 23) rfl (fun g4 => ?_) (fun g4 => ?_)
        · try simp only [decide_eq_true_eq, decide_eq_false_iff_not, Bool.not_eq_true', Bool.not_eq_false', decide_not, Decidable.not_not, Int.not_lt, Int.not_le, ne_eq] at g4
          refine opW_x (w_pass rfl rfl ?_)
          refine opW_x (w_pass rfl rfl ?_)
          refine opW_x (w_pass rfl rfl ?_)
          refine opW_x (w_pass rfl rfl ?_)
          refine opW_x (w_pass rfl rfl ?_)
          refine opW_x (w_pickT rfl rfl rfl rfl ?_)
          refine w_keep [(0, _), (3, _), (4, _), (12, _), (13, _), (14, _), (15, _), (16, _), (29, _)] ⟨rfl, rfl, rfl, rfl, rfl, rfl, rfl, rfl, rfl, trivial⟩ ?_
          refine w_cond (t := true) rfl (fun _ => ?_) (fun h => Bool.noConfusion h)
          refine w_seq_region ?_
          refine opW_x (w_assign rfl rfl rfl ?_)
          refine w_keep [(0, _), (2, _), (3, _), (4, _), (12, _), (13, _), (14, _), (15, _), (16, _), (29, _)] ⟨rfl, rfl, rfl, rfl, rfl, rfl, rfl, rfl, rfl, rfl, trivial⟩ ?_
          refine w_ret (inB_r (thn_r (rndE_r (inB_r (thn_r ?_)))))
          exact end0 .ret (.inl rfl) [_] ⟨rfl, trivial⟩ ⟨bool_eq (by rw [← namesOk_bad1 hx g4, Bool.and_false]), rfl, rfl⟩
        · try simp only [decide_eq_true_eq, decide_eq_false_iff_not, Bool.not_eq_true', Bool.not_eq_false', decide_not, Decidable.not_not, Int.not_lt, Int.not_le, ne_eq] at g4
          refine opW_x (w_move rfl rfl rfl ?_)
          refine opW_x (w_move rfl rfl rfl ?_)
          obtain ⟨hq6, q6, cp6, hv6, hr6⟩ := ha.cutE 0 k (by first | omega | (simp; done) | (simp; omega)) (by first | omega | (simp; done) | (simp; omega))
          have hr6n := hr6.len
          refine opW_x (w_cutV (a := 0) (b := k) hv6 (by first | omega | (simp; done) | (simp; omega)) hq6 rfl rfl Try.underlying38 sz9 rfl rfl ⟨_, _, rfl, by first | omega | (simp; done) | (simp; omega)⟩ ?_)
          refine opW_x (w_move rfl rfl rfl ?_)
          refine opW_x (w_retB rfl rfl en73 rfl (contains_c _ _ _ _ _ hr6) ?_)
          refine opW_x (w_pickF rfl rfl rfl rfl ?_)
          refine w_keep [(0, _), (3, _), (4, _), (12, _), (13, _), (14, _), (15, _), (16, _), (29, _)] ⟨rfl, rfl, rfl, rfl, rfl, rfl, rfl, rfl, rfl, trivial⟩ ?_
          refine w_cond rfl (fun g5 => ?_) (fun g5 => ?_)
          · try simp only [decide_eq_true_eq, decide_eq_false_iff_not, Bool.not_eq_true', Bool.not_eq_false', decide_not, Decidable.not_not, Int.not_lt, Int.not_le, ne_eq] at g5
            refine w_seq_region ?_
            refine opW_x (w_assign rfl rfl rfl ?_)
            refine w_keep [(0, _), (2, _), (3, _), (4, _), (12, _), (13, _), (14, _), (15, _), (16, _), (29, _)] ⟨rfl, rfl, rfl, rfl, rfl, rfl, rfl, rfl, rfl, rfl, trivial⟩ ?_
            refine w_ret (inB_r (thn_r (rndE_r (inB_r (thn_r ?_)))))
            exact end0 .ret (.inl rfl) [_] ⟨rfl, trivial⟩ ⟨bool_eq (by rw [← namesOk_bad2 hx (by simpa using g5), Bool.and_false]), rfl, rfl⟩
          · try simp only [decide_eq_true_eq, decide_eq_false_iff_not, Bool.not_eq_true', Bool.not_eq_false', decide_not, Decidable.not_not, Int.not_lt, Int.not_le, ne_eq] at g5
            refine w_skip ?_
            refine inB_n (thn_n ?_)
            refine w_region ?_
            refine opW_x (w_add rfl rfl rfl rfl (by first | exact wrI64 (by first | omega | (simp; done) | (simp; omega)) (by first | omega | (simp; done) | (simp; omega)) | rfl) ?_)
            refine opW_x (w_move rfl rfl rfl ?_)
            exact rndE_n (k + 1) [] (by first | omega | (simp only []; omega)) ⟨rfl, by omega, all_step2 hx g4 hv, nd_next hx hn (by simpa using g5)⟩ ⟨rfl, rfl, rfl, rfl, rfl, trivial⟩ rfl
      · try simp only [decide_eq_true_eq, decide_eq_false_iff_not, Bool.not_eq_true', Bool.not_eq_false', decide_not, Decidable.not_not, Int.not_lt, Int.not_le, ne_eq] at g3
        refine w_exit (thn_x (rndE_x (inB_hit (thn_n ?_))))
        refine w_seq_region ?_
        refine opW_x (w_assign rfl rfl rfl ?_)
        refine w_keep [(0, _), (2, _), (12, _), (13, _), (14, _), (15, _), (16, _)] ⟨rfl, rfl, rfl, rfl, rfl, rfl, rfl, trivial⟩ ?_
        refine w_ret ?_
        exact end0 .ret (.inl rfl) [_] ⟨rfl, trivial⟩ ⟨bool_eq (by rw [← namesOk_end (by omega) hv hn]; simp; omega), rfl, rfl⟩

set_option maxRecDepth 4000 in
set_option maxHeartbeats 400000 in
theorem implLetter_c (q : Option Addr) (cp : Nat) (x : DLetter) (B : Kn) (ha : SlK B q cp 1 StrR x.to_) (h1 : x.fr.length ≤ 2000000) (h2 : x.text.length ≤ 2000000) : RetB Try.prog 64 [.agg #[str x.fr, .slice q x.to_.length cp, str x.text]] B (.bool (letterOk x)) := by
  refine callsB_body 17 Try.func64 rfl rfl rfl (Nat.le_of_ble_eq_true rfl) ?_
  refine w_seq_region ?_
  refine opW_x (w_box (l := [_, _, _]) rfl rfl rfl rfl (fun b1 => ?_))
  refine opW_x (w_assign rfl rfl rfl ?_)
  refine w_tidy [(0, _), (1, _), (2, _)] [_] ⟨rfl, rfl, rfl, trivial⟩ rfl ?_
  refine w_seq_region ?_
  refine opW_x (w_fieldAddr rfl rfl fo40x0 rfl ?_)
  refine opW_x (w_load1 rfl rfl lk9 rfl (atL 0 rfl rfl rfl) ?_)
  refine opW_x (w_retB rfl rfl en108 rfl (implName_c _ (by first | assumption | omega | (simp; omega)) _) ?_)
  refine opW_x (w_move rfl rfl rfl ?_)
  refine r_split (d := 6) rfl (fun g1 => ?_) (fun g1 => ?_)
  · try simp only [decide_eq_true_eq, decide_eq_false_iff_not, Bool.not_eq_true', Bool.not_eq_false', decide_not, Decidable.not_not, Int.not_lt, Int.not_le, ne_eq] at g1
    refine opW_x (w_fieldAddr rfl rfl fo40x1 rfl ?_)
    refine opW_x (w_load1 rfl rfl lk38 rfl (atL 0 rfl rfl rfl) ?_)
    refine opW_x (w_retB rfl rfl en111 rfl (receivers_c _ _ _ _ ha) ?_)
    refine opW_x (w_pickT rfl rfl rfl rfl ?_)
    refine opW_x (w_move rfl rfl rfl ?_)
    refine r_split (d := 11) rfl (fun g2 => ?_) (fun g2 => ?_)
    · try simp only [decide_eq_true_eq, decide_eq_false_iff_not, Bool.not_eq_true', Bool.not_eq_false', decide_not, Decidable.not_not, Int.not_lt, Int.not_le, ne_eq] at g2
      refine opW_x (w_fieldAddr rfl rfl fo40x2 rfl ?_)
      refine opW_x (w_load1 rfl rfl lk9 rfl (atL 0 rfl rfl rfl) ?_)
      refine opW_x (w_lenS rfl rfl Try.underlying9 rfl ?_)
      refine opW_x (w_leq rfl rfl rfl rfl ?_)
      refine opW_x (w_pickT rfl rfl rfl rfl ?_)
      refine opW_x (w_assign rfl rfl rfl ?_)
      refine w_keep [(0, _), (1, _), (2, _)] ⟨rfl, rfl, rfl, trivial⟩ ?_
      refine w_ret ?_
      exact end0 .ret (.inl rfl) [_] ⟨rfl, trivial⟩ ⟨bool_eq (by rw [letterOk_alt]; simp [g1, g2]), rfl, rfl⟩
    · try simp only [decide_eq_true_eq, decide_eq_false_iff_not, Bool.not_eq_true', Bool.not_eq_false', decide_not, Decidable.not_not, Int.not_lt, Int.not_le, ne_eq] at g2
      refine opW_x (w_pass rfl rfl ?_)
      refine opW_x (w_pass rfl rfl ?_)
      refine opW_x (w_pass rfl rfl ?_)
      refine opW_x (w_pass rfl rfl ?_)
      refine opW_x (w_pickF rfl rfl rfl rfl ?_)
      refine opW_x (w_assign rfl rfl rfl ?_)
      refine w_keep [(0, _), (1, _), (2, _)] ⟨rfl, rfl, rfl, trivial⟩ ?_
      refine w_ret ?_
      exact end0 .ret (.inl rfl) [_] ⟨rfl, trivial⟩ ⟨bool_eq (by rw [letterOk_alt]; simp [g1, g2]), rfl, rfl⟩
  · try simp only [decide_eq_true_eq, decide_eq_false_iff_not, Bool.not_eq_true', Bool.not_eq_false', decide_not, Decidable.not_not, Int.not_lt, Int.not_le, ne_eq] at g1
    refine opW_x (w_pass rfl rfl ?_)
    refine opW_x (w_pass rfl rfl ?_)
    refine opW_x (w_pass rfl rfl ?_)
    refine opW_x (w_pickF rfl rfl rfl rfl ?_)
    refine opW_x (w_move rfl rfl rfl ?_)
    refine opW_x (w_pass rfl rfl ?_)
    refine opW_x (w_pass rfl rfl ?_)
    refine opW_x (w_pass rfl rfl ?_)
    refine opW_x (w_pass rfl rfl ?_)
    refine opW_x (w_pickF rfl rfl rfl rfl ?_)
    refine opW_x (w_assign rfl rfl rfl ?_)
    refine w_keep [(0, _), (1, _), (2, _)] ⟨rfl, rfl, rfl, trivial⟩ ?_
    refine w_ret ?_
    exact end0 .ret (.inl rfl) [_] ⟨rfl, trivial⟩ ⟨bool_eq (by rw [letterOk_alt]; simp [g1]), rfl, rfl⟩

set_option maxRecDepth 4000 in
set_option maxHeartbeats 400000 in
theorem sameQueue_c (aa : Option Addr) (ca : Nat) (a : DQueue) (ab : Option Addr) (cb : Nat) (b : DQueue) (B : Kn) (ha : SlK B aa ca 4 ItemR a.items) (hb : SlK B ab cb 4 ItemR b.items) : RetB Try.prog 25 [.agg #[.int .i64 a.next, .slice aa a.items.length ca], .agg #[.int .i64 b.next, .slice ab b.items.length cb]] B (.bool (decide (a = b))) := by
  refine callsB_body 66 Try.func25 rfl rfl rfl (Nat.le_of_ble_eq_true rfl) ?_
  have han := ha.len
  have hbn := hb.len
  refine w_seq_region ?_
  refine opW_x (w_box (l := [_, _]) rfl rfl rfl rfl (fun b1 => ?_))
  refine opW_x (w_box (l := [_, _]) rfl rfl rfl rfl (fun b2 => ?_))
  refine opW_x (w_assign rfl rfl rfl ?_)
  refine w_tidy [(0, _), (1, _), (2, _), (3, _), (4, _)] [_, _] ⟨rfl, rfl, rfl, rfl, rfl, trivial⟩ rfl ?_
  refine w_seq ?_
  refine w_seq_region ?_
  refine opW_x (w_fieldAddr rfl rfl fo29x0 rfl ?_)
  refine opW_x (w_load1 rfl rfl lk3 rfl (atL 0 rfl rfl rfl) ?_)
  refine opW_x (w_fieldAddr rfl rfl fo29x0 rfl ?_)
  refine opW_x (w_load1 rfl rfl lk3 rfl (atL 1 rfl rfl rfl) ?_)
  refine opW_x (w_neqI rfl rfl rfl rfl ?_)
  refine opW_x (w_move rfl rfl rfl ?_)
  refine r_split (d := 13) rfl (fun g1 => ?_) (fun g1 => ?_)
  · try simp only [decide_eq_true_eq, decide_eq_false_iff_not, Bool.not_eq_true', Bool.not_eq_false', decide_not, Decidable.not_not, Int.not_lt, Int.not_le, ne_eq] at g1
    refine opW_x (w_pass rfl rfl ?_)
    refine opW_x (w_pass rfl rfl ?_)
    refine opW_x (w_pass rfl rfl ?_)
    refine opW_x (w_pass rfl rfl ?_)
    refine opW_x (w_pass rfl rfl ?_)
    refine opW_x (w_pass rfl rfl ?_)
    refine opW_x (w_pass rfl rfl ?_)
    refine opW_x (w_pickT rfl rfl rfl rfl ?_)
    refine w_keep [(0, _), (1, _), (2, _), (3, _), (4, _), (21, _)] ⟨rfl, rfl, rfl, rfl, rfl, rfl, trivial⟩ ?_
    refine w_cond (t := true) rfl (fun _ => ?_) (fun h => Bool.noConfusion h)
    refine w_seq_region ?_
    refine opW_x (w_assign rfl rfl rfl ?_)
    refine w_keep [(0, _), (1, _), (2, _), (3, _), (4, _), (21, _)] ⟨rfl, rfl, rfl, rfl, rfl, rfl, trivial⟩ ?_
    refine w_ret (thn_r ?_)
    exact end0 .ret (.inl rfl) [_] ⟨rfl, trivial⟩ ⟨bool_eq (by symm; rw [decide_eq_false_iff_not]; rintro rfl; exact g1 rfl), rfl, rfl⟩
  · try simp only [decide_eq_true_eq, decide_eq_false_iff_not, Bool.not_eq_true', Bool.not_eq_false', decide_not, Decidable.not_not, Int.not_lt, Int.not_le, ne_eq] at g1
    refine opW_x (w_fieldAddr rfl rfl fo29x1 rfl ?_)
    refine opW_x (w_load1 rfl rfl lk27 rfl (atL 0 rfl rfl rfl) ?_)
    refine opW_x (w_lenV rfl rfl Try.underlying27 rfl ?_)
    refine opW_x (w_fieldAddr rfl rfl fo29x1 rfl ?_)
    refine opW_x (w_load1 rfl rfl lk27 rfl (atL 1 rfl rfl rfl) ?_)
    refine opW_x (w_lenV rfl rfl Try.underlying27 rfl ?_)
    refine opW_x (w_neqI rfl rfl rfl rfl ?_)
    refine opW_x (w_pickF rfl rfl rfl rfl ?_)
    refine w_keep [(0, _), (1, _), (2, _), (3, _), (4, _), (21, _)] ⟨rfl, rfl, rfl, rfl, rfl, rfl, trivial⟩ ?_
    refine w_cond rfl (fun g2 => ?_) (fun g2 => ?_)
    · try simp only [decide_eq_true_eq, decide_eq_false_iff_not, Bool.not_eq_true', Bool.not_eq_false', decide_not, Decidable.not_not, Int.not_lt, Int.not_le, ne_eq] at g2
      refine w_seq_region ?_
      refine opW_x (w_assign rfl rfl rfl ?_)
      refine w_keep [(0, _), (1, _), (2, _), (3, _), (4, _), (21, _)] ⟨rfl, rfl, rfl, rfl, rfl, rfl, trivial⟩ ?_
      refine w_ret (thn_r ?_)
      exact end0 .ret (.inl rfl) [_] ⟨rfl, trivial⟩ ⟨bool_eq (by symm; rw [decide_eq_false_iff_not]; rintro rfl; exact g2 rfl), rfl, rfl⟩
    · try simp only [decide_eq_true_eq, decide_eq_false_iff_not, Bool.not_eq_true', Bool.not_eq_false', decide_not, Decidable.not_not, Int.not_lt, Int.not_le, ne_eq] at g2
      refine w_skip ?_
      refine thn_n ?_
      refine w_seq ?_
      refine w_seq_region ?_
      refine opW_x (w_assign rfl rfl rfl ?_)
      refine w_keep [(0, _), (1, _), (2, _), (3, _), (4, _), (5, _), (21, _)] ⟨rfl, rfl, rfl, rfl, rfl, rfl, rfl, trivial⟩ ?_
      refine w_block ?_
      refine w_loopE (α := Nat) [0, 1, 2, 3, 21] (fun k => [(5, .int .i64 k)]) [] (fun k => []) (fun k Bx => Bx = B ∧ k ≤ a.items.length ∧ a.items.take k = b.items.take k) (fun k => a.items.length - k) 0 ⟨rfl, trivial⟩ rfl (⟨rfl, Nat.zero_le _, by simp⟩) (fun k B3 hle3 hI => ?_)
      obtain ⟨rfl, hk, he⟩ := hI
      refine w_tidy [(0, _), (1, _), (2, _), (3, _), (5, _), (21, _)] [_, _] ⟨rfl, rfl, rfl, rfl, rfl, rfl, trivial⟩ rfl ?_
      refine w_seq ?_
      refine w_seq_region ?_
      refine opW_x (w_move rfl rfl rfl ?_)
      refine opW_x (w_fieldAddr rfl rfl fo29x1 rfl ?_)
      refine opW_x (w_load1 rfl rfl lk27 rfl (atL 0 rfl rfl rfl) ?_)
      refine opW_x (w_lenV rfl rfl Try.underlying27 rfl ?_)
      refine opW_x (w_lss rfl rfl rfl rfl ?_)
      refine w_keep [(0, _), (1, _), (2, _), (3, _), (5, _), (21, _), (26, _)] ⟨rfl, rfl, rfl, rfl, rfl, rfl, rfl, trivial⟩ ?_
      refine w_cond rfl (fun g3 => ?_) (fun g3 => ?_)
      · try simp only [decide_eq_true_eq, decide_eq_false_iff_not, Bool.not_eq_true', Bool.not_eq_false', decide_not, Decidable.not_not, Int.not_lt, Int.not_le, ne_eq] at g3
        refine w_skip ?_
        refine thn_n ?_
        refine w_seq ?_
        refine w_block ?_
        refine w_seq_region ?_
        refine opW_x (w_fieldAddr rfl rfl fo29x1 rfl ?_)
        refine opW_x (w_load1 rfl rfl lk27 rfl (atL 0 rfl rfl rfl) ?_)
        refine opW_x (w_move rfl rfl rfl ?_)
        obtain ⟨x, hx⟩ := getLt (xs := a.items) (i := k) (by first | omega | (simp; done) | (simp; omega))
        obtain ⟨bb5, oo5, rfl⟩ := ha.base hx
        obtain ⟨_, ⟨qi6, ci6, rfl, hi6, hb6, hb6b⟩, hc6⟩ := ha.elem hx
        have hi6n := hi6.len
        refine opW_x (w_ixB rfl rfl Try.underlying27 sz47 rfl rfl (by first | omega | (simp; done) | (simp; omega)) (by first | omega | (simp; done) | (simp; omega)) ?_)
        refine opW_x (w_loadN [_, _, _, _] rfl rfl lk47 rfl (rowK hc6 0 rfl rfl) ?_)
        refine opW_x (w_alloc (l := [_, _, _, _]) rfl rfl zo47 rfl (fun b7 => ?_))
        refine opW_x (w_store [_, _, _, _] 2 [_, _, _, _] rfl rfl sz47 rfl rfl rfl rfl rfl rfl rfl rfl ?_)
        refine w_tidy [(0, _), (1, _), (2, _), (3, _), (5, _), (6, _), (21, _), (26, _)] [_, _, _] ⟨rfl, rfl, rfl, rfl, rfl, rfl, rfl, rfl, trivial⟩ rfl ?_
        refine w_seq_region ?_
        refine opW_x (w_fieldAddr rfl rfl fo29x1 rfl ?_)
        refine opW_x (w_load1 rfl rfl lk27 rfl (atL 1 rfl rfl rfl) ?_)
        refine opW_x (w_move rfl rfl rfl ?_)
        obtain ⟨y, hy⟩ := getLt (xs := b.items) (i := k) (by first | omega | (simp; done) | (simp; omega))
        obtain ⟨bb9, oo9, rfl⟩ := hb.base hy
        obtain ⟨_, ⟨qi10, ci10, rfl, hi10, hb10, hb10b⟩, hc10⟩ := hb.elem hy
        have hi10n := hi10.len
        refine opW_x (w_ixB rfl rfl Try.underlying27 sz47 rfl rfl (by first | omega | (simp; done) | (simp; omega)) (by first | omega | (simp; done) | (simp; omega)) ?_)
        refine opW_x (w_loadN [_, _, _, _] rfl rfl lk47 rfl (rowK hc10 0 rfl rfl) ?_)
        refine opW_x (w_alloc (l := [_, _, _, _]) rfl rfl zo47 rfl (fun b11 => ?_))
        refine opW_x (w_store [_, _, _, _] 3 [_, _, _, _] rfl rfl sz47 rfl rfl rfl rfl rfl rfl rfl rfl ?_)
        refine w_tidy [(0, _), (1, _), (2, _), (3, _), (5, _), (6, _), (7, _), (21, _), (26, _)] [_, _, _, _] ⟨rfl, rfl, rfl, rfl, rfl, rfl, rfl, rfl, rfl, trivial⟩ rfl ?_
        refine w_seq_region ?_
        refine opW_x (w_fieldAddr rfl rfl fo47x0 rfl ?_)
        refine opW_x (w_load1 rfl rfl lk3 rfl (atL 2 rfl rfl rfl) ?_)
        refine opW_x (w_fieldAddr rfl rfl fo47x0 rfl ?_)
        refine opW_x (w_load1 rfl rfl lk3 rfl (atL 3 rfl rfl rfl) ?_)
        refine opW_x (w_neqI rfl rfl rfl rfl ?_)
        refine opW_x (w_move rfl rfl rfl ?_)
        refine r_split (d := 44) rfl (fun g4 => ?_) (fun g4 => ?_)
        · try simp only [decide_eq_true_eq, decide_eq_false_iff_not, Bool.not_eq_true', Bool.not_eq_false', decide_not, Decidable.not_not, Int.not_lt, Int.not_le, ne_eq] at g4
          refine opW_x (w_pass rfl rfl ?_)
          refine opW_x (w_pass rfl rfl ?_)
          refine opW_x (w_pass rfl rfl ?_)
          refine opW_x (w_pass rfl rfl ?_)
          refine opW_x (w_pass rfl rfl ?_)
          refine opW_x (w_pickT rfl rfl rfl rfl ?_)
          refine opW_x (w_move rfl rfl rfl ?_)
          refine opW_x (w_pass rfl rfl ?_)
          refine opW_x (w_pass rfl rfl ?_)
          refine opW_x (w_pass rfl rfl ?_)
          refine opW_x (w_pass rfl rfl ?_)
          refine opW_x (w_pass rfl rfl ?_)
          refine opW_x (w_pickT rfl rfl rfl rfl ?_)
          refine opW_x (w_move rfl rfl rfl ?_)
          refine opW_x (w_pass rfl rfl ?_)
          refine opW_x (w_pass rfl rfl ?_)
          refine opW_x (w_pass rfl rfl ?_)
          refine opW_x (w_pass rfl rfl ?_)
          refine opW_x (w_pass rfl rfl ?_)
          refine opW_x (w_pass rfl rfl ?_)
          refine opW_x (w_pickT rfl rfl rfl rfl ?_)
          refine w_keep [(0, _), (1, _), (2, _), (3, _), (5, _), (6, _), (7, _), (21, _), (26, _), (65, _)] ⟨rfl, rfl, rfl, rfl, rfl, rfl, rfl, rfl, rfl, rfl, trivial⟩ ?_
          refine w_cond (t := true) rfl (fun _ => ?_) (fun h => Bool.noConfusion h)
          refine w_seq_region ?_
          refine opW_x (w_assign rfl rfl rfl ?_)
          refine w_keep [(0, _), (1, _), (2, _), (3, _), (4, _), (5, _), (6, _), (7, _), (21, _), (26, _), (65, _)] ⟨rfl, rfl, rfl, rfl, rfl, rfl, rfl, rfl, rfl, rfl, rfl, trivial⟩ ?_
          refine w_ret (inB_r (thn_r (rndE_r (inB_r (thn_r ?_)))))
          exact end0 .ret (.inl rfl) [_] ⟨rfl, trivial⟩ ⟨bool_eq (sameQ_no hx hy (fun e => g4 (by rw [e]))), rfl, rfl⟩
        · try simp only [decide_eq_true_eq, decide_eq_false_iff_not, Bool.not_eq_true', Bool.not_eq_false', decide_not, Decidable.not_not, Int.not_lt, Int.not_le, ne_eq] at g4
          refine opW_x (w_fieldAddr rfl rfl fo47x1 rfl ?_)
          refine opW_x (w_load1 rfl rfl lk9 rfl (atL 2 rfl rfl rfl) ?_)
          refine opW_x (w_fieldAddr rfl rfl fo47x1 rfl ?_)
          refine opW_x (w_load1 rfl rfl lk9 rfl (atL 3 rfl rfl rfl) ?_)
          refine opW_x (w_neqS rfl rfl rfl rfl ?_)
          refine opW_x (w_pickF rfl rfl rfl rfl ?_)
          refine opW_x (w_move rfl rfl rfl ?_)
          refine r_split (d := 51) rfl (fun g5 => ?_) (fun g5 => ?_)
          · try simp only [decide_eq_true_eq, decide_eq_false_iff_not, Bool.not_eq_true', Bool.not_eq_false', decide_not, Decidable.not_not, Int.not_lt, Int.not_le, ne_eq] at g5
            refine opW_x (w_pass rfl rfl ?_)
            refine opW_x (w_pass rfl rfl ?_)
            refine opW_x (w_pass rfl rfl ?_)
            refine opW_x (w_pass rfl rfl ?_)
            refine opW_x (w_pass rfl rfl ?_)
            refine opW_x (w_pickT rfl rfl rfl rfl ?_)
            refine opW_x (w_move rfl rfl rfl ?_)
            refine opW_x (w_pass rfl rfl ?_)
            refine opW_x (w_pass rfl rfl ?_)
            refine opW_x (w_pass rfl rfl ?_)
            refine opW_x (w_pass rfl rfl ?_)
            refine opW_x (w_pass rfl rfl ?_)
            refine opW_x (w_pass rfl rfl ?_)
            refine opW_x (w_pickT rfl rfl rfl rfl ?_)
            refine w_keep [(0, _), (1, _), (2, _), (3, _), (5, _), (6, _), (7, _), (21, _), (26, _), (65, _)] ⟨rfl, rfl, rfl, rfl, rfl, rfl, rfl, rfl, rfl, rfl, trivial⟩ ?_
            refine w_cond (t := true) rfl (fun _ => ?_) (fun h => Bool.noConfusion h)
            refine w_seq_region ?_
            refine opW_x (w_assign rfl rfl rfl ?_)
            refine w_keep [(0, _), (1, _), (2, _), (3, _), (4, _), (5, _), (6, _), (7, _), (21, _), (26, _), (65, _)] ⟨rfl, rfl, rfl, rfl, rfl, rfl, rfl, rfl, rfl, rfl, rfl, trivial⟩ ?_
            refine w_ret (inB_r (thn_r (rndE_r (inB_r (thn_r ?_)))))
            exact end0 .ret (.inl rfl) [_] ⟨rfl, trivial⟩ ⟨bool_eq (sameQ_no hx hy (fun e => g5 (by rw [e]))), rfl, rfl⟩
          · try simp only [decide_eq_true_eq, decide_eq_false_iff_not, Bool.not_eq_true', Bool.not_eq_false', decide_not, Decidable.not_not, Int.not_lt, Int.not_le, ne_eq] at g5
            refine opW_x (w_fieldAddr rfl rfl fo47x2 rfl ?_)
            refine opW_x (w_load1 rfl rfl lk9 rfl (atL 2 rfl rfl rfl) ?_)
            refine opW_x (w_fieldAddr rfl rfl fo47x2 rfl ?_)
            refine opW_x (w_load1 rfl rfl lk9 rfl (atL 3 rfl rfl rfl) ?_)
            refine opW_x (w_neqS rfl rfl rfl rfl ?_)
            refine opW_x (w_pickF rfl rfl rfl rfl ?_)
            refine opW_x (w_move rfl rfl rfl ?_)
            refine r_split (d := 58) rfl (fun g6 => ?_) (fun g6 => ?_)
            · try simp only [decide_eq_true_eq, decide_eq_false_iff_not, Bool.not_eq_true', Bool.not_eq_false', decide_not, Decidable.not_not, Int.not_lt, Int.not_le, ne_eq] at g6
              refine opW_x (w_pass rfl rfl ?_)
              refine opW_x (w_pass rfl rfl ?_)
              refine opW_x (w_pass rfl rfl ?_)
              refine opW_x (w_pass rfl rfl ?_)
              refine opW_x (w_pass rfl rfl ?_)
              refine opW_x (w_pass rfl rfl ?_)
              refine opW_x (w_pickT rfl rfl rfl rfl ?_)
              refine w_keep [(0, _), (1, _), (2, _), (3, _), (5, _), (6, _), (7, _), (21, _), (26, _), (65, _)] ⟨rfl, rfl, rfl, rfl, rfl, rfl, rfl, rfl, rfl, rfl, trivial⟩ ?_
              refine w_cond (t := true) rfl (fun _ => ?_) (fun h => Bool.noConfusion h)
              refine w_seq_region ?_
              refine opW_x (w_assign rfl rfl rfl ?_)
              refine w_keep [(0, _), (1, _), (2, _), (3, _), (4, _), (5, _), (6, _), (7, _), (21, _), (26, _), (65, _)] ⟨rfl, rfl, rfl, rfl, rfl, rfl, rfl, rfl, rfl, rfl, rfl, trivial⟩ ?_
              refine w_ret (inB_r (thn_r (rndE_r (inB_r (thn_r ?_)))))
              exact end0 .ret (.inl rfl) [_] ⟨rfl, trivial⟩ ⟨bool_eq (sameQ_no hx hy (fun e => g6 (by rw [e]))), rfl, rfl⟩
            · try simp only [decide_eq_true_eq, decide_eq_false_iff_not, Bool.not_eq_true', Bool.not_eq_false', decide_not, Decidable.not_not, Int.not_lt, Int.not_le, ne_eq] at g6
              refine opW_x (w_fieldAddr rfl rfl fo47x3 rfl ?_)
              refine opW_x (w_load1 rfl rfl lk38 rfl (atL 2 rfl rfl rfl) ?_)
              refine opW_x (w_fieldAddr rfl rfl fo47x3 rfl ?_)
              refine opW_x (w_load1 rfl rfl lk38 rfl (atL 3 rfl rfl rfl) ?_)
              refine opW_x (w_retB rfl rfl en26 rfl (sameNames_c _ _ _ _ _ _ _ hi6 hi10) ?_)
              refine opW_x (w_not rfl rfl rfl ?_)
              refine opW_x (w_pickF rfl rfl rfl rfl ?_)
              refine w_keep [(0, _), (1, _), (2, _), (3, _), (5, _), (6, _), (7, _), (21, _), (26, _), (65, _)] ⟨rfl, rfl, rfl, rfl, rfl, rfl, rfl, rfl, rfl, rfl, trivial⟩ ?_
              refine w_cond rfl (fun g7 => ?_) (fun g7 => ?_)
              · try simp only [decide_eq_true_eq, decide_eq_false_iff_not, Bool.not_eq_true', Bool.not_eq_false', decide_not, Decidable.not_not, Int.not_lt, Int.not_le, ne_eq] at g7
                refine w_seq_region ?_
                refine opW_x (w_assign rfl rfl rfl ?_)
                refine w_keep [(0, _), (1, _), (2, _), (3, _), (4, _), (5, _), (6, _), (7, _), (21, _), (26, _), (65, _)] ⟨rfl, rfl, rfl, rfl, rfl, rfl, rfl, rfl, rfl, rfl, rfl, trivial⟩ ?_
                refine w_ret (inB_r (thn_r (rndE_r (inB_r (thn_r ?_)))))
                exact end0 .ret (.inl rfl) [_] ⟨rfl, trivial⟩ ⟨bool_eq (sameQ_no hx hy (fun e => g7 (by rw [e]))), rfl, rfl⟩
              · try simp only [decide_eq_true_eq, decide_eq_false_iff_not, Bool.not_eq_true', Bool.not_eq_false', decide_not, Decidable.not_not, Int.not_lt, Int.not_le, ne_eq] at g7
                refine w_skip ?_
                refine inB_n (thn_n ?_)
                refine w_region ?_
                refine opW_x (w_move rfl rfl rfl ?_)
                refine opW_x (w_add rfl rfl rfl rfl (by first | exact wrI64 (by first | omega | (simp; done) | (simp; omega)) (by first | omega | (simp; done) | (simp; omega)) | rfl) ?_)
                refine opW_x (w_assign rfl rfl rfl ?_)
                exact rndE_n (k + 1) [0, 1] (by first | omega | (simp only []; omega)) ⟨rfl, by omega, take_eq_next hx hy (by cases x; cases y; simp_all) he⟩ ⟨rfl, rfl, rfl, rfl, rfl, rfl, trivial⟩ rfl
      · try simp only [decide_eq_true_eq, decide_eq_false_iff_not, Bool.not_eq_true', Bool.not_eq_false', decide_not, Decidable.not_not, Int.not_lt, Int.not_le, ne_eq] at g3
        refine w_exit (thn_x (rndE_x (inB_hit (thn_n ?_))))
        refine w_seq_region ?_
        refine opW_x (w_assign rfl rfl rfl ?_)
        refine w_keep [(0, _), (1, _), (2, _), (3, _), (4, _), (5, _), (21, _), (26, _)] ⟨rfl, rfl, rfl, rfl, rfl, rfl, rfl, rfl, trivial⟩ ?_
        refine w_ret ?_
        exact end0 .ret (.inl rfl) [_] ⟨rfl, trivial⟩ ⟨bool_eq (by symm; rw [decide_eq_true_eq]; cases a; cases b; rw [DQueue.mk.injEq]; exact ⟨g1, by have := eqT (inst := Classical.propDecidable _) (by omega) (by omega) he; simpa using this.symm⟩), rfl, rfl⟩

set_option maxRecDepth 4000 in
set_option maxHeartbeats 400000 in
theorem specQueue_c (aq : Option Addr) (cq : Nat) (q : DQueue) (B : Kn) (hq : SlK B aq cq 4 ItemR q.items) : RetB Try.prog 28 [.agg #[.int .i64 q.next, .slice aq q.items.length cq]] B (.bool (queueOk q)) := by
  refine callsB_body 48 Try.func28 rfl rfl rfl (Nat.le_of_ble_eq_true rfl) ?_
  have hqn := hq.len
  refine w_seq_region ?_
  refine opW_x (w_box (l := [_, _]) rfl rfl rfl rfl (fun b1 => ?_))
  refine opW_x (w_assign rfl rfl rfl ?_)
  refine w_tidy [(0, _), (1, _), (2, _)] [_] ⟨rfl, rfl, rfl, trivial⟩ rfl ?_
  refine w_seq_region ?_
  refine opW_x (w_assign rfl rfl rfl ?_)
  refine w_keep [(0, _), (1, _), (2, _), (3, _)] ⟨rfl, rfl, rfl, rfl, trivial⟩ ?_
  refine w_seq ?_
  refine w_seq_region ?_
  refine opW_x (w_assign rfl rfl rfl ?_)
  refine w_keep [(0, _), (1, _), (2, _), (3, _), (4, _)] ⟨rfl, rfl, rfl, rfl, rfl, trivial⟩ ?_
  refine w_block ?_
  refine w_loopE (α := Nat × Int) [0, 1] (fun p => [(3, .int .i64 p.2), (4, .int .i64 p.1)]) [] (fun p => []) (fun p Bx => Bx = B ∧ p.1 ≤ q.items.length ∧ scanQ 0 q.items = scanQ p.2 (q.items.drop p.1) ∧ 0 ≤ p.2 ∧ p.2 ≤ 99) (fun p => q.items.length - p.1) (0, 0) ⟨rfl, rfl, trivial⟩ rfl (⟨rfl, Nat.zero_le _, rfl, by decide, by decide⟩) (fun p B2 hle2 hI => ?_)
  obtain ⟨rfl, hk, hs, hl0, hl1⟩ := hI
  refine w_tidy [(0, _), (1, _), (3, _), (4, _)] [_] ⟨rfl, rfl, rfl, rfl, trivial⟩ rfl ?_
  refine w_seq ?_
  refine w_seq_region ?_
  refine opW_x (w_move rfl rfl rfl ?_)
  refine opW_x (w_fieldAddr rfl rfl fo29x1 rfl ?_)
  refine opW_x (w_load1 rfl rfl lk27 rfl (atL 0 rfl rfl rfl) ?_)
  refine opW_x (w_lenV rfl rfl Try.underlying27 rfl ?_)
  refine opW_x (w_lss rfl rfl rfl rfl ?_)
  refine w_keep [(0, _), (1, _), (3, _), (4, _), (10, _)] ⟨rfl, rfl, rfl, rfl, rfl, trivial⟩ ?_
  refine w_cond rfl (fun g1 => ?_) (fun g1 => ?_)
  · try simp only [decide_eq_true_eq, decide_eq_false_iff_not, Bool.not_eq_true', Bool.not_eq_false', decide_not, Decidable.not_not, Int.not_lt, Int.not_le, ne_eq] at g1
    refine w_skip ?_
    refine thn_n ?_
    refine w_seq ?_
    refine w_block ?_
    refine w_seq_region ?_
    refine opW_x (w_fieldAddr rfl rfl fo29x1 rfl ?_)
    refine opW_x (w_load1 rfl rfl lk27 rfl (atL 0 rfl rfl rfl) ?_)
    refine opW_x (w_move rfl rfl rfl ?_)
    obtain ⟨x, hx⟩ := getLt (xs := q.items) (i := p.1) (by first | omega | (simp; done) | (simp; omega))
    obtain ⟨bb4, oo4, rfl⟩ := hq.base hx
    obtain ⟨_, ⟨qi5, ci5, rfl, hi5, hb5, hb5b⟩, hc5⟩ := hq.elem hx
    have hi5n := hi5.len
    refine opW_x (w_ixB rfl rfl Try.underlying27 sz47 rfl rfl (by first | omega | (simp; done) | (simp; omega)) (by first | omega | (simp; done) | (simp; omega)) ?_)
    replace hs := scan_step hs hx
    refine opW_x (w_loadN [_, _, _, _] rfl rfl lk47 rfl (rowK hc5 0 rfl rfl) ?_)
    refine opW_x (w_alloc (l := [_, _, _, _]) rfl rfl zo47 rfl (fun b6 => ?_))
    refine opW_x (w_store [_, _, _, _] 1 [_, _, _, _] rfl rfl sz47 rfl rfl rfl rfl rfl rfl rfl rfl ?_)
    refine w_tidy [(0, _), (1, _), (3, _), (4, _), (5, _), (10, _)] [_, _] ⟨rfl, rfl, rfl, rfl, rfl, rfl, trivial⟩ rfl ?_
    refine w_seq ?_
    refine w_seq_region ?_
    refine opW_x (w_fieldAddr rfl rfl fo47x0 rfl ?_)
    refine opW_x (w_load1 rfl rfl lk3 rfl (atL 1 rfl rfl rfl) ?_)
    refine opW_x (w_move rfl rfl rfl ?_)
    refine opW_x (w_add rfl rfl rfl rfl (by first | exact wrI64 (by first | omega | (simp; done) | (simp; omega)) (by first | omega | (simp; done) | (simp; omega)) | rfl) ?_)
    refine opW_x (w_retB rfl rfl en69 rfl (l6In_c _ _ _ _) ?_)
    refine opW_x (w_not rfl rfl rfl ?_)
    refine opW_x (w_move rfl rfl rfl ?_)
    refine r_split (d := 24) rfl (fun g2 => ?_) (fun g2 => ?_)
    · try simp only [decide_eq_true_eq, decide_eq_false_iff_not, Bool.not_eq_true', Bool.not_eq_false', decide_not, Decidable.not_not, Int.not_lt, Int.not_le, ne_eq] at g2
      refine opW_x (w_pass rfl rfl ?_)
      refine opW_x (w_pass rfl rfl ?_)
      refine opW_x (w_pass rfl rfl ?_)
      refine opW_x (w_pass rfl rfl ?_)
      refine opW_x (w_pass rfl rfl ?_)
      refine opW_x (w_pass rfl rfl ?_)
      refine opW_x (w_pass rfl rfl ?_)
      refine opW_x (w_pass rfl rfl ?_)
      refine opW_x (w_pass rfl rfl ?_)
      refine opW_x (w_pickT rfl rfl rfl rfl ?_)
      refine w_keep [(0, _), (1, _), (3, _), (4, _), (5, _), (10, _), (34, _)] ⟨rfl, rfl, rfl, rfl, rfl, rfl, rfl, trivial⟩ ?_
      refine w_cond (t := true) rfl (fun _ => ?_) (fun h => Bool.noConfusion h)
      refine w_seq_region ?_
      refine opW_x (w_assign rfl rfl rfl ?_)
      refine w_keep [(0, _), (1, _), (2, _), (3, _), (4, _), (5, _), (10, _), (34, _)] ⟨rfl, rfl, rfl, rfl, rfl, rfl, rfl, rfl, trivial⟩ ?_
      refine w_ret (thn_r (inB_r (thn_r (rndE_r (inB_r (thn_r ?_))))))
      exact end0 .ret (.inl rfl) [_] ⟨rfl, trivial⟩ ⟨bool_eq (queueBad (by rw [hs, if_neg]; intro h; simp [h.1] at g2)), rfl, rfl⟩
    · try simp only [decide_eq_true_eq, decide_eq_false_iff_not, Bool.not_eq_true', Bool.not_eq_false', decide_not, Decidable.not_not, Int.not_lt, Int.not_le, ne_eq] at g2
      simp only [Bool.and_eq_true, decide_eq_true_eq] at g2
      refine opW_x (w_fieldAddr rfl rfl fo47x1 rfl ?_)
      refine opW_x (w_load1 rfl rfl lk9 rfl (atL 1 rfl rfl rfl) ?_)
      refine opW_x (w_fieldAddr rfl rfl fo47x3 rfl ?_)
      refine opW_x (w_load1 rfl rfl lk38 rfl (atL 1 rfl rfl rfl) ?_)
      refine opW_x (w_fieldAddr rfl rfl fo47x2 rfl ?_)
      refine opW_x (w_load1 rfl rfl lk9 rfl (atL 1 rfl rfl rfl) ?_)
      refine opW_x (w_build (parts := [(0, _), (1, _), (2, _)]) [_, _, _] [_, _, _] rfl rfl pl40 zo40 rfl rfl rfl ?_)
      refine opW_x (w_retB rfl rfl en29 rfl (specLetter_c _ _ ⟨x.fr, x.left, x.text⟩ _ hi5 (by first | assumption | omega) (by first | assumption | omega)) ?_)
      refine opW_x (w_not rfl rfl rfl ?_)
      refine opW_x (w_pickF rfl rfl rfl rfl ?_)
      refine w_keep [(0, _), (1, _), (3, _), (4, _), (5, _), (10, _), (34, _)] ⟨rfl, rfl, rfl, rfl, rfl, rfl, rfl, trivial⟩ ?_
      refine w_cond rfl (fun g3 => ?_) (fun g3 => ?_)
      · try simp only [decide_eq_true_eq, decide_eq_false_iff_not, Bool.not_eq_true', Bool.not_eq_false', decide_not, Decidable.not_not, Int.not_lt, Int.not_le, ne_eq] at g3
        refine w_seq_region ?_
        refine opW_x (w_assign rfl rfl rfl ?_)
        refine w_keep [(0, _), (1, _), (2, _), (3, _), (4, _), (5, _), (10, _), (34, _)] ⟨rfl, rfl, rfl, rfl, rfl, rfl, rfl, rfl, trivial⟩ ?_
        refine w_ret (thn_r (inB_r (thn_r (rndE_r (inB_r (thn_r ?_))))))
        exact end0 .ret (.inl rfl) [_] ⟨rfl, trivial⟩ ⟨bool_eq (queueBad (by rw [hs, if_neg]; intro h; rw [itemOk, g3] at h; cases h.2)), rfl, rfl⟩
      · try simp only [decide_eq_true_eq, decide_eq_false_iff_not, Bool.not_eq_true', Bool.not_eq_false', decide_not, Decidable.not_not, Int.not_lt, Int.not_le, ne_eq] at g3
        refine w_skip ?_
        refine thn_n ?_
        refine w_region ?_
        refine opW_x (w_fieldAddr rfl rfl fo47x0 rfl ?_)
        refine opW_x (w_load1 rfl rfl lk3 rfl (atL 1 rfl rfl rfl) ?_)
        refine opW_x (w_assign rfl rfl rfl ?_)
        refine inB_n (thn_n ?_)
        refine w_region ?_
        refine opW_x (w_move rfl rfl rfl ?_)
        refine opW_x (w_add rfl rfl rfl rfl (by first | exact wrI64 (by first | omega | (simp; done) | (simp; omega)) (by first | omega | (simp; done) | (simp; omega)) | rfl) ?_)
        refine opW_x (w_assign rfl rfl rfl ?_)
        exact rndE_n (p.1 + 1, x.id) [0] (by first | omega | (simp only []; omega)) ⟨rfl, by simp only []; omega, by rw [hs, if_pos ⟨g2, g3⟩], by simp only []; omega, by simp only []; omega⟩ ⟨rfl, rfl, rfl, rfl, trivial⟩ rfl
  · try simp only [decide_eq_true_eq, decide_eq_false_iff_not, Bool.not_eq_true', Bool.not_eq_false', decide_not, Decidable.not_not, Int.not_lt, Int.not_le, ne_eq] at g1
    rw [dropEnd (by omega), scanQ] at hs
    refine w_exit (thn_x (rndE_x (inB_hit (thn_n ?_))))
    refine w_seq_region ?_
    refine opW_x (w_fieldAddr rfl rfl fo29x0 rfl ?_)
    refine opW_x (w_load1 rfl rfl lk3 rfl (atL 0 rfl rfl rfl) ?_)
    refine opW_x (w_move rfl rfl rfl ?_)
    refine opW_x (w_add rfl rfl rfl rfl (by first | exact wrI64 (by first | omega | (simp; done) | (simp; omega)) (by first | omega | (simp; done) | (simp; omega)) | rfl) ?_)
    refine opW_x (w_retB rfl rfl en69 rfl (l6In_c _ _ _ _) ?_)
    refine opW_x (w_move rfl rfl rfl ?_)
    refine r_split (d := 42) rfl (fun g1 => ?_) (fun g1 => ?_)
    · try simp only [decide_eq_true_eq, decide_eq_false_iff_not, Bool.not_eq_true', Bool.not_eq_false', decide_not, Decidable.not_not, Int.not_lt, Int.not_le, ne_eq] at g1
      refine opW_x (w_fieldAddr rfl rfl fo29x1 rfl ?_)
      refine opW_x (w_load1 rfl rfl lk27 rfl (atL 0 rfl rfl rfl) ?_)
      refine opW_x (w_lenV rfl rfl Try.underlying27 rfl ?_)
      refine opW_x (w_leq rfl rfl rfl rfl ?_)
      refine opW_x (w_pickT rfl rfl rfl rfl ?_)
      refine opW_x (w_assign rfl rfl rfl ?_)
      refine w_keep [(0, _), (1, _), (2, _), (3, _), (4, _), (10, _)] ⟨rfl, rfl, rfl, rfl, rfl, rfl, trivial⟩ ?_
      refine w_ret ?_
      exact end0 .ret (.inl rfl) [_] ⟨rfl, trivial⟩ ⟨bool_eq (by rw [← queueEnd hs, Bool.eq_iff_iff]; simp [g1, g1]; try omega), rfl, rfl⟩
    · try simp only [decide_eq_true_eq, decide_eq_false_iff_not, Bool.not_eq_true', Bool.not_eq_false', decide_not, Decidable.not_not, Int.not_lt, Int.not_le, ne_eq] at g1
      refine opW_x (w_pass rfl rfl ?_)
      refine opW_x (w_pass rfl rfl ?_)
      refine opW_x (w_pass rfl rfl ?_)
      refine opW_x (w_pass rfl rfl ?_)
      refine opW_x (w_pickF rfl rfl rfl rfl ?_)
      refine opW_x (w_assign rfl rfl rfl ?_)
      refine w_keep [(0, _), (1, _), (2, _), (3, _), (4, _), (10, _)] ⟨rfl, rfl, rfl, rfl, rfl, rfl, trivial⟩ ?_
      refine w_ret ?_
      exact end0 .ret (.inl rfl) [_] ⟨rfl, trivial⟩ ⟨bool_eq (by rw [← queueEnd hs, Bool.eq_iff_iff]; simp [g1, g1]; try omega), rfl, rfl⟩

set_option maxRecDepth 4000 in
set_option maxHeartbeats 400000 in
theorem l6Many_c (l : Str) (n : Nat) (hl : l.length * n ≤ 100000) (hn : n ≤ 100000) (hl2 : l.length ≤ 100000) (B : Kn) : RetB Try.prog 134 [str l, .int .i64 n] B (str (rep l n)) := by
  refine callsB_body 20 Try.func134 rfl rfl rfl (Nat.le_of_ble_eq_true rfl) ?_
  refine w_seq_region ?_
  refine opW_x (w_assign rfl rfl rfl ?_)
  refine w_keep [(0, _), (1, _), (4, _)] ⟨rfl, rfl, rfl, trivial⟩ ?_
  refine w_seq_region ?_
  refine opW_x (w_assign rfl rfl rfl ?_)
  refine w_keep [(0, _), (1, _), (4, _), (5, _)] ⟨rfl, rfl, rfl, rfl, trivial⟩ ?_
  refine w_seq ?_
  refine w_block ?_
  refine w_loopE (α := Str × Str × Nat) [4] (fun p => [(0, str p.1), (1, .int .i64 p.2.2), (5, str p.2.1)]) [] (fun p => []) (fun p Bx => Bx = B ∧ rep l n = p.2.1 ++ rep p.1 p.2.2 ∧ p.2.2 ≤ n ∧ p.1.length ≤ 200000 ∧ p.2.1.length ≤ 100000 ∧ (0 < p.2.2 → p.1.length ≤ 100000)) (fun p => p.2.2) (l, [], n) ⟨rfl, rfl, rfl, trivial⟩ rfl (⟨rfl, rfl, Nat.le_refl _, by simp only []; omega, by simp, fun _ => hl2⟩) (fun p B1 hle1 hI => ?_)
  obtain ⟨rfl, hr, h1, h2, h3, h4⟩ := hI
  have hrl := congrArg List.length hr
  rw [List.length_append, rep_len, rep_len, Nat.mul_comm] at hrl
  refine w_tidy [(0, _), (1, _), (4, _), (5, _)] [] ⟨rfl, rfl, rfl, rfl, trivial⟩ rfl ?_
  refine w_seq ?_
  refine w_seq_region ?_
  refine opW_x (w_move rfl rfl rfl ?_)
  refine opW_x (w_gtr rfl rfl rfl rfl ?_)
  refine w_keep [(0, _), (1, _), (4, _), (5, _), (7, _)] ⟨rfl, rfl, rfl, rfl, rfl, trivial⟩ ?_
  refine w_cond rfl (fun g1 => ?_) (fun g1 => ?_)
  · try simp only [decide_eq_true_eq, decide_eq_false_iff_not, Bool.not_eq_true', Bool.not_eq_false', decide_not, Decidable.not_not, Int.not_lt, Int.not_le, ne_eq] at g1
    have hp0 : 0 < p.2.2 := by omega
    replace h4 := h4 hp0
    have hm1 := Nat.le_mul_of_pos_left p.1.length hp0
    have e1 : Int.tdiv (p.2.2 : Int) 2 = ((p.2.2 / 2 : Nat) : Int) := by rw [Int.tdiv_eq_ediv_of_nonneg (by omega)]; omega
    have e2 : Int.tmod (p.2.2 : Int) 2 = ((p.2.2 % 2 : Nat) : Int) := by rw [Int.tmod_eq_emod_of_nonneg (by omega)]; omega
    refine w_skip ?_
    refine thn_n ?_
    refine w_block ?_
    refine w_seq ?_
    refine w_seq_region ?_
    refine opW_x (w_move rfl rfl rfl ?_)
    refine opW_x (w_rem rfl rfl rfl rfl (by omega) rfl ?_)
    refine opW_x (w_eqlI rfl rfl rfl rfl ?_)
    refine w_keep [(0, _), (1, _), (4, _), (5, _), (7, _), (10, _)] ⟨rfl, rfl, rfl, rfl, rfl, rfl, trivial⟩ ?_
    refine w_cond rfl (fun g2 => ?_) (fun g2 => ?_)
    · try simp only [decide_eq_true_eq, decide_eq_false_iff_not, Bool.not_eq_true', Bool.not_eq_false', decide_not, Decidable.not_not, Int.not_lt, Int.not_le, ne_eq] at g2
      rw [e2] at g2
      have hro := rep_odd p.1 p.2.2 (by omega)
      have hol := rep_len (p.1 ++ p.1) (p.2.2 / 2)
      refine w_region ?_
      refine opW_x (w_move rfl rfl rfl ?_)
      refine opW_x (w_move rfl rfl rfl ?_)
      refine opW_x (w_cat rfl rfl rfl rfl (by first | omega | (simp; omega)) ?_)
      refine opW_x (w_assign rfl rfl rfl ?_)
      refine thn_n ?_
      refine w_seq_region ?_
      refine opW_x (w_move rfl rfl rfl ?_)
      refine opW_x (w_move rfl rfl rfl ?_)
      refine opW_x (w_cat rfl rfl rfl rfl (by first | omega | (simp; omega)) ?_)
      refine opW_x (w_assign rfl rfl rfl ?_)
      refine w_keep [(0, _), (1, _), (4, _), (5, _), (7, _), (10, _)] ⟨rfl, rfl, rfl, rfl, rfl, rfl, trivial⟩ ?_
      refine w_region ?_
      refine opW_x (w_move rfl rfl rfl ?_)
      refine opW_x (w_quo rfl rfl rfl rfl (by omega) (by first | exact wrI64 (by first | omega | (simp; done) | (simp; omega)) (by first | omega | (simp; done) | (simp; omega)) | rfl) ?_)
      refine opW_x (w_assign rfl rfl rfl ?_)
      refine inB_n ?_
      exact rndE_n (p.1 ++ p.1, p.2.1 ++ p.1, p.2.2 / 2) [] (by first | omega | (simp only []; omega)) ⟨rfl, by rw [hr, hro, List.append_assoc], by simp only []; omega, by simp only [List.length_append]; omega, by simp only [List.length_append]; omega, fun h => by simp only [List.length_append] at h ⊢; have := Nat.mul_le_mul_right p.1.length (show 2 ≤ p.2.2 by omega); omega⟩ ⟨rfl, rfl, rfl, rfl, trivial⟩ rfl
    · try simp only [decide_eq_true_eq, decide_eq_false_iff_not, Bool.not_eq_true', Bool.not_eq_false', decide_not, Decidable.not_not, Int.not_lt, Int.not_le, ne_eq] at g2
      rw [e2] at g2
      have hro := rep_even p.1 p.2.2 (by omega)
      refine w_skip ?_
      refine thn_n ?_
      refine w_seq_region ?_
      refine opW_x (w_move rfl rfl rfl ?_)
      refine opW_x (w_move rfl rfl rfl ?_)
      refine opW_x (w_cat rfl rfl rfl rfl (by first | omega | (simp; omega)) ?_)
      refine opW_x (w_assign rfl rfl rfl ?_)
      refine w_keep [(0, _), (1, _), (4, _), (5, _), (7, _), (10, _)] ⟨rfl, rfl, rfl, rfl, rfl, rfl, trivial⟩ ?_
      refine w_region ?_
      refine opW_x (w_move rfl rfl rfl ?_)
      refine opW_x (w_quo rfl rfl rfl rfl (by omega) (by first | exact wrI64 (by first | omega | (simp; done) | (simp; omega)) (by first | omega | (simp; done) | (simp; omega)) | rfl) ?_)
      refine opW_x (w_assign rfl rfl rfl ?_)
      refine inB_n ?_
      exact rndE_n (p.1 ++ p.1, p.2.1, p.2.2 / 2) [] (by first | omega | (simp only []; omega)) ⟨rfl, by rw [hr, hro], by simp only []; omega, by simp only [List.length_append]; omega, h3, fun h => by simp only [List.length_append] at h ⊢; have := Nat.mul_le_mul_right p.1.length (show 2 ≤ p.2.2 by omega); omega⟩ ⟨rfl, rfl, rfl, rfl, trivial⟩ rfl
  · try simp only [decide_eq_true_eq, decide_eq_false_iff_not, Bool.not_eq_true', Bool.not_eq_false', decide_not, Decidable.not_not, Int.not_lt, Int.not_le, ne_eq] at g1
    refine w_exit (thn_x (rndE_x (inB_hit (thn_n ?_))))
    refine w_seq_region ?_
    refine opW_x (w_move rfl rfl rfl ?_)
    refine opW_x (w_assign rfl rfl rfl ?_)
    refine w_keep [(0, _), (1, _), (4, _), (5, _), (7, _)] ⟨rfl, rfl, rfl, rfl, rfl, trivial⟩ ?_
    refine w_ret ?_
    exact end0 .ret (.inl rfl) [_] ⟨rfl, trivial⟩ ⟨str_eq (by rw [hr, show p.2.2 = 0 from by omega]; simp [rep]), rfl, rfl⟩

set_option maxRecDepth 4000 in
set_option maxHeartbeats 400000 in
theorem l91Text_c (b : Nat) (q : Option Addr) (m cp p : Nat) (hp : p ≤ 900000000000) (hm : m ≤ 2000) (B : Kn) (hbm : BytesAt B q m) : Ex1 Try.prog 110 [ptr ⟨b, 0, none⟩] B (rd b q m cp p) (fun v s => ∃ x : Str, v = str x ∧ x.length ≤ 40 ∧ s = rd b q m cp (p + 2)) := by
  refine callsB_body 13 Try.func110 rfl rfl rfl (Nat.le_of_ble_eq_true rfl) ?_
  refine w_seq_region ?_
  refine opW_x (w_assign rfl rfl rfl ?_)
  refine w_keep [(0, _), (2, _)] ⟨rfl, rfl, trivial⟩ ?_
  refine w_seq ?_
  refine w_seq_region ?_
  refine opW_x (w_move rfl rfl rfl ?_)
  refine opW_x (w_ex1 0 rfl rfl rfl en77 rfl (pick_c _ _ _ _ _ _ (by omega) (by omega) (by omega) hm _ hbm) ?_)
  rintro _ _ ⟨r1, rfl, r1a, r1b, rfl⟩
  refine opW_x (w_eqlI rfl rfl rfl rfl ?_)
  refine w_tidy [(0, _), (2, _), (5, _)] [_] ⟨rfl, rfl, rfl, trivial⟩ rfl ?_
  refine w_cond rfl (fun g1 => ?_) (fun g1 => ?_)
  · try simp only [decide_eq_true_eq, decide_eq_false_iff_not, Bool.not_eq_true', Bool.not_eq_false', decide_not, Decidable.not_not, Int.not_lt, Int.not_le, ne_eq] at g1
    refine w_seq_region ?_
    refine opW_x (w_move rfl rfl rfl ?_)
    refine opW_x (w_ex1 0 rfl rfl rfl en77 rfl (pick_c _ _ _ _ _ _ (by omega) (by omega) (by omega) hm _ hbm) ?_)
    rintro _ _ ⟨ra, rfl, raa, rab, rfl⟩
    refine opW_x (w_add rfl rfl rfl rfl (by first | exact wrI64 (by first | omega | (simp; done) | (simp; omega)) (by first | omega | (simp; done) | (simp; omega)) | rfl) ?_)
    obtain ⟨n3, hn3⟩ := Int.eq_ofNat_of_zero_le (show 0 ≤ 19 + ra by omega)
    rw [hn3]
    refine opW_x (w_retB rfl rfl en134 rfl (l6Many_c [120] n3 (by simp; omega) (by omega) (by decide) _) ?_)
    refine opW_x (w_assign rfl rfl rfl ?_)
    refine w_tidy [(0, _), (2, _), (5, _)] [_] ⟨rfl, rfl, rfl, trivial⟩ rfl ?_
    refine w_ret (thn_r ?_)
    exact end1 .ret (.inl rfl) [_] 0 rfl ⟨rfl, trivial⟩ ⟨rfl, _, rfl, _, rfl, by rw [rep_len]; simp; omega, rfl⟩
  · try simp only [decide_eq_true_eq, decide_eq_false_iff_not, Bool.not_eq_true', Bool.not_eq_false', decide_not, Decidable.not_not, Int.not_lt, Int.not_le, ne_eq] at g1
    refine w_skip ?_
    refine thn_n ?_
    refine w_seq_region ?_
    refine opW_x (w_move rfl rfl rfl ?_)
    refine opW_x (w_buildSlice (parts := [(0, _), (1, _), (2, _), (3, _), (4, _), (5, _)]) [_, _, _, _, _, _] rfl rfl Try.underlying38 sz9 zo9 rfl rfl rfl rfl rfl (fun b4 => ?_))
    refine opW_x (w_callN [0, 1] rfl rfl rfl rfl en97 rfl (of_c _ _ _ _ _ _ ([[], [104, 101, 108, 108, 111], [97, 109, 121, 32, 97, 110, 100, 32, 98, 111, 98], [120], [98, 111, 120, 49, 32, 111, 114, 32, 120], [116, 111, 32, 98, 111, 98]] : List Str) (by omega) (by decide) (by decide) hm _ hbm) ?_)
    rintro _ _ _ hle5 ⟨rfl, x5, hx5, rfl, rfl⟩
    replace hx5 := (show ∀ y ∈ ( ([[], [104, 101, 108, 108, 111], [97, 109, 121, 32, 97, 110, 100, 32, 98, 111, 98], [120], [98, 111, 120, 49, 32, 111, 114, 32, 120], [116, 111, 32, 98, 111, 98]] : List Str) : List Str), y.length ≤ 40 from by decide) _ hx5
    refine opW_x (w_assign rfl rfl rfl ?_)
    refine w_tidy [(0, _), (2, _), (5, _)] [_, _] ⟨rfl, rfl, rfl, trivial⟩ rfl ?_
    refine w_ret ?_
    exact end1 .ret (.inl rfl) [_] 0 rfl ⟨rfl, trivial⟩ ⟨rfl, _, rfl, _, rfl, hx5, rfl⟩

set_option maxRecDepth 4000 in
set_option maxHeartbeats 400000 in
theorem l92To_c (b : Nat) (q : Option Addr) (m cp p : Nat) (hp : p ≤ 900000000000) (hm : m ≤ 2000) (B : Kn) (hbm : BytesAt B q m) : CallsB Try.prog 109 [ptr ⟨b, 0, none⟩] B [rd b q m cp p] (fun v B' Ls => ∃ q' cp' xs p', v = .slice q' xs.length cp' ∧ SlK B' q' cp' 1 StrR xs ∧ xs.length ≤ 6 ∧ p' ≤ p + 6 ∧ Ls = [rd b q m cp p']) := by
  refine callsB_body 53 Try.func109 rfl rfl rfl (Nat.le_of_ble_eq_true rfl) ?_
  refine w_seq_region ?_
  refine opW_x (w_assign rfl rfl rfl ?_)
  refine w_keep [(0, _), (2, _)] ⟨rfl, rfl, trivial⟩ ?_
  refine w_seq_region ?_
  refine opW_x (w_buildSlice (parts := []) [] rfl rfl Try.underlying38 sz9 zo9 rfl rfl rfl rfl rfl (fun b1 => ?_))
  refine opW_x (w_assign rfl rfl rfl ?_)
  refine w_tidy [(0, _), (2, _), (3, _)] [_, _] ⟨rfl, rfl, rfl, trivial⟩ rfl ?_
  refine w_seq_region ?_
  refine opW_x (w_buildSlice (parts := [(0, _), (1, _), (2, _), (3, _)]) [_, _, _, _] rfl rfl Try.underlying38 sz9 zo9 rfl rfl rfl rfl rfl (fun b2 => ?_))
  refine opW_x (w_assign rfl rfl rfl ?_)
  refine w_tidy [(0, _), (2, _), (3, _), (4, _)] [_, _, _] ⟨rfl, rfl, rfl, rfl, trivial⟩ rfl ?_
  refine w_pubK 2 rfl (VecR.strs (ls := ([[97, 109, 121], [98, 111, 98], [99, 121, 100], [100, 97, 110]] : List Str)) (by decide)) StrR.mono (by first | omega | decide | (simp; done) | (simp; omega)) (fun B3 hle3 hr3 => ?_)
  replace hbm := hbm.mono hle3
  have hr3n := hr3.len
  refine w_seq ?_
  refine w_seq_region ?_
  refine opW_x (w_assign rfl rfl rfl ?_)
  refine w_tidy [(0, _), (2, _), (3, _), (4, _), (5, _)] [_, _, _] ⟨rfl, rfl, rfl, rfl, rfl, trivial⟩ rfl ?_
  refine w_block ?_
  refine w_loopE (α := Gh Str) [0, 2, 4] (fun x => [(3, .slice x.a x.xs.length x.c), (5, .int .i64 x.k)]) [0, 1] (fun x => [rd b q m cp x.p, x.l]) (fun x Bx => Bx = B3 ∧ x.k ≤ 3 ∧ x.xs.length ≤ x.k ∧ x.p ≤ p + x.k ∧ VecR Bx x.l x.a x.c 9 1 StrR x.xs) (fun x => 3 - x.k) ⟨0, p, _, _, _, []⟩ ⟨rfl, rfl, trivial⟩ rfl (⟨rfl, Nat.zero_le _, Nat.le_refl _, Nat.le_refl _, .lit0⟩) (fun x B4 hle4 hI => ?_)
  obtain ⟨rfl, hk, hxk, hxp, hv⟩ := hI
  refine w_tidy [(0, _), (2, _), (3, _), (4, _), (5, _)] [_, _, _] ⟨rfl, rfl, rfl, rfl, rfl, trivial⟩ rfl ?_
  refine w_seq ?_
  refine w_seq_region ?_
  refine opW_x (w_move rfl rfl rfl ?_)
  refine opW_x (w_lss rfl rfl rfl rfl ?_)
  refine w_keep [(0, _), (2, _), (3, _), (4, _), (5, _), (9, _)] ⟨rfl, rfl, rfl, rfl, rfl, rfl, trivial⟩ ?_
  refine w_cond rfl (fun g1 => ?_) (fun g1 => ?_)
  · try simp only [decide_eq_true_eq, decide_eq_false_iff_not, Bool.not_eq_true', Bool.not_eq_false', decide_not, Decidable.not_not, Int.not_lt, Int.not_le, ne_eq] at g1
    refine w_skip ?_
    refine thn_n ?_
    refine w_seq ?_
    refine w_block ?_
    refine w_seq_region ?_
    refine opW_x (w_move rfl rfl rfl ?_)
    refine opW_x (w_ex1 0 rfl rfl rfl en77 rfl (pick_c _ _ _ _ _ _ (by omega) (by omega) (by omega) hm _ hbm) ?_)
    rintro _ _ ⟨r5, rfl, r5a, r5b, rfl⟩
    refine opW_x (w_eqlI rfl rfl rfl rfl ?_)
    refine w_tidy [(0, _), (2, _), (3, _), (4, _), (5, _), (9, _), (14, _)] [_, _, _] ⟨rfl, rfl, rfl, rfl, rfl, rfl, rfl, trivial⟩ rfl ?_
    refine w_cond rfl (fun g2 => ?_) (fun g2 => ?_)
    · try simp only [decide_eq_true_eq, decide_eq_false_iff_not, Bool.not_eq_true', Bool.not_eq_false', decide_not, Decidable.not_not, Int.not_lt, Int.not_le, ne_eq] at g2
      refine w_region ?_
      refine opW_x (w_move rfl rfl rfl ?_)
      refine opW_x (w_move rfl rfl rfl ?_)
      refine opW_x (w_move rfl rfl rfl ?_)
      obtain ⟨y, hy⟩ := getLt (xs := ([[97, 109, 121], [98, 111, 98], [99, 121, 100], [100, 97, 110]] : List Str)) (i := x.k) (by first | omega | (simp; done) | (simp; omega))
      obtain ⟨_, ⟨rfl, hb7⟩, hc7⟩ := hr3.elem hy
      refine opW_x (w_ixB rfl rfl Try.underlying38 sz9 rfl rfl (by first | omega | (simp; done) | (simp; omega)) (by first | omega | (simp; done) | (simp; omega)) ?_)
      refine opW_x (w_load1 rfl rfl lk9 rfl (hc7 _ 0 _ rfl) ?_)
      refine opW_x (w_buildSlice (parts := [(0, _)]) [_] rfl rfl Try.underlying38 sz9 zo9 rfl rfl rfl rfl rfl (fun b8 => ?_))
      refine opW_x (w_app1 (z := y) (R := StrR) 1 rfl hv rfl rfl rfl eo38 su38 rfl rfl (SrcAt.box 3 rfl) rfl rfl (⟨rfl, by first | assumption | omega | (simp; omega)⟩) (by first | omega | (simp; done) | (simp; omega)) (fun l9 p9 c9 hv9 => ?_))
      refine opW_x (w_assign rfl rfl rfl ?_)
      refine inB_n (thn_n ?_)
      refine w_region ?_
      refine opW_x (w_move rfl rfl rfl ?_)
      refine opW_x (w_add rfl rfl rfl rfl (by first | exact wrI64 (by first | omega | (simp; done) | (simp; omega)) (by first | omega | (simp; done) | (simp; omega)) | rfl) ?_)
      refine opW_x (w_assign rfl rfl rfl ?_)
      exact rndE_n ⟨x.k + 1, (x.p + 1), l9, p9, c9, (x.xs ++ [y])⟩ [0, 1, 2] (by first | omega | (simp only []; omega)) ⟨rfl, by simp only []; omega, by simp; omega, by simp only []; omega, hv9⟩ ⟨rfl, rfl, rfl, rfl, rfl, trivial⟩ rfl
    · try simp only [decide_eq_true_eq, decide_eq_false_iff_not, Bool.not_eq_true', Bool.not_eq_false', decide_not, Decidable.not_not, Int.not_lt, Int.not_le, ne_eq] at g2
      refine w_skip ?_
      refine inB_n (thn_n ?_)
      refine w_region ?_
      refine opW_x (w_move rfl rfl rfl ?_)
      refine opW_x (w_add rfl rfl rfl rfl (by first | exact wrI64 (by first | omega | (simp; done) | (simp; omega)) (by first | omega | (simp; done) | (simp; omega)) | rfl) ?_)
      refine opW_x (w_assign rfl rfl rfl ?_)
      exact rndE_n ⟨x.k + 1, (x.p + 1), x.l, x.a, x.c, x.xs⟩ [0, 1, 2] (by first | omega | (simp only []; omega)) ⟨rfl, by simp only []; omega, by simp only []; omega, by simp only []; omega, hv⟩ ⟨rfl, rfl, rfl, rfl, rfl, trivial⟩ rfl
  · try simp only [decide_eq_true_eq, decide_eq_false_iff_not, Bool.not_eq_true', Bool.not_eq_false', decide_not, Decidable.not_not, Int.not_lt, Int.not_le, ne_eq] at g1
    refine w_exit (thn_x (rndE_x (inB_hit (thn_n ?_))))
    refine w_seq ?_
    refine w_seq_region ?_
    refine opW_x (w_move rfl rfl rfl ?_)
    refine opW_x (w_lenV rfl rfl Try.underlying38 rfl ?_)
    refine opW_x (w_eqlI rfl rfl rfl rfl ?_)
    refine w_keep [(0, _), (2, _), (3, _), (4, _), (5, _), (9, _), (24, _)] ⟨rfl, rfl, rfl, rfl, rfl, rfl, rfl, trivial⟩ ?_
    refine w_cond rfl (fun g3 => ?_) (fun g3 => ?_)
    · try simp only [decide_eq_true_eq, decide_eq_false_iff_not, Bool.not_eq_true', Bool.not_eq_false', decide_not, Decidable.not_not, Int.not_lt, Int.not_le, ne_eq] at g3
      refine w_region ?_
      refine opW_x (w_move rfl rfl rfl ?_)
      refine opW_x (w_move rfl rfl rfl ?_)
      refine opW_x (w_move rfl rfl rfl ?_)
      refine opW_x (w_ex1 0 rfl rfl rfl en77 rfl (pick_c _ _ _ _ _ _ (by omega) (by omega) (by omega) hm _ hbm) ?_)
      rintro _ _ ⟨r10, rfl, r10a, r10b, rfl⟩
      obtain ⟨z, hz⟩ := getI (xs := ([[97, 109, 121], [98, 111, 98], [99, 121, 100], [100, 97, 110]] : List Str)) (i := r10) (by first | omega | (simp; done) | (simp; omega)) (by first | omega | (simp; done) | (simp; omega))
      obtain ⟨_, ⟨rfl, hb12⟩, hc12⟩ := hr3.elem hz
      refine opW_x (w_ixB rfl rfl Try.underlying38 sz9 rfl rfl (by first | omega | (simp; done) | (simp; omega)) (by first | omega | (simp; done) | (simp; omega)) ?_)
      refine opW_x (w_load1 rfl rfl lk9 rfl (hc12 _ 0 _ rfl) ?_)
      refine opW_x (w_buildSlice (parts := [(0, _)]) [_] rfl rfl Try.underlying38 sz9 zo9 rfl rfl rfl rfl rfl (fun b13 => ?_))
      refine opW_x (w_app1 (z := z) (R := StrR) 1 rfl hv rfl rfl rfl eo38 su38 rfl rfl (SrcAt.box 3 rfl) rfl rfl (⟨rfl, by first | assumption | omega | (simp; omega)⟩) (by first | omega | (simp; done) | (simp; omega)) (fun l14 p14 c14 hv14 => ?_))
      refine opW_x (w_assign rfl rfl rfl ?_)
      refine thn_n ?_
      refine w_seq ?_
      refine w_seq_region ?_
      refine opW_x (w_move rfl rfl rfl ?_)
      refine opW_x (w_ex1 0 rfl rfl rfl en77 rfl (pick_c _ _ _ _ _ _ (by omega) (by omega) (by omega) hm _ hbm) ?_)
      rintro _ _ ⟨r15, rfl, r15a, r15b, rfl⟩
      refine w_tidy [(0, _), (2, _), (3, _), (4, _), (5, _), (9, _), (24, _), (34, _)] [_, _, _, _] ⟨rfl, rfl, rfl, rfl, rfl, rfl, rfl, rfl, trivial⟩ rfl ?_
      refine w_block ?_
      refine w_seq_region ?_
      refine opW_x (w_eqlI rfl rfl rfl rfl ?_)
      refine opW_x (w_assign rfl rfl rfl ?_)
      refine w_keep [(0, _), (2, _), (3, _), (4, _), (5, _), (9, _), (24, _), (34, _), (35, _)] ⟨rfl, rfl, rfl, rfl, rfl, rfl, rfl, rfl, rfl, trivial⟩ ?_
      refine w_cond rfl (fun g4 => ?_) (fun g4 => ?_)
      · try simp only [decide_eq_true_eq, decide_eq_false_iff_not, Bool.not_eq_true', Bool.not_eq_false', decide_not, Decidable.not_not, Int.not_lt, Int.not_le, ne_eq] at g4
        refine w_region ?_
        refine opW_x (w_move rfl rfl rfl ?_)
        refine opW_x (w_move rfl rfl rfl ?_)
        obtain ⟨w, hw⟩ := getLt (xs := (x.xs ++ [z])) (i := 0) (by first | omega | (simp; done) | (simp; omega))
        obtain ⟨bb17, _, hp17, ⟨rfl, hb17⟩, hw17, hc17⟩ := hv14.row hw
        refine opW_x (w_ixP hp17 rfl rfl Try.underlying38 sz9 rfl rfl (by first | omega | (simp; done) | (simp; omega)) (by first | omega | (simp; done) | (simp; omega)) ?_)
        refine opW_x (w_load1 rfl rfl lk9 rfl (hc17 _ 1 rfl 0 _ rfl) ?_)
        refine opW_x (w_buildSlice (parts := [(0, _)]) [_] rfl rfl Try.underlying38 sz9 zo9 rfl rfl rfl rfl rfl (fun b18 => ?_))
        refine opW_x (w_app1 (z := w) (R := StrR) 1 rfl hv14 rfl rfl rfl eo38 su38 rfl rfl (SrcAt.box 4 rfl) rfl rfl (⟨rfl, by first | assumption | omega | (simp; omega)⟩) (by first | omega | (simp; done) | (simp; omega)) (fun l19 p19 c19 hv19 => ?_))
        refine opW_x (w_assign rfl rfl rfl ?_)
        refine inB_n (thn_n ?_)
        refine w_pubK 1 rfl hv19 StrR.mono (by first | omega | decide | (simp; done) | (simp; omega)) (fun B20 hle20 hr20 => ?_)
        replace hr3 := hr3.mono StrR.mono hle20
        replace hbm := hbm.mono hle20
        have hr20n := hr20.len
        refine w_seq_region ?_
        refine opW_x (w_move rfl rfl rfl ?_)
        refine opW_x (w_assign rfl rfl rfl ?_)
        refine w_tidy [(0, _), (2, _), (3, _), (4, _), (5, _), (9, _), (24, _), (34, _), (35, _)] [_, _, _, _, _] ⟨rfl, rfl, rfl, rfl, rfl, rfl, rfl, rfl, rfl, trivial⟩ rfl ?_
        refine w_ret ?_
        exact endN .ret (.inl rfl) [_] [0] rfl ⟨rfl, trivial⟩ ⟨_, _, _, _, rfl, hr20, by first | omega | (simp; done) | (simp; omega), by omega, rfl⟩
      · try simp only [decide_eq_true_eq, decide_eq_false_iff_not, Bool.not_eq_true', Bool.not_eq_false', decide_not, Decidable.not_not, Int.not_lt, Int.not_le, ne_eq] at g4
        refine w_seq_region ?_
        refine opW_x (w_eqlI rfl rfl rfl rfl ?_)
        refine opW_x (w_assign rfl rfl rfl ?_)
        refine w_keep [(0, _), (2, _), (3, _), (4, _), (5, _), (9, _), (24, _), (34, _), (35, _), (43, _)] ⟨rfl, rfl, rfl, rfl, rfl, rfl, rfl, rfl, rfl, rfl, trivial⟩ ?_
        refine w_cond rfl (fun g5 => ?_) (fun g5 => ?_)
        · try simp only [decide_eq_true_eq, decide_eq_false_iff_not, Bool.not_eq_true', Bool.not_eq_false', decide_not, Decidable.not_not, Int.not_lt, Int.not_le, ne_eq] at g5
          refine w_region ?_
          refine opW_x (w_move rfl rfl rfl ?_)
          refine opW_x (w_sliceV rfl rfl Try.underlying38 sz9 rfl (a := 0) (b := 0) rfl ⟨_, _, rfl, rfl⟩ (by omega) (by omega) ?_)
          refine opW_x (w_assign rfl rfl rfl ?_)
          refine inB_n (thn_n ?_)
          refine w_seq_region ?_
          refine opW_x (w_move rfl rfl rfl ?_)
          refine opW_x (w_assign rfl rfl rfl ?_)
          refine w_keep [(0, _), (2, _), (3, _), (4, _), (5, _), (9, _), (24, _), (34, _), (35, _), (43, _)] ⟨rfl, rfl, rfl, rfl, rfl, rfl, rfl, rfl, rfl, rfl, trivial⟩ ?_
          refine w_ret ?_
          exact endN .ret (.inl rfl) [_] [0] rfl ⟨rfl, trivial⟩ ⟨_, _, [], _, rfl, SlK.nil, Nat.zero_le _, by omega, rfl⟩
        · try simp only [decide_eq_true_eq, decide_eq_false_iff_not, Bool.not_eq_true', Bool.not_eq_false', decide_not, Decidable.not_not, Int.not_lt, Int.not_le, ne_eq] at g5
          refine w_seq_region ?_
          refine opW_x (w_eqlI rfl rfl rfl rfl ?_)
          refine opW_x (w_assign rfl rfl rfl ?_)
          refine w_keep [(0, _), (2, _), (3, _), (4, _), (5, _), (9, _), (24, _), (34, _), (35, _), (43, _), (47, _)] ⟨rfl, rfl, rfl, rfl, rfl, rfl, rfl, rfl, rfl, rfl, rfl, trivial⟩ ?_
          refine w_cond rfl (fun g6 => ?_) (fun g6 => ?_)
          · try simp only [decide_eq_true_eq, decide_eq_false_iff_not, Bool.not_eq_true', Bool.not_eq_false', decide_not, Decidable.not_not, Int.not_lt, Int.not_le, ne_eq] at g6
            refine w_region ?_
            refine opW_x (w_move rfl rfl rfl ?_)
            refine opW_x (w_buildSlice (parts := [(0, _), (1, _)]) [_, _] rfl rfl Try.underlying38 sz9 zo9 rfl rfl rfl rfl rfl (fun b21 => ?_))
            refine opW_x (w_appN (rows := (([[100, 97, 110], [101, 118, 101]] : List Str)).map fun x => [str x]) (ys := ([[100, 97, 110], [101, 118, 101]] : List Str)) (R := StrR) 1 rfl hv14 rfl rfl rfl eo38 su38 rfl rfl rfl (SrcAt.box 4 rfl) rfl wideS (all2S (by decide)) (by first | omega | (simp; done) | (simp; omega)) (fun l22 p22 c22 hv22 => ?_))
            refine opW_x (w_assign rfl rfl rfl ?_)
            refine inB_n (thn_n ?_)
            refine w_pubK 1 rfl hv22 StrR.mono (by first | omega | decide | (simp; done) | (simp; omega)) (fun B23 hle23 hr23 => ?_)
            replace hr3 := hr3.mono StrR.mono hle23
            replace hbm := hbm.mono hle23
            have hr23n := hr23.len
            refine w_seq_region ?_
            refine opW_x (w_move rfl rfl rfl ?_)
            refine opW_x (w_assign rfl rfl rfl ?_)
            refine w_tidy [(0, _), (2, _), (3, _), (4, _), (5, _), (9, _), (24, _), (34, _), (35, _), (43, _), (47, _)] [_, _, _, _, _] ⟨rfl, rfl, rfl, rfl, rfl, rfl, rfl, rfl, rfl, rfl, rfl, trivial⟩ rfl ?_
            refine w_ret ?_
            exact endN .ret (.inl rfl) [_] [0] rfl ⟨rfl, trivial⟩ ⟨_, _, _, _, rfl, hr23, by first | omega | (simp; done) | (simp; omega), by omega, rfl⟩
          · try simp only [decide_eq_true_eq, decide_eq_false_iff_not, Bool.not_eq_true', Bool.not_eq_false', decide_not, Decidable.not_not, Int.not_lt, Int.not_le, ne_eq] at g6
            refine w_skip ?_
            refine inB_n (thn_n ?_)
            refine w_pubK 1 rfl hv14 StrR.mono (by first | omega | decide | (simp; done) | (simp; omega)) (fun B24 hle24 hr24 => ?_)
            replace hr3 := hr3.mono StrR.mono hle24
            replace hbm := hbm.mono hle24
            have hr24n := hr24.len
            refine w_seq_region ?_
            refine opW_x (w_move rfl rfl rfl ?_)
            refine opW_x (w_assign rfl rfl rfl ?_)
            refine w_tidy [(0, _), (2, _), (3, _), (4, _), (5, _), (9, _), (24, _), (34, _), (35, _), (43, _), (47, _)] [_, _, _, _] ⟨rfl, rfl, rfl, rfl, rfl, rfl, rfl, rfl, rfl, rfl, rfl, trivial⟩ rfl ?_
            refine w_ret ?_
            exact endN .ret (.inl rfl) [_] [0] rfl ⟨rfl, trivial⟩ ⟨_, _, _, _, rfl, hr24, by first | omega | (simp; done) | (simp; omega), by omega, rfl⟩
    · try simp only [decide_eq_true_eq, decide_eq_false_iff_not, Bool.not_eq_true', Bool.not_eq_false', decide_not, Decidable.not_not, Int.not_lt, Int.not_le, ne_eq] at g3
      refine w_skip ?_
      refine thn_n ?_
      refine w_seq ?_
      refine w_seq_region ?_
      refine opW_x (w_move rfl rfl rfl ?_)
      refine opW_x (w_ex1 0 rfl rfl rfl en77 rfl (pick_c _ _ _ _ _ _ (by omega) (by omega) (by omega) hm _ hbm) ?_)
      rintro _ _ ⟨r25, rfl, r25a, r25b, rfl⟩
      refine w_tidy [(0, _), (2, _), (3, _), (4, _), (5, _), (9, _), (24, _), (34, _)] [_, _, _] ⟨rfl, rfl, rfl, rfl, rfl, rfl, rfl, rfl, trivial⟩ rfl ?_
      refine w_block ?_
      refine w_seq_region ?_
      refine opW_x (w_eqlI rfl rfl rfl rfl ?_)
      refine opW_x (w_assign rfl rfl rfl ?_)
      refine w_keep [(0, _), (2, _), (3, _), (4, _), (5, _), (9, _), (24, _), (34, _), (35, _)] ⟨rfl, rfl, rfl, rfl, rfl, rfl, rfl, rfl, rfl, trivial⟩ ?_
      refine w_cond rfl (fun g4 => ?_) (fun g4 => ?_)
      · try simp only [decide_eq_true_eq, decide_eq_false_iff_not, Bool.not_eq_true', Bool.not_eq_false', decide_not, Decidable.not_not, Int.not_lt, Int.not_le, ne_eq] at g4
        refine w_region ?_
        refine opW_x (w_move rfl rfl rfl ?_)
        refine opW_x (w_move rfl rfl rfl ?_)
        obtain ⟨w, hw⟩ := getLt (xs := x.xs) (i := 0) (by first | omega | (simp; done) | (simp; omega))
        obtain ⟨bb27, _, hp27, ⟨rfl, hb27⟩, hw27, hc27⟩ := hv.row hw
        refine opW_x (w_ixP hp27 rfl rfl Try.underlying38 sz9 rfl rfl (by first | omega | (simp; done) | (simp; omega)) (by first | omega | (simp; done) | (simp; omega)) ?_)
        refine opW_x (w_load1 rfl rfl lk9 rfl (hc27 _ 1 rfl 0 _ rfl) ?_)
        refine opW_x (w_buildSlice (parts := [(0, _)]) [_] rfl rfl Try.underlying38 sz9 zo9 rfl rfl rfl rfl rfl (fun b28 => ?_))
        refine opW_x (w_app1 (z := w) (R := StrR) 1 rfl hv rfl rfl rfl eo38 su38 rfl rfl (SrcAt.box 3 rfl) rfl rfl (⟨rfl, by first | assumption | omega | (simp; omega)⟩) (by first | omega | (simp; done) | (simp; omega)) (fun l29 p29 c29 hv29 => ?_))
        refine opW_x (w_assign rfl rfl rfl ?_)
        refine inB_n (thn_n ?_)
        refine w_pubK 1 rfl hv29 StrR.mono (by first | omega | decide | (simp; done) | (simp; omega)) (fun B30 hle30 hr30 => ?_)
        replace hr3 := hr3.mono StrR.mono hle30
        replace hbm := hbm.mono hle30
        have hr30n := hr30.len
        refine w_seq_region ?_
        refine opW_x (w_move rfl rfl rfl ?_)
        refine opW_x (w_assign rfl rfl rfl ?_)
        refine w_tidy [(0, _), (2, _), (3, _), (4, _), (5, _), (9, _), (24, _), (34, _), (35, _)] [_, _, _, _] ⟨rfl, rfl, rfl, rfl, rfl, rfl, rfl, rfl, rfl, trivial⟩ rfl ?_
        refine w_ret ?_
        exact endN .ret (.inl rfl) [_] [0] rfl ⟨rfl, trivial⟩ ⟨_, _, _, _, rfl, hr30, by first | omega | (simp; done) | (simp; omega), by omega, rfl⟩
      · try simp only [decide_eq_true_eq, decide_eq_false_iff_not, Bool.not_eq_true', Bool.not_eq_false', decide_not, Decidable.not_not, Int.not_lt, Int.not_le, ne_eq] at g4
        refine w_seq_region ?_
        refine opW_x (w_eqlI rfl rfl rfl rfl ?_)
        refine opW_x (w_assign rfl rfl rfl ?_)
        refine w_keep [(0, _), (2, _), (3, _), (4, _), (5, _), (9, _), (24, _), (34, _), (35, _), (43, _)] ⟨rfl, rfl, rfl, rfl, rfl, rfl, rfl, rfl, rfl, rfl, trivial⟩ ?_
        refine w_cond rfl (fun g5 => ?_) (fun g5 => ?_)
        · try simp only [decide_eq_true_eq, decide_eq_false_iff_not, Bool.not_eq_true', Bool.not_eq_false', decide_not, Decidable.not_not, Int.not_lt, Int.not_le, ne_eq] at g5
          refine w_region ?_
          refine opW_x (w_move rfl rfl rfl ?_)
          refine opW_x (w_sliceV rfl rfl Try.underlying38 sz9 rfl (a := 0) (b := 0) rfl ⟨_, _, rfl, rfl⟩ (by omega) (by omega) ?_)
          refine opW_x (w_assign rfl rfl rfl ?_)
          refine inB_n (thn_n ?_)
          refine w_seq_region ?_
          refine opW_x (w_move rfl rfl rfl ?_)
          refine opW_x (w_assign rfl rfl rfl ?_)
          refine w_keep [(0, _), (2, _), (3, _), (4, _), (5, _), (9, _), (24, _), (34, _), (35, _), (43, _)] ⟨rfl, rfl, rfl, rfl, rfl, rfl, rfl, rfl, rfl, rfl, trivial⟩ ?_
          refine w_ret ?_
          exact endN .ret (.inl rfl) [_] [0] rfl ⟨rfl, trivial⟩ ⟨_, _, [], _, rfl, SlK.nil, Nat.zero_le _, by omega, rfl⟩
        · try simp only [decide_eq_true_eq, decide_eq_false_iff_not, Bool.not_eq_true', Bool.not_eq_false', decide_not, Decidable.not_not, Int.not_lt, Int.not_le, ne_eq] at g5
          refine w_seq_region ?_
          refine opW_x (w_eqlI rfl rfl rfl rfl ?_)
          refine opW_x (w_assign rfl rfl rfl ?_)
          refine w_keep [(0, _), (2, _), (3, _), (4, _), (5, _), (9, _), (24, _), (34, _), (35, _), (43, _), (47, _)] ⟨rfl, rfl, rfl, rfl, rfl, rfl, rfl, rfl, rfl, rfl, rfl, trivial⟩ ?_
          refine w_cond rfl (fun g6 => ?_) (fun g6 => ?_)
          · try simp only [decide_eq_true_eq, decide_eq_false_iff_not, Bool.not_eq_true', Bool.not_eq_false', decide_not, Decidable.not_not, Int.not_lt, Int.not_le, ne_eq] at g6
            refine w_region ?_
            refine opW_x (w_move rfl rfl rfl ?_)
            refine opW_x (w_buildSlice (parts := [(0, _), (1, _)]) [_, _] rfl rfl Try.underlying38 sz9 zo9 rfl rfl rfl rfl rfl (fun b31 => ?_))
            refine opW_x (w_appN (rows := (([[100, 97, 110], [101, 118, 101]] : List Str)).map fun x => [str x]) (ys := ([[100, 97, 110], [101, 118, 101]] : List Str)) (R := StrR) 1 rfl hv rfl rfl rfl eo38 su38 rfl rfl rfl (SrcAt.box 3 rfl) rfl wideS (all2S (by decide)) (by first | omega | (simp; done) | (simp; omega)) (fun l32 p32 c32 hv32 => ?_))
            refine opW_x (w_assign rfl rfl rfl ?_)
            refine inB_n (thn_n ?_)
            refine w_pubK 1 rfl hv32 StrR.mono (by first | omega | decide | (simp; done) | (simp; omega)) (fun B33 hle33 hr33 => ?_)
            replace hr3 := hr3.mono StrR.mono hle33
            replace hbm := hbm.mono hle33
            have hr33n := hr33.len
            refine w_seq_region ?_
            refine opW_x (w_move rfl rfl rfl ?_)
            refine opW_x (w_assign rfl rfl rfl ?_)
            refine w_tidy [(0, _), (2, _), (3, _), (4, _), (5, _), (9, _), (24, _), (34, _), (35, _), (43, _), (47, _)] [_, _, _, _] ⟨rfl, rfl, rfl, rfl, rfl, rfl, rfl, rfl, rfl, rfl, rfl, trivial⟩ rfl ?_
            refine w_ret ?_
            exact endN .ret (.inl rfl) [_] [0] rfl ⟨rfl, trivial⟩ ⟨_, _, _, _, rfl, hr33, by first | omega | (simp; done) | (simp; omega), by omega, rfl⟩
          · try simp only [decide_eq_true_eq, decide_eq_false_iff_not, Bool.not_eq_true', Bool.not_eq_false', decide_not, Decidable.not_not, Int.not_lt, Int.not_le, ne_eq] at g6
            refine w_skip ?_
            refine inB_n (thn_n ?_)
            refine w_pubK 1 rfl hv StrR.mono (by first | omega | decide | (simp; done) | (simp; omega)) (fun B34 hle34 hr34 => ?_)
            replace hr3 := hr3.mono StrR.mono hle34
            replace hbm := hbm.mono hle34
            have hr34n := hr34.len
            refine w_seq_region ?_
            refine opW_x (w_move rfl rfl rfl ?_)
            refine opW_x (w_assign rfl rfl rfl ?_)
            refine w_tidy [(0, _), (2, _), (3, _), (4, _), (5, _), (9, _), (24, _), (34, _), (35, _), (43, _), (47, _)] [_, _, _] ⟨rfl, rfl, rfl, rfl, rfl, rfl, rfl, rfl, rfl, rfl, rfl, trivial⟩ rfl ?_
            refine w_ret ?_
            exact endN .ret (.inl rfl) [_] [0] rfl ⟨rfl, trivial⟩ ⟨_, _, _, _, rfl, hr34, by first | omega | (simp; done) | (simp; omega), by omega, rfl⟩

set_option maxRecDepth 4000 in
set_option maxHeartbeats 400000 in
theorem l22Copy_c (aq : Option Addr) (cq : Nat) (q : DQueue) (B : Kn) (hq : SlK B aq cq 4 ItemR q.items) : CallsB Try.prog 67 [.agg #[.int .i64 q.next, .slice aq q.items.length cq]] B [] (fun v B' Ls => ∃ l a cp, Ls = [l] ∧ v = .agg #[.int .i64 q.next, .slice a q.items.length cp] ∧ VecR (B'.less B) l a cp 47 4 ItemR q.items) := by
  refine callsB_body 34 Try.func67 rfl rfl rfl (Nat.le_of_ble_eq_true rfl) ?_
  have hqn := hq.len
  refine w_seq_region ?_
  refine opW_x (w_box (l := [_, _]) rfl rfl rfl rfl (fun b1 => ?_))
  refine opW_x (w_alloc (l := [_, _]) rfl rfl zo29 rfl (fun b2 => ?_))
  refine w_tidy [(0, _), (1, _), (2, _)] [_, _] ⟨rfl, rfl, rfl, trivial⟩ rfl ?_
  refine w_seq_region ?_
  refine opW_x (w_fieldAddr rfl rfl fo29x0 rfl ?_)
  refine opW_x (w_load1 rfl rfl lk3 rfl (atL 0 rfl rfl rfl) ?_)
  refine opW_x (w_buildSlice (parts := []) [] rfl rfl Try.underlying27 sz47 zo47 rfl rfl rfl rfl rfl (fun b3 => ?_))
  refine opW_x (w_build (parts := [(0, _), (1, _)]) [_, _] [_, _] rfl rfl pl29 zo29 rfl rfl rfl ?_)
  refine opW_x (w_alloc (l := [_, _]) rfl rfl zo29 rfl (fun b4 => ?_))
  refine opW_x (w_store [_, _] 3 [_, _] rfl rfl sz29 rfl rfl rfl rfl rfl rfl rfl rfl ?_)
  refine w_tidy [(0, _), (1, _), (2, _), (3, _)] [_, _, _, _] ⟨rfl, rfl, rfl, rfl, trivial⟩ rfl ?_
  refine w_seq ?_
  refine w_seq_region ?_
  refine opW_x (w_assign rfl rfl rfl ?_)
  refine w_keep [(0, _), (1, _), (2, _), (3, _), (4, _)] ⟨rfl, rfl, rfl, rfl, rfl, trivial⟩ ?_
  refine w_block ?_
  refine w_loopE (α := Gh DItem) [0, 1, 2, 3] (fun g => [(4, .int .i64 g.k)]) [2, 3] (fun g => [g.l, box1 b4 [.int .i64 q.next, .slice g.a g.xs.length g.c] 29]) (fun g Bx => g.k ≤ q.items.length ∧ g.xs = q.items.take g.k ∧ VecR (Bx.less B) g.l g.a g.c 47 4 ItemR g.xs) (fun g => q.items.length - g.k) ⟨0, 0, _, _, _, []⟩ ⟨rfl, trivial⟩ rfl (⟨Nat.zero_le _, rfl, .lit0⟩) (fun g B5 hle5 hI => ?_)
  obtain ⟨hk, hxs, hv⟩ := hI
  have hxn := congrArg List.length hxs
  rw [List.length_take] at hxn
  replace hq := hq.mono ItemR.mono hle5
  refine w_tidy [(0, _), (1, _), (2, _), (3, _), (4, _)] [_, _, _, _] ⟨rfl, rfl, rfl, rfl, rfl, trivial⟩ rfl ?_
  refine w_seq ?_
  refine w_seq_region ?_
  refine opW_x (w_move rfl rfl rfl ?_)
  refine opW_x (w_fieldAddr rfl rfl fo29x1 rfl ?_)
  refine opW_x (w_load1 rfl rfl lk27 rfl (atL 0 rfl rfl rfl) ?_)
  refine opW_x (w_lenV rfl rfl Try.underlying27 rfl ?_)
  refine opW_x (w_lss rfl rfl rfl rfl ?_)
  refine w_keep [(0, _), (1, _), (2, _), (3, _), (4, _), (14, _)] ⟨rfl, rfl, rfl, rfl, rfl, rfl, trivial⟩ ?_
  refine w_cond rfl (fun g1 => ?_) (fun g1 => ?_)
  · try simp only [decide_eq_true_eq, decide_eq_false_iff_not, Bool.not_eq_true', Bool.not_eq_false', decide_not, Decidable.not_not, Int.not_lt, Int.not_le, ne_eq] at g1
    refine w_skip ?_
    refine thn_n ?_
    refine w_seq ?_
    refine w_block ?_
    refine w_seq_region ?_
    refine opW_x (w_fieldAddr rfl rfl fo29x1 rfl ?_)
    refine opW_x (w_load1 rfl rfl lk27 rfl (atL 0 rfl rfl rfl) ?_)
    refine opW_x (w_move rfl rfl rfl ?_)
    obtain ⟨x, hx⟩ := getLt (xs := q.items) (i := g.k) (by first | omega | (simp; done) | (simp; omega))
    obtain ⟨bb7, oo7, rfl⟩ := hq.base hx
    obtain ⟨_, ⟨qi8, ci8, rfl, hi8, hb8, hb8b⟩, hc8⟩ := hq.elem hx
    have hi8n := hi8.len
    refine opW_x (w_ixB rfl rfl Try.underlying27 sz47 rfl rfl (by first | omega | (simp; done) | (simp; omega)) (by first | omega | (simp; done) | (simp; omega)) ?_)
    refine opW_x (w_loadN [_, _, _, _] rfl rfl lk47 rfl (rowK hc8 0 rfl rfl) ?_)
    refine opW_x (w_alloc (l := [_, _, _, _]) rfl rfl zo47 rfl (fun b9 => ?_))
    refine opW_x (w_store [_, _, _, _] 4 [_, _, _, _] rfl rfl sz47 rfl rfl rfl rfl rfl rfl rfl rfl ?_)
    refine w_tidy [(0, _), (1, _), (2, _), (3, _), (4, _), (5, _), (14, _)] [_, _, _, _, _] ⟨rfl, rfl, rfl, rfl, rfl, rfl, rfl, trivial⟩ rfl ?_
    refine w_seq_region ?_
    refine opW_x (w_buildSlice (parts := []) [] rfl rfl Try.underlying38 sz9 zo9 rfl rfl rfl rfl rfl (fun b10 => ?_))
    refine opW_x (w_fieldAddr rfl rfl fo47x3 rfl ?_)
    refine opW_x (w_load1 rfl rfl lk38 rfl (atL 4 rfl rfl rfl) ?_)
    refine opW_x (w_appR (R := StrR) 5 rfl (VecR.lit0 (R := StrR)) rfl rfl rfl eo38 su38 rfl rfl rfl hi8.rows StrR.one rfl (by first | omega | (simp; done) | (simp; omega)) (fun l11 p11 c11 hv11 => ?_))
    refine opW_x (w_fieldAddr rfl rfl fo47x3 rfl ?_)
    refine opW_x (w_store [_] 4 [_, _, _, _] rfl rfl sz38 rfl rfl rfl rfl rfl rfl rfl rfl ?_)
    refine w_tidy [(0, _), (1, _), (2, _), (3, _), (4, _), (5, _), (14, _)] [_, _, _, _, _, _] ⟨rfl, rfl, rfl, rfl, rfl, rfl, rfl, trivial⟩ rfl ?_
    refine w_pubF 5 rfl hv11 StrR.any (by first | omega | decide | (simp; done) | (simp; omega)) hle5 (fun B12 hle12 hr12f => ?_)
    have hr12 := hr12f.mono StrR.mono Kn.less_le
    replace hq := hq.mono ItemR.mono hle12
    replace hv := hv.mono ItemR.mono (Kn.less_mono hle12)
    have hr12n := hr12.len
    refine w_region ?_
    refine opW_x (w_fieldAddr rfl rfl fo29x1 rfl ?_)
    refine opW_x (w_load1 rfl rfl lk27 rfl (atL 3 rfl rfl rfl) ?_)
    refine opW_x (w_loadN [_, _, _, _] rfl rfl lk47 rfl (rowL 4 rfl rfl rfl) ?_)
    refine opW_x (w_buildSlice (parts := [(0, _)]) [_, _, _, _] rfl rfl Try.underlying27 sz47 zo47 rfl rfl rfl rfl rfl (fun b13 => ?_))
    refine opW_x (w_app1 (z := ⟨x.id, x.fr, x.text, x.left⟩) (R := ItemR) 2 rfl hv rfl rfl rfl eo27 su27 rfl rfl (SrcAt.box 6 rfl) rfl rfl (⟨_, _, rfl, hr12f, by first | assumption | omega | (simp; omega), by first | assumption | omega | (simp; omega)⟩) (by first | omega | (simp; done) | (simp; omega)) (fun l14 p14 c14 hv14 => ?_))
    refine opW_x (w_fieldAddr rfl rfl fo29x1 rfl ?_)
    refine opW_x (w_store [_] 3 [_, _] rfl rfl sz27 rfl rfl rfl rfl rfl rfl rfl rfl ?_)
    refine inB_n (thn_n ?_)
    refine w_region ?_
    refine opW_x (w_move rfl rfl rfl ?_)
    refine opW_x (w_add rfl rfl rfl rfl (by first | exact wrI64 (by first | omega | (simp; done) | (simp; omega)) (by first | omega | (simp; done) | (simp; omega)) | rfl) ?_)
    refine opW_x (w_assign rfl rfl rfl ?_)
    exact rndE_n ⟨g.k + 1, 0, l14, p14, c14, (g.xs ++ [⟨x.id, x.fr, x.text, x.left⟩])⟩ [0, 1, 2, 3] (by first | omega | (simp only []; omega)) ⟨by simp only []; omega, by simp only []; rw [take_snoc hx, hxs], hv14⟩ ⟨rfl, rfl, rfl, rfl, rfl, trivial⟩ rfl
  · try simp only [decide_eq_true_eq, decide_eq_false_iff_not, Bool.not_eq_true', Bool.not_eq_false', decide_not, Decidable.not_not, Int.not_lt, Int.not_le, ne_eq] at g1
    have hxe : g.xs = q.items := by rw [hxs]; exact List.take_of_length_le (by omega)
    refine w_exit (thn_x (rndE_x (inB_hit (thn_n ?_))))
    refine w_seq_region ?_
    refine opW_x (w_loadN [_, _] rfl rfl lk29 rfl (rowL 3 rfl rfl rfl) ?_)
    refine opW_x (w_store [_, _] 1 [_, _] rfl rfl sz29 rfl rfl rfl rfl rfl rfl rfl rfl ?_)
    refine w_tidy [(0, _), (1, _), (2, _), (3, _), (4, _), (14, _)] [_, _, _, _] ⟨rfl, rfl, rfl, rfl, rfl, rfl, trivial⟩ rfl ?_
    refine w_ret ?_
    exact endN .ret (.inl rfl) [_] [2] rfl ⟨⟨_, rfl, .inr ⟨[_, _], lk29, rowL 1 rfl rfl rfl, rfl⟩⟩, trivial⟩ ⟨_, _, _, rfl, by rw [← hxe]; rfl, hxe ▸ hv⟩

set_option maxRecDepth 4000 in
set_option maxHeartbeats 400000 in
theorem specAdd_c (aq : Option Addr) (cq : Nat) (q : DQueue) (qx : Option Addr) (cx : Nat) (x : DLetter) (B : Kn) (hq : SlK B aq cq 4 ItemR q.items) (hx : SlK B qx cx 1 StrR x.to_) (h1 : x.fr.length ≤ 2000000) (h2 : x.text.length ≤ 2000000) : CallsB Try.prog 24 [.agg #[.int .i64 q.next, .slice aq q.items.length cq], .agg #[str x.fr, .slice qx x.to_.length cx, str x.text]] B [] (fun v B' Ls => (∃ l a cp, Ls = [l] ∧ v = .tuple #[.agg #[.int .i64 (addQ q x).1.next, .slice a (addQ q x).1.items.length cp], .bool (addQ q x).2] ∧ VecR (B'.less B) l a cp 47 4 ItemR (addQ q x).1.items)) := by
  refine callsB_body 49 Try.func24 rfl rfl rfl (Nat.le_of_ble_eq_true rfl) ?_
  have hqn := hq.len
  have hxn := hx.len
  refine w_seq_region ?_
  refine opW_x (w_box (l := [_, _]) rfl rfl rfl rfl (fun b1 => ?_))
  refine opW_x (w_box (l := [_, _, _]) rfl rfl rfl rfl (fun b2 => ?_))
  refine opW_x (w_alloc (l := [_, _]) rfl rfl zo29 rfl (fun b3 => ?_))
  refine opW_x (w_assign rfl rfl rfl ?_)
  refine w_tidy [(0, _), (1, _), (2, _), (3, _), (4, _), (5, _)] [_, _, _] ⟨rfl, rfl, rfl, rfl, rfl, rfl, trivial⟩ rfl ?_
  refine w_seq ?_
  refine w_seq_region ?_
  refine opW_x (w_loadN [_, _] rfl rfl lk29 rfl (rowL 0 rfl rfl rfl) ?_)
  refine opW_x (w_retB rfl rfl en28 rfl (specQueue_c _ _ q _ hq) ?_)
  refine opW_x (w_not rfl rfl rfl ?_)
  refine opW_x (w_move rfl rfl rfl ?_)
  refine r_split (d := 10) rfl (fun g1 => ?_) (fun g1 => ?_)
  · try simp only [decide_eq_true_eq, decide_eq_false_iff_not, Bool.not_eq_true', Bool.not_eq_false', decide_not, Decidable.not_not, Int.not_lt, Int.not_le, ne_eq] at g1
    refine opW_x (w_pass rfl rfl ?_)
    refine opW_x (w_pass rfl rfl ?_)
    refine opW_x (w_pass rfl rfl ?_)
    refine opW_x (w_pickT rfl rfl rfl rfl ?_)
    refine w_keep [(0, _), (1, _), (2, _), (3, _), (4, _), (5, _), (14, _)] ⟨rfl, rfl, rfl, rfl, rfl, rfl, rfl, trivial⟩ ?_
    refine w_cond (t := true) rfl (fun _ => ?_) (fun h => Bool.noConfusion h)
    refine w_seq_region ?_
    refine opW_x (w_build (parts := []) [_, _] [_, _] rfl rfl pl29 zo29 rfl rfl rfl ?_)
    refine opW_x (w_store [_, _] 2 [_, _] rfl rfl sz29 rfl rfl rfl rfl rfl rfl rfl rfl ?_)
    refine opW_x (w_assign rfl rfl rfl ?_)
    refine w_tidy [(0, _), (1, _), (2, _), (3, _), (4, _), (5, _), (14, _)] [_, _, _] ⟨rfl, rfl, rfl, rfl, rfl, rfl, rfl, trivial⟩ rfl ?_
    refine w_ret (thn_r ?_)
    have he := addQ_bad1 (x := x) g1
    exact endE .ret (.inl rfl) [_, _] ⟨⟨_, rfl, .inr ⟨[_, _], lk29, rowL 2 rfl rfl rfl, rfl⟩⟩, rfl, trivial⟩ ⟨_, none, 0, rfl, by rw [he]; rfl, by rw [he]; exact VecR.nil⟩
  · try simp only [decide_eq_true_eq, decide_eq_false_iff_not, Bool.not_eq_true', Bool.not_eq_false', decide_not, Decidable.not_not, Int.not_lt, Int.not_le, ne_eq] at g1
    refine opW_x (w_loadN [_, _, _] rfl rfl lk40 rfl (rowL 1 rfl rfl rfl) ?_)
    refine opW_x (w_retB rfl rfl en29 rfl (specLetter_c _ _ x _ hx (by first | assumption | omega) (by first | assumption | omega)) ?_)
    refine opW_x (w_not rfl rfl rfl ?_)
    refine opW_x (w_pickF rfl rfl rfl rfl ?_)
    refine w_keep [(0, _), (1, _), (2, _), (3, _), (4, _), (5, _), (14, _)] ⟨rfl, rfl, rfl, rfl, rfl, rfl, rfl, trivial⟩ ?_
    refine w_cond rfl (fun g2 => ?_) (fun g2 => ?_)
    · try simp only [decide_eq_true_eq, decide_eq_false_iff_not, Bool.not_eq_true', Bool.not_eq_false', decide_not, Decidable.not_not, Int.not_lt, Int.not_le, ne_eq] at g2
      refine w_seq_region ?_
      refine opW_x (w_build (parts := []) [_, _] [_, _] rfl rfl pl29 zo29 rfl rfl rfl ?_)
      refine opW_x (w_store [_, _] 2 [_, _] rfl rfl sz29 rfl rfl rfl rfl rfl rfl rfl rfl ?_)
      refine opW_x (w_assign rfl rfl rfl ?_)
      refine w_tidy [(0, _), (1, _), (2, _), (3, _), (4, _), (5, _), (14, _)] [_, _, _] ⟨rfl, rfl, rfl, rfl, rfl, rfl, rfl, trivial⟩ rfl ?_
      refine w_ret (thn_r ?_)
      have he := addQ_bad2 (q := q) g2
      exact endE .ret (.inl rfl) [_, _] ⟨⟨_, rfl, .inr ⟨[_, _], lk29, rowL 2 rfl rfl rfl, rfl⟩⟩, rfl, trivial⟩ ⟨_, none, 0, rfl, by rw [he]; rfl, by rw [he]; exact VecR.nil⟩
    · try simp only [decide_eq_true_eq, decide_eq_false_iff_not, Bool.not_eq_true', Bool.not_eq_false', decide_not, Decidable.not_not, Int.not_lt, Int.not_le, ne_eq] at g2
      have hqb := queueOk_next g1
      refine w_skip ?_
      refine thn_n ?_
      refine w_seq_region ?_
      refine opW_x (w_loadN [_, _] rfl rfl lk29 rfl (rowL 0 rfl rfl rfl) ?_)
      refine opW_x (w_call rfl rfl en67 rfl (l22Copy_c _ _ q _ hq) ?_)
      rintro _ Bk _ hlek ⟨lk, ak, ck, rfl, rfl, hvk⟩
      replace hq := hq.mono ItemR.mono hlek
      replace hx := hx.mono StrR.mono hlek
      replace hvk := hvk.mono ItemR.mono (Kn.less_up (Kn.le.refl _) (Kn.le.refl _))
      refine opW_x (w_alloc (l := [_, _]) rfl rfl zo29 rfl (fun b7 => ?_))
      refine opW_x (w_store [_, _] 4 [_, _] rfl rfl sz29 rfl rfl rfl rfl rfl rfl rfl rfl ?_)
      refine w_tidy [(0, _), (1, _), (2, _), (3, _), (4, _), (5, _), (6, _), (14, _)] [_, _, _, _, _] ⟨rfl, rfl, rfl, rfl, rfl, rfl, rfl, rfl, trivial⟩ rfl ?_
      refine w_seq ?_
      refine w_seq_region ?_
      refine opW_x (w_fieldAddr rfl rfl fo29x1 rfl ?_)
      refine opW_x (w_load1 rfl rfl lk27 rfl (atL 0 rfl rfl rfl) ?_)
      refine opW_x (w_lenV rfl rfl Try.underlying27 rfl ?_)
      refine opW_x (w_geq rfl rfl rfl rfl ?_)
      refine opW_x (w_move rfl rfl rfl ?_)
      refine r_split (d := 22) rfl (fun g3 => ?_) (fun g3 => ?_)
      · try simp only [decide_eq_true_eq, decide_eq_false_iff_not, Bool.not_eq_true', Bool.not_eq_false', decide_not, Decidable.not_not, Int.not_lt, Int.not_le, ne_eq] at g3
        refine opW_x (w_pass rfl rfl ?_)
        refine opW_x (w_pass rfl rfl ?_)
        refine opW_x (w_pass rfl rfl ?_)
        refine opW_x (w_pickT rfl rfl rfl rfl ?_)
        refine w_keep [(0, _), (1, _), (2, _), (3, _), (4, _), (5, _), (6, _), (14, _), (26, _)] ⟨rfl, rfl, rfl, rfl, rfl, rfl, rfl, rfl, rfl, trivial⟩ ?_
        refine w_cond (t := true) rfl (fun _ => ?_) (fun h => Bool.noConfusion h)
        refine w_seq_region ?_
        refine opW_x (w_loadN [_, _] rfl rfl lk29 rfl (rowL 4 rfl rfl rfl) ?_)
        refine opW_x (w_store [_, _] 2 [_, _] rfl rfl sz29 rfl rfl rfl rfl rfl rfl rfl rfl ?_)
        refine opW_x (w_assign rfl rfl rfl ?_)
        refine w_tidy [(0, _), (1, _), (2, _), (3, _), (4, _), (5, _), (6, _), (14, _), (26, _)] [_, _, _, _, _] ⟨rfl, rfl, rfl, rfl, rfl, rfl, rfl, rfl, rfl, trivial⟩ rfl ?_
        refine w_ret (thn_r ?_)
        have he := addQ_full g1 g2 (.inl (by omega))
        exact endN .ret (.inl rfl) [_, _] [3] rfl ⟨⟨_, rfl, .inr ⟨[_, _], lk29, rowL 2 rfl rfl rfl, rfl⟩⟩, rfl, trivial⟩ ⟨_, _, _, rfl, by rw [he]; rfl, by rw [he]; exact hvk⟩
      · try simp only [decide_eq_true_eq, decide_eq_false_iff_not, Bool.not_eq_true', Bool.not_eq_false', decide_not, Decidable.not_not, Int.not_lt, Int.not_le, ne_eq] at g3
        refine opW_x (w_fieldAddr rfl rfl fo29x0 rfl ?_)
        refine opW_x (w_load1 rfl rfl lk3 rfl (atL 0 rfl rfl rfl) ?_)
        refine opW_x (w_gtr rfl rfl rfl rfl ?_)
        refine opW_x (w_pickF rfl rfl rfl rfl ?_)
        refine w_keep [(0, _), (1, _), (2, _), (3, _), (4, _), (5, _), (6, _), (14, _), (26, _)] ⟨rfl, rfl, rfl, rfl, rfl, rfl, rfl, rfl, rfl, trivial⟩ ?_
        refine w_cond rfl (fun g4 => ?_) (fun g4 => ?_)
        · try simp only [decide_eq_true_eq, decide_eq_false_iff_not, Bool.not_eq_true', Bool.not_eq_false', decide_not, Decidable.not_not, Int.not_lt, Int.not_le, ne_eq] at g4
          refine w_seq_region ?_
          refine opW_x (w_loadN [_, _] rfl rfl lk29 rfl (rowL 4 rfl rfl rfl) ?_)
          refine opW_x (w_store [_, _] 2 [_, _] rfl rfl sz29 rfl rfl rfl rfl rfl rfl rfl rfl ?_)
          refine opW_x (w_assign rfl rfl rfl ?_)
          refine w_tidy [(0, _), (1, _), (2, _), (3, _), (4, _), (5, _), (6, _), (14, _), (26, _)] [_, _, _, _, _] ⟨rfl, rfl, rfl, rfl, rfl, rfl, rfl, rfl, rfl, trivial⟩ rfl ?_
          refine w_ret (thn_r ?_)
          have he := addQ_full g1 g2 (.inr (by omega))
          exact endN .ret (.inl rfl) [_, _] [3] rfl ⟨⟨_, rfl, .inr ⟨[_, _], lk29, rowL 2 rfl rfl rfl, rfl⟩⟩, rfl, trivial⟩ ⟨_, _, _, rfl, by rw [he]; rfl, by rw [he]; exact hvk⟩
        · try simp only [decide_eq_true_eq, decide_eq_false_iff_not, Bool.not_eq_true', Bool.not_eq_false', decide_not, Decidable.not_not, Int.not_lt, Int.not_le, ne_eq] at g4
          refine w_skip ?_
          refine thn_n ?_
          refine w_seq ?_
          refine w_draw (keeps _ [0, 1, 4] _) mo (by kernel_rfl) ⟨Kn.le.refl _, keepsL.refl _ _⟩ ?_
          refine any_take 0 rfl (by kernel_rfl) rfl (q_ofI fun D B L hI => w_fieldAddr rfl rfl fo29x1 rfl ⟨rfl, rfl, rfl, rfl⟩) ?_
          refine any_take 1 rfl (by kernel_rfl) rfl (q_ofI fun D B L hI => w_load1 rfl rfl lk27 rfl (atL 4 (hI.2.2.2.1.trans rfl) rfl rfl) ⟨rfl, rfl, rfl, rfl⟩) ?_
          refine any_take 2 rfl (by kernel_rfl) rfl (q_ofI fun D B L hI => w_fieldAddr rfl rfl fo29x0 rfl ⟨rfl, rfl, rfl, rfl⟩) ?_
          refine any_take 3 rfl (by kernel_rfl) rfl (q_ofI fun D B L hI => w_load1 rfl rfl lk3 rfl (atL 0 (hI.2.1.trans rfl) rfl rfl) ⟨rfl, rfl, rfl, rfl⟩) ?_
          refine any_take 4 rfl (by kernel_rfl) rfl (q_ofI fun D B L hI => w_fieldAddr rfl rfl fo40x0 rfl ⟨rfl, rfl, rfl, rfl⟩) ?_
          refine any_take 5 rfl (by kernel_rfl) rfl (q_ofI fun D B L hI => w_load1 rfl rfl lk9 rfl (atL 1 (hI.2.2.1.trans rfl) rfl rfl) ⟨rfl, rfl, rfl, rfl⟩) ?_
          refine any_take 6 rfl (by kernel_rfl) rfl (q_ofI fun D B L hI => w_fieldAddr rfl rfl fo40x2 rfl ⟨rfl, rfl, rfl, rfl⟩) ?_
          refine any_take 7 rfl (by kernel_rfl) rfl (q_ofI fun D B L hI => w_load1 rfl rfl lk9 rfl (atL 1 (hI.2.2.1.trans rfl) rfl rfl) ⟨rfl, rfl, rfl, rfl⟩) ?_
          refine any_take 9 rfl (by kernel_rfl) rfl (q_ofI fun D B L hI => w_fieldAddr rfl rfl fo40x1 rfl ⟨rfl, rfl, rfl, rfl⟩) ?_
          refine any_take 10 rfl (by kernel_rfl) rfl (q_ofI fun D B L hI => w_load1 rfl rfl lk38 rfl (atL 1 (hI.2.2.1.trans rfl) rfl rfl) ⟨rfl, rfl, rfl, rfl⟩) ?_
          refine any_one 8 (by kernel_rfl) rfl (by kernel_rfl) (w_buildSlice (parts := []) [] rfl rfl Try.underlying38 sz9 zo9 rfl rfl rfl rfl rfl (fun b8 => ?_))
          refine ⟨⟨Kn.le.refl _, ⟨rfl, rfl, rfl, trivial⟩⟩, ?_⟩
          refine any_one 11 (by kernel_rfl) rfl (by kernel_rfl) (w_appR (R := StrR) 5 rfl (VecR.lit0 (R := StrR)) rfl rfl rfl eo38 su38 rfl rfl rfl hx.rows StrR.one rfl (by first | omega | (simp; done) | (simp; omega)) (fun l9 p9 c9 hv9 => ?_))
          refine ⟨⟨Kn.le.refl _, ⟨rfl, rfl, rfl, trivial⟩⟩, ?_⟩
          refine a_pubF 5 rfl hv9 StrR.any (by first | omega | decide | (simp; done) | (simp; omega)) hlek (fun B' hle' => ⟨hle', ⟨rfl, rfl, rfl, trivial⟩⟩) (fun B10 hle10 hr10f => ?_)
          have hr10 := hr10f.mono StrR.mono Kn.less_le
          replace hq := hq.mono ItemR.mono hle10
          replace hx := hx.mono StrR.mono hle10
          replace hvk := hvk.mono ItemR.mono (Kn.less_mono hle10)
          have hr10n := hr10.len
          refine any_take 12 rfl (by kernel_rfl) rfl (q_ofI fun D B L hI => w_build (parts := [(0, _), (1, _), (2, _), (3, _)]) [_, _, _, _] [_, _, _, _] rfl rfl pl47 zo47 rfl rfl rfl ⟨rfl, rfl, rfl, rfl⟩) ?_
          refine any_one 13 (by kernel_rfl) rfl (by kernel_rfl) (w_buildSlice (parts := [(0, _)]) [_, _, _, _] rfl rfl Try.underlying27 sz47 zo47 rfl rfl rfl rfl rfl (fun b11 => ?_))
          refine ⟨⟨hle10, ⟨rfl, rfl, rfl, trivial⟩⟩, ?_⟩
          refine any_one 14 (by kernel_rfl) rfl (by kernel_rfl) (w_app1 (z := ⟨q.next, x.fr, x.text, x.to_⟩) (R := ItemR) 3 rfl hvk rfl rfl rfl eo27 su27 rfl rfl (SrcAt.box 6 rfl) rfl rfl (⟨_, _, rfl, hr10f, by first | assumption | omega | (simp; omega), by first | assumption | omega | (simp; omega)⟩) (by first | omega | (simp; done) | (simp; omega)) (fun l12 p12 c12 hv12 => ?_))
          refine ⟨⟨hle10, ⟨rfl, rfl, rfl, trivial⟩⟩, ?_⟩
          refine any_take 15 rfl (by kernel_rfl) rfl (q_ofI fun D B L hI => w_fieldAddr rfl rfl fo29x1 rfl ⟨rfl, rfl, rfl, rfl⟩) ?_
          refine any_fin 16 (by kernel_rfl) rfl (by kernel_rfl) (by kernel_rfl) (by kernel_rfl) (w_store [_] 4 [_, _] rfl rfl sz27 rfl rfl rfl rfl rfl rfl rfl rfl ?_)
          refine thn_n ?_
          refine w_tidy [(0, _), (1, _), (2, _), (3, _), (4, _), (5, _), (6, _), (14, _), (26, _)] [_, _, _, _, _, _, _] ⟨rfl, rfl, rfl, rfl, rfl, rfl, rfl, rfl, rfl, trivial⟩ rfl ?_
          refine w_seq_region ?_
          refine opW_x (w_fieldAddr rfl rfl fo29x0 rfl ?_)
          refine opW_x (w_load1 rfl rfl lk3 rfl (atL 0 rfl rfl rfl) ?_)
          refine opW_x (w_add rfl rfl rfl rfl (by first | exact wrI64 (by first | omega | (simp; done) | (simp; omega)) (by first | omega | (simp; done) | (simp; omega)) | rfl) ?_)
          refine opW_x (w_fieldAddr rfl rfl fo29x0 rfl ?_)
          refine opW_x (w_store [_] 4 [_, _] rfl rfl sz3 rfl rfl rfl rfl rfl rfl rfl rfl ?_)
          refine w_tidy [(0, _), (1, _), (2, _), (3, _), (4, _), (5, _), (6, _), (14, _), (26, _)] [_, _, _, _, _, _, _] ⟨rfl, rfl, rfl, rfl, rfl, rfl, rfl, rfl, rfl, trivial⟩ rfl ?_
          refine w_seq_region ?_
          refine opW_x (w_loadN [_, _] rfl rfl lk29 rfl (rowL 4 rfl rfl rfl) ?_)
          refine opW_x (w_store [_, _] 2 [_, _] rfl rfl sz29 rfl rfl rfl rfl rfl rfl rfl rfl ?_)
          refine opW_x (w_assign rfl rfl rfl ?_)
          refine w_tidy [(0, _), (1, _), (2, _), (3, _), (4, _), (5, _), (6, _), (14, _), (26, _)] [_, _, _, _, _, _, _] ⟨rfl, rfl, rfl, rfl, rfl, rfl, rfl, rfl, rfl, trivial⟩ rfl ?_
          refine w_ret ?_
          have he := addQ_ok g1 g2 (by omega) (by omega)
          exact endN .ret (.inl rfl) [_, _] [3] rfl ⟨⟨_, rfl, .inr ⟨[_, _], lk29, rowL 2 rfl rfl rfl, rfl⟩⟩, rfl, trivial⟩ ⟨_, _, _, rfl, by rw [he]; rfl, by rw [he]; exact hv12⟩

set_option maxRecDepth 4000 in
set_option maxHeartbeats 400000 in
theorem l22Without_c (q : Option Addr) (cp : Nat) (xs : List Str) (u : Str) (B : Kn) (ha : SlK B q cp 1 StrR xs) : CallsB Try.prog 116 [.slice q xs.length cp, str u] B [] (fun v B' Ls => Ls = [] ∧ ∃ a cp, v = .slice a (without xs u).length cp ∧ SlK (B'.less B) a cp 1 StrR (without xs u)) := by
  refine callsB_body 28 Try.func116 rfl rfl rfl (Nat.le_of_ble_eq_true rfl) ?_
  have han := ha.len
  refine w_seq_region ?_
  refine opW_x (w_assign rfl rfl rfl ?_)
  refine w_keep [(0, _), (1, _), (4, _)] ⟨rfl, rfl, rfl, trivial⟩ ?_
  refine w_seq_region ?_
  refine opW_x (w_buildSlice (parts := []) [] rfl rfl Try.underlying38 sz9 zo9 rfl rfl rfl rfl rfl (fun b1 => ?_))
  refine opW_x (w_assign rfl rfl rfl ?_)
  refine w_tidy [(0, _), (1, _), (4, _), (5, _)] [_] ⟨rfl, rfl, rfl, rfl, trivial⟩ rfl ?_
  refine w_seq ?_
  refine w_seq_region ?_
  refine opW_x (w_assign rfl rfl rfl ?_)
  refine w_keep [(0, _), (1, _), (4, _), (5, _), (6, _)] ⟨rfl, rfl, rfl, rfl, rfl, trivial⟩ ?_
  refine w_block ?_
  refine w_loopE (α := Gh Str) [0, 1, 4] (fun g => [(5, .slice g.a g.xs.length g.c), (6, .int .i64 g.k)]) [0] (fun g => [g.l]) (fun g Bx => Bx = B ∧ g.k ≤ xs.length ∧ g.xs = without (xs.take g.k) u ∧ g.xs.length ≤ g.k ∧ VecR Bx g.l g.a g.c 9 1 StrR g.xs) (fun g => xs.length - g.k) ⟨0, 0, _, _, _, []⟩ ⟨rfl, rfl, trivial⟩ rfl (⟨rfl, Nat.zero_le _, rfl, Nat.le_refl _, .lit0⟩) (fun g B2 hle2 hI => ?_)
  obtain ⟨rfl, hk, hxs, hgl, hv⟩ := hI
  refine w_tidy [(0, _), (1, _), (4, _), (5, _), (6, _)] [_] ⟨rfl, rfl, rfl, rfl, rfl, trivial⟩ rfl ?_
  refine w_seq ?_
  refine w_seq_region ?_
  refine opW_x (w_move rfl rfl rfl ?_)
  refine opW_x (w_move rfl rfl rfl ?_)
  refine opW_x (w_lenV rfl rfl Try.underlying38 rfl ?_)
  refine opW_x (w_lss rfl rfl rfl rfl ?_)
  refine w_keep [(0, _), (1, _), (4, _), (5, _), (6, _), (11, _)] ⟨rfl, rfl, rfl, rfl, rfl, rfl, trivial⟩ ?_
  refine w_cond rfl (fun g1 => ?_) (fun g1 => ?_)
  · try simp only [decide_eq_true_eq, decide_eq_false_iff_not, Bool.not_eq_true', Bool.not_eq_false', decide_not, Decidable.not_not, Int.not_lt, Int.not_le, ne_eq] at g1
    refine w_skip ?_
    refine thn_n ?_
    refine w_seq ?_
    refine w_block ?_
    refine w_seq_region ?_
    refine opW_x (w_move rfl rfl rfl ?_)
    refine opW_x (w_move rfl rfl rfl ?_)
    obtain ⟨x, hx⟩ := getLt (xs := xs) (i := g.k) (by first | omega | (simp; done) | (simp; omega))
    obtain ⟨bb4, oo4, rfl⟩ := ha.base hx
    obtain ⟨_, ⟨rfl, hb5⟩, hc5⟩ := ha.elem hx
    refine opW_x (w_ixB rfl rfl Try.underlying38 sz9 rfl rfl (by first | omega | (simp; done) | (simp; omega)) (by first | omega | (simp; done) | (simp; omega)) ?_)
    refine opW_x (w_load1 rfl rfl lk9 rfl (hc5 _ 0 _ rfl) ?_)
    refine opW_x (w_move rfl rfl rfl ?_)
    refine opW_x (w_neqS rfl rfl rfl rfl ?_)
    refine w_keep [(0, _), (1, _), (4, _), (5, _), (6, _), (11, _), (19, _)] ⟨rfl, rfl, rfl, rfl, rfl, rfl, rfl, trivial⟩ ?_
    refine w_cond rfl (fun g2 => ?_) (fun g2 => ?_)
    · try simp only [decide_eq_true_eq, decide_eq_false_iff_not, Bool.not_eq_true', Bool.not_eq_false', decide_not, Decidable.not_not, Int.not_lt, Int.not_le, ne_eq] at g2
      refine w_region ?_
      refine opW_x (w_move rfl rfl rfl ?_)
      refine opW_x (w_move rfl rfl rfl ?_)
      refine opW_x (w_move rfl rfl rfl ?_)
      refine opW_x (w_ixB rfl rfl Try.underlying38 sz9 rfl rfl (by first | omega | (simp; done) | (simp; omega)) (by first | omega | (simp; done) | (simp; omega)) ?_)
      refine opW_x (w_load1 rfl rfl lk9 rfl (hc5 _ 0 _ rfl) ?_)
      refine opW_x (w_buildSlice (parts := [(0, _)]) [_] rfl rfl Try.underlying38 sz9 zo9 rfl rfl rfl rfl rfl (fun b6 => ?_))
      refine opW_x (w_app1 (z := x) (R := StrR) 0 rfl hv rfl rfl rfl eo38 su38 rfl rfl (SrcAt.box 1 rfl) rfl rfl (⟨rfl, by first | assumption | omega | (simp; omega)⟩) (by first | omega | (simp; done) | (simp; omega)) (fun l7 p7 c7 hv7 => ?_))
      refine opW_x (w_assign rfl rfl rfl ?_)
      refine inB_n (thn_n ?_)
      refine w_region ?_
      refine opW_x (w_move rfl rfl rfl ?_)
      refine opW_x (w_add rfl rfl rfl rfl (by first | exact wrI64 (by first | omega | (simp; done) | (simp; omega)) (by first | omega | (simp; done) | (simp; omega)) | rfl) ?_)
      refine opW_x (w_assign rfl rfl rfl ?_)
      exact rndE_n ⟨g.k + 1, 0, l7, p7, c7, (g.xs ++ [x])⟩ [0] (by first | omega | (simp only []; omega)) ⟨rfl, by simp only []; omega, by simp only []; rw [without_keep hx g2, hxs], by simp; omega, hv7⟩ ⟨rfl, rfl, rfl, rfl, rfl, trivial⟩ rfl
    · try simp only [decide_eq_true_eq, decide_eq_false_iff_not, Bool.not_eq_true', Bool.not_eq_false', decide_not, Decidable.not_not, Int.not_lt, Int.not_le, ne_eq] at g2
      refine w_skip ?_
      refine inB_n (thn_n ?_)
      refine w_region ?_
      refine opW_x (w_move rfl rfl rfl ?_)
      refine opW_x (w_add rfl rfl rfl rfl (by first | exact wrI64 (by first | omega | (simp; done) | (simp; omega)) (by first | omega | (simp; done) | (simp; omega)) | rfl) ?_)
      refine opW_x (w_assign rfl rfl rfl ?_)
      exact rndE_n ⟨g.k + 1, 0, g.l, g.a, g.c, g.xs⟩ [0] (by first | omega | (simp only []; omega)) ⟨rfl, by simp only []; omega, by simp only []; rw [without_skip hx g2, hxs], by simp only []; omega, hv⟩ ⟨rfl, rfl, rfl, rfl, rfl, trivial⟩ rfl
  · try simp only [decide_eq_true_eq, decide_eq_false_iff_not, Bool.not_eq_true', Bool.not_eq_false', decide_not, Decidable.not_not, Int.not_lt, Int.not_le, ne_eq] at g1
    have hxe : g.xs = without xs u := by rw [hxs, List.take_of_length_le (by omega)]
    refine w_exit (thn_x (rndE_x (inB_hit (thn_n ?_))))
    refine w_pubF 0 rfl hv StrR.any (by first | omega | decide | (simp; done) | (simp; omega)) (Kn.le.refl _) (fun B8 hle8 hr8f => ?_)
    have hr8 := hr8f.mono StrR.mono Kn.less_le
    replace ha := ha.mono StrR.mono hle8
    have hr8n := hr8.len
    refine w_seq_region ?_
    refine opW_x (w_move rfl rfl rfl ?_)
    refine opW_x (w_assign rfl rfl rfl ?_)
    refine w_tidy [(0, _), (1, _), (4, _), (5, _), (6, _), (11, _)] [_] ⟨rfl, rfl, rfl, rfl, rfl, rfl, trivial⟩ rfl ?_
    refine w_ret ?_
    exact endN .ret (.inl rfl) [_] [] rfl ⟨rfl, trivial⟩ ⟨rfl, _, _, by rw [← hxe]; rfl, hxe ▸ hr8f⟩

end Go.Proofs.Ytnhgfdfmfhkcmaa
