/-
  WHAT THE FUNCTIONS THAT THE LAWS REACH COMPUTE: each function's contract, proved off its printed body (the text is written by program). No condition beyond those that each theorem states.
-/
import Derived.Test.YtdifmgelnkdojaaRows
import Derived.Test.YtdifmgelnkdojaaP
import Derived.Test.YtdifmgelnkdojaaBLLone
import Derived.KernelRfl
namespace Go.Proofs.Ytdifmgelnkdojaa
open Go Go.BL
set_option linter.unusedVariables false
set_option linter.unusedSimpArgs false
theorem en16 : enters Try.prog 16 = true := by kernel_rfl
theorem mo : Try.prog.follows .mixedOrders = true := by kernel_rfl
theorem fo35x1 : fieldOff Try.prog 35 1 = some 1 := by kernel_rfl
theorem lk3 : lk Try.prog 3 = some none := by kernel_rfl
theorem fo35x0 : fieldOff Try.prog 35 0 = some 0 := by kernel_rfl
theorem lk9 : lk Try.prog 9 = some none := by kernel_rfl
theorem en15 : enters Try.prog 15 = true := by kernel_rfl
theorem sz3 : sizeIs Try.prog 3 = some 1 := by kernel_rfl
theorem en23 : enters Try.prog 23 = true := by kernel_rfl
theorem en14 : enters Try.prog 14 = true := by kernel_rfl
theorem en24 : enters Try.prog 24 = true := by kernel_rfl
theorem pl35 : placesOf Try.prog 35 = some [(0, 1), (1, 1)] := by kernel_rfl
theorem zo35 : zeroOf Try.prog 35 = some (.agg #[.string ⟨#[]⟩, .int .i64 0]) := by kernel_rfl
theorem sz35 : sizeIs Try.prog 35 = some 2 := by kernel_rfl
theorem sz5 : sizeIs Try.prog 5 = some 1 := by kernel_rfl
theorem pl47 : placesOf Try.prog 47 = some [(0, 1), (1, 1)] := by kernel_rfl
theorem zo47 : zeroOf Try.prog 47 = some (.agg #[.slice none 0 0, .int .i64 0]) := by kernel_rfl
theorem fo47x1 : fieldOff Try.prog 47 1 = some 1 := by kernel_rfl
theorem fo47x0 : fieldOff Try.prog 47 0 = some 0 := by kernel_rfl
theorem lk22 : lk Try.prog 22 = some none := by kernel_rfl
theorem lk5 : lk Try.prog 5 = some none := by kernel_rfl
theorem en18 : enters Try.prog 18 = true := by kernel_rfl
theorem sz9 : sizeIs Try.prog 9 = some 1 := by kernel_rfl
theorem zo9 : zeroOf Try.prog 9 = some (.string ⟨#[]⟩) := by kernel_rfl
theorem en22 : enters Try.prog 22 = true := by kernel_rfl
theorem en13 : enters Try.prog 13 = true := by kernel_rfl
theorem en12 : enters Try.prog 12 = true := by kernel_rfl
theorem en7 : enters Try.prog 7 = true := by kernel_rfl
theorem en8 : enters Try.prog 8 = true := by kernel_rfl
theorem lk28 : lk Try.prog 28 = some (some 2) := by kernel_rfl
theorem zo28 : zeroOf Try.prog 28 = some (.agg #[.string ⟨#[]⟩, .string ⟨#[]⟩]) := by kernel_rfl
theorem pl28 : placesOf Try.prog 28 = some [(0, 1), (1, 1)] := by kernel_rfl
theorem sz28 : sizeIs Try.prog 28 = some 2 := by kernel_rfl
theorem en25 : enters Try.prog 25 = true := by kernel_rfl
theorem en19 : enters Try.prog 19 = true := by kernel_rfl
theorem eo42 : elemOk Try.prog 42 9 1 16 = true := by kernel_rfl
theorem su42 : (match Program.underlying Try.prog 42 with | some (.slice _) => true | _ => false) = true := by kernel_rfl
theorem en20 : enters Try.prog 20 = true := by kernel_rfl
theorem fo28x0 : fieldOff Try.prog 28 0 = some 0 := by kernel_rfl
theorem fo28x1 : fieldOff Try.prog 28 1 = some 1 := by kernel_rfl
theorem en26 : enters Try.prog 26 = true := by kernel_rfl
theorem en21 : enters Try.prog 21 = true := by kernel_rfl
theorem en17 : enters Try.prog 17 = true := by kernel_rfl
theorem en9 : enters Try.prog 9 = true := by kernel_rfl
theorem en10 : enters Try.prog 10 = true := by kernel_rfl
theorem en11 : enters Try.prog 11 = true := by kernel_rfl
theorem flat28 : flatOk Try.prog 28 [(0, 9), (1, 9)] = true := by kernel_rfl
abbrev cur (b : Nat) (l : List UInt8) (i : Nat) : Cells := box1 b [str l, .int .i64 i] 35
set_option maxRecDepth 4000 in
set_option maxHeartbeats 400000 in
theorem l6In_c (n lo hi : Int) (B : Kn) : RetB Try.prog 16 [.int .i64 n, .int .i64 lo, .int .i64 hi] B (.bool (decide (lo ≤ n) && decide (n ≤ hi))) := by
  refine callsB_body 15 Try.func16 rfl rfl rfl (Nat.le_of_ble_eq_true rfl) ?_
  refine w_seq_region ?_
  refine opW_x (w_assign rfl rfl rfl ?_)
  refine w_keep [(0, _), (1, _), (2, _), (6, _)] ⟨rfl, rfl, rfl, rfl, trivial⟩ ?_
  refine w_seq_region ?_
  refine opW_x (w_move rfl rfl rfl ?_)
  refine opW_x (w_move rfl rfl rfl ?_)
  refine opW_x (w_geq rfl rfl rfl rfl ?_)
  refine opW_x (w_move rfl rfl rfl ?_)
  refine r_split (d := 10) rfl (fun g1 => ?_) (fun g1 => ?_)
  · try simp only [decide_eq_true_eq, decide_eq_false_iff_not, Bool.not_eq_true', Bool.not_eq_false', decide_not, Decidable.not_not, Int.not_lt, Int.not_le, ne_eq] at g1
    refine opW_x (w_move rfl rfl rfl ?_)
    refine opW_x (w_move rfl rfl rfl ?_)
    refine opW_x (w_leq rfl rfl rfl rfl ?_)
    refine opW_x (w_pickT rfl rfl rfl rfl ?_)
    refine opW_x (w_assign rfl rfl rfl ?_)
    refine w_keep [(0, _), (1, _), (2, _), (6, _)] ⟨rfl, rfl, rfl, rfl, trivial⟩ ?_
    refine w_ret ?_
    exact end0 .ret (.inl rfl) [_] ⟨rfl, trivial⟩ ⟨by exact bool_eq (by rw [Bool.eq_iff_iff]; simp []; omega), rfl, rfl⟩
  · try simp only [decide_eq_true_eq, decide_eq_false_iff_not, Bool.not_eq_true', Bool.not_eq_false', decide_not, Decidable.not_not, Int.not_lt, Int.not_le, ne_eq] at g1
    refine opW_x (w_pass rfl rfl ?_)
    refine opW_x (w_pass rfl rfl ?_)
    refine opW_x (w_pass rfl rfl ?_)
    refine opW_x (w_pickF rfl rfl rfl rfl ?_)
    refine opW_x (w_assign rfl rfl rfl ?_)
    refine w_keep [(0, _), (1, _), (2, _), (6, _)] ⟨rfl, rfl, rfl, rfl, trivial⟩ ?_
    refine w_ret ?_
    exact end0 .ret (.inl rfl) [_] ⟨rfl, trivial⟩ ⟨by exact bool_eq (by rw [Bool.eq_iff_iff]; simp []; omega), rfl, rfl⟩

set_option maxRecDepth 4000 in
set_option maxHeartbeats 400000 in
theorem nameByte_c (c : UInt8) (B : Kn) : RetB Try.prog 23 [.int .u8 c.toNat] B (.bool (nameB c)) := by
  refine callsB_body 17 Try.func23 rfl rfl rfl (Nat.le_of_ble_eq_true rfl) ?_
  refine w_seq_region ?_
  refine opW_x (w_assign rfl rfl rfl ?_)
  refine w_keep [(0, _), (2, _)] ⟨rfl, rfl, trivial⟩ ?_
  refine w_seq_region ?_
  refine opW_x (w_move rfl rfl rfl ?_)
  refine opW_x (w_geq rfl rfl rfl rfl ?_)
  refine opW_x (w_move rfl rfl rfl ?_)
  refine r_split (d := 5) rfl (fun g1 => ?_) (fun g1 => ?_)
  · try simp only [decide_eq_true_eq, decide_eq_false_iff_not, Bool.not_eq_true', Bool.not_eq_false', decide_not, Decidable.not_not, Int.not_lt, Int.not_le, ne_eq] at g1
    refine opW_x (w_move rfl rfl rfl ?_)
    refine opW_x (w_leq rfl rfl rfl rfl ?_)
    refine opW_x (w_pickT rfl rfl rfl rfl ?_)
    refine opW_x (w_move rfl rfl rfl ?_)
    refine r_split (d := 9) rfl (fun g2 => ?_) (fun g2 => ?_)
    · try simp only [decide_eq_true_eq, decide_eq_false_iff_not, Bool.not_eq_true', Bool.not_eq_false', decide_not, Decidable.not_not, Int.not_lt, Int.not_le, ne_eq] at g2
      refine opW_x (w_pass rfl rfl ?_)
      refine opW_x (w_pass rfl rfl ?_)
      refine opW_x (w_pass rfl rfl ?_)
      refine opW_x (w_pass rfl rfl ?_)
      refine opW_x (w_pass rfl rfl ?_)
      refine opW_x (w_pass rfl rfl ?_)
      refine opW_x (w_pickT rfl rfl rfl rfl ?_)
      refine opW_x (w_assign rfl rfl rfl ?_)
      refine w_keep [(0, _), (2, _)] ⟨rfl, rfl, trivial⟩ ?_
      refine w_ret ?_
      exact end0 .ret (.inl rfl) [_] ⟨rfl, trivial⟩ ⟨by exact bool_eq (by rw [Bool.eq_iff_iff]; simp [nameB]; omega), rfl, rfl⟩
    · try simp only [decide_eq_true_eq, decide_eq_false_iff_not, Bool.not_eq_true', Bool.not_eq_false', decide_not, Decidable.not_not, Int.not_lt, Int.not_le, ne_eq] at g2
      refine opW_x (w_move rfl rfl rfl ?_)
      refine opW_x (w_geq rfl rfl rfl rfl ?_)
      refine opW_x (w_move rfl rfl rfl ?_)
      refine r_split (d := 12) rfl (fun g3 => ?_) (fun g3 => ?_)
      · try simp only [decide_eq_true_eq, decide_eq_false_iff_not, Bool.not_eq_true', Bool.not_eq_false', decide_not, Decidable.not_not, Int.not_lt, Int.not_le, ne_eq] at g3
        refine opW_x (w_move rfl rfl rfl ?_)
        refine opW_x (w_leq rfl rfl rfl rfl ?_)
        refine opW_x (w_pickT rfl rfl rfl rfl ?_)
        refine opW_x (w_pickF rfl rfl rfl rfl ?_)
        refine opW_x (w_assign rfl rfl rfl ?_)
        refine w_keep [(0, _), (2, _)] ⟨rfl, rfl, trivial⟩ ?_
        refine w_ret ?_
        exact end0 .ret (.inl rfl) [_] ⟨rfl, trivial⟩ ⟨by exact bool_eq (by rw [Bool.eq_iff_iff]; simp [nameB]; omega), rfl, rfl⟩
      · try simp only [decide_eq_true_eq, decide_eq_false_iff_not, Bool.not_eq_true', Bool.not_eq_false', decide_not, Decidable.not_not, Int.not_lt, Int.not_le, ne_eq] at g3
        refine opW_x (w_pass rfl rfl ?_)
        refine opW_x (w_pass rfl rfl ?_)
        refine opW_x (w_pickF rfl rfl rfl rfl ?_)
        refine opW_x (w_pickF rfl rfl rfl rfl ?_)
        refine opW_x (w_assign rfl rfl rfl ?_)
        refine w_keep [(0, _), (2, _)] ⟨rfl, rfl, trivial⟩ ?_
        refine w_ret ?_
        exact end0 .ret (.inl rfl) [_] ⟨rfl, trivial⟩ ⟨by exact bool_eq (by rw [Bool.eq_iff_iff]; simp [nameB]; omega), rfl, rfl⟩
  · try simp only [decide_eq_true_eq, decide_eq_false_iff_not, Bool.not_eq_true', Bool.not_eq_false', decide_not, Decidable.not_not, Int.not_lt, Int.not_le, ne_eq] at g1
    refine opW_x (w_pass rfl rfl ?_)
    refine opW_x (w_pass rfl rfl ?_)
    refine opW_x (w_pickF rfl rfl rfl rfl ?_)
    refine opW_x (w_move rfl rfl rfl ?_)
    refine opW_x (w_move rfl rfl rfl ?_)
    refine opW_x (w_geq rfl rfl rfl rfl ?_)
    refine opW_x (w_move rfl rfl rfl ?_)
    refine r_split (d := 12) rfl (fun g4 => ?_) (fun g4 => ?_)
    · try simp only [decide_eq_true_eq, decide_eq_false_iff_not, Bool.not_eq_true', Bool.not_eq_false', decide_not, Decidable.not_not, Int.not_lt, Int.not_le, ne_eq] at g4
      refine opW_x (w_move rfl rfl rfl ?_)
      refine opW_x (w_leq rfl rfl rfl rfl ?_)
      refine opW_x (w_pickT rfl rfl rfl rfl ?_)
      refine opW_x (w_pickF rfl rfl rfl rfl ?_)
      refine opW_x (w_assign rfl rfl rfl ?_)
      refine w_keep [(0, _), (2, _)] ⟨rfl, rfl, trivial⟩ ?_
      refine w_ret ?_
      exact end0 .ret (.inl rfl) [_] ⟨rfl, trivial⟩ ⟨by exact bool_eq (by rw [Bool.eq_iff_iff]; simp [nameB]; omega), rfl, rfl⟩
    · try simp only [decide_eq_true_eq, decide_eq_false_iff_not, Bool.not_eq_true', Bool.not_eq_false', decide_not, Decidable.not_not, Int.not_lt, Int.not_le, ne_eq] at g4
      refine opW_x (w_pass rfl rfl ?_)
      refine opW_x (w_pass rfl rfl ?_)
      refine opW_x (w_pickF rfl rfl rfl rfl ?_)
      refine opW_x (w_pickF rfl rfl rfl rfl ?_)
      refine opW_x (w_assign rfl rfl rfl ?_)
      refine w_keep [(0, _), (2, _)] ⟨rfl, rfl, trivial⟩ ?_
      refine w_ret ?_
      exact end0 .ret (.inl rfl) [_] ⟨rfl, trivial⟩ ⟨by exact bool_eq (by rw [Bool.eq_iff_iff]; simp [nameB]; omega), rfl, rfl⟩

set_option maxRecDepth 4000 in
set_option maxHeartbeats 400000 in
theorem specName_c (l : List UInt8) (hl : l.length ≤ 2000000) (B : Kn) : RetB Try.prog 7 [str l] B (.bool (nameOk l)) := by
  refine callsB_body 37 Try.func7 rfl rfl rfl (Nat.le_of_ble_eq_true rfl) ?_
  refine w_seq_region ?_
  refine opW_x (w_assign rfl rfl rfl ?_)
  refine w_keep [(0, _), (2, _)] ⟨rfl, rfl, trivial⟩ ?_
  refine w_seq ?_
  refine w_seq_region ?_
  refine opW_x (w_assign rfl rfl rfl ?_)
  refine w_keep [(0, _), (2, _), (3, _)] ⟨rfl, rfl, rfl, trivial⟩ ?_
  refine w_block ?_
  refine w_loop (α := Nat) (fun k => [(0, str l), (3, .int .i64 k)]) (fun k => []) (fun k Bx => Bx = B ∧ k ≤ l.length ∧ (l.take k).all nameB = true) (fun k => l.length - k) 0 ⟨rfl, rfl, trivial⟩ rfl (⟨rfl, Nat.zero_le _, by simp⟩) (fun k B1 hle1 hI => ?_)
  obtain ⟨rfl, hk, ha⟩ := hI
  refine w_seq ?_
  refine w_seq_region ?_
  refine opW_x (w_move rfl rfl rfl ?_)
  refine opW_x (w_move rfl rfl rfl ?_)
  refine opW_x (w_lenS rfl rfl Try.underlying9 rfl ?_)
  refine opW_x (w_lss rfl rfl rfl rfl ?_)
  refine w_keep [(0, _), (3, _), (7, _)] ⟨rfl, rfl, rfl, trivial⟩ ?_
  refine w_cond rfl (fun g1 => ?_) (fun g1 => ?_)
  · try simp only [decide_eq_true_eq, decide_eq_false_iff_not, Bool.not_eq_true', Bool.not_eq_false', decide_not, Decidable.not_not, Int.not_lt, Int.not_le, ne_eq] at g1
    obtain ⟨c, hc⟩ : ∃ c, l[k]? = some c := ⟨_, List.getElem?_eq_getElem (by omega)⟩
    refine w_skip ?_
    refine thn_n ?_
    refine w_seq ?_
    refine w_block ?_
    refine w_seq_bool 33 (!(nameB c)) [0, 3, 7] ?_ ?_
    · skip
      refine opW_x (w_move rfl rfl rfl ?_)
      refine opW_x (w_move rfl rfl rfl ?_)
      refine opW_x (w_index rfl rfl Try.underlying9 rfl rfl (by omega) (by simpa using hc) ?_)
      refine opW_x (w_geq rfl rfl rfl rfl ?_)
      refine opW_x (w_move rfl rfl rfl ?_)
      refine r_split (d := 14) rfl (fun g1 => ?_) (fun g1 => ?_)
      · try simp only [decide_eq_true_eq, decide_eq_false_iff_not, Bool.not_eq_true', Bool.not_eq_false', decide_not, Decidable.not_not, Int.not_lt, Int.not_le, ne_eq] at g1
        refine opW_x (w_move rfl rfl rfl ?_)
        refine opW_x (w_move rfl rfl rfl ?_)
        refine opW_x (w_index rfl rfl Try.underlying9 rfl rfl (by omega) (by simpa using hc) ?_)
        refine opW_x (w_leq rfl rfl rfl rfl ?_)
        refine opW_x (w_pickT rfl rfl rfl rfl ?_)
        refine opW_x (w_not rfl rfl rfl ?_)
        refine opW_x (w_move rfl rfl rfl ?_)
        refine r_split (d := 21) rfl (fun g2 => ?_) (fun g2 => ?_)
        · try simp only [decide_eq_true_eq, decide_eq_false_iff_not, Bool.not_eq_true', Bool.not_eq_false', decide_not, Decidable.not_not, Int.not_lt, Int.not_le, ne_eq] at g2
          refine opW_x (w_move rfl rfl rfl ?_)
          refine opW_x (w_move rfl rfl rfl ?_)
          refine opW_x (w_index rfl rfl Try.underlying9 rfl rfl (by omega) (by simpa using hc) ?_)
          refine opW_x (w_geq rfl rfl rfl rfl ?_)
          refine opW_x (w_move rfl rfl rfl ?_)
          refine r_split (d := 26) rfl (fun g3 => ?_) (fun g3 => ?_)
          · try simp only [decide_eq_true_eq, decide_eq_false_iff_not, Bool.not_eq_true', Bool.not_eq_false', decide_not, Decidable.not_not, Int.not_lt, Int.not_le, ne_eq] at g3
            refine opW_x (w_move rfl rfl rfl ?_)
            refine opW_x (w_move rfl rfl rfl ?_)
            refine opW_x (w_index rfl rfl Try.underlying9 rfl rfl (by omega) (by simpa using hc) ?_)
            refine opW_x (w_leq rfl rfl rfl rfl ?_)
            refine opW_x (w_pickT rfl rfl rfl rfl ?_)
            refine opW_x (w_not rfl rfl rfl ?_)
            refine opW_x (w_pickT rfl rfl rfl rfl ?_)
            exact ⟨rfl, rfl, rfl, leafB rfl (by rw [Bool.eq_iff_iff]; simp [nameB, ]; omega), ⟨rfl, rfl, rfl, trivial⟩⟩
          · try simp only [decide_eq_true_eq, decide_eq_false_iff_not, Bool.not_eq_true', Bool.not_eq_false', decide_not, Decidable.not_not, Int.not_lt, Int.not_le, ne_eq] at g3
            refine opW_x (w_pass rfl rfl ?_)
            refine opW_x (w_pass rfl rfl ?_)
            refine opW_x (w_pass rfl rfl ?_)
            refine opW_x (w_pass rfl rfl ?_)
            refine opW_x (w_pickF rfl rfl rfl rfl ?_)
            refine opW_x (w_not rfl rfl rfl ?_)
            refine opW_x (w_pickT rfl rfl rfl rfl ?_)
            exact ⟨rfl, rfl, rfl, leafB rfl (by rw [Bool.eq_iff_iff]; simp [nameB, ]; omega), ⟨rfl, rfl, rfl, trivial⟩⟩
        · try simp only [decide_eq_true_eq, decide_eq_false_iff_not, Bool.not_eq_true', Bool.not_eq_false', decide_not, Decidable.not_not, Int.not_lt, Int.not_le, ne_eq] at g2
          refine opW_x (w_pass rfl rfl ?_)
          refine opW_x (w_pass rfl rfl ?_)
          refine opW_x (w_pass rfl rfl ?_)
          refine opW_x (w_pass rfl rfl ?_)
          refine opW_x (w_pass rfl rfl ?_)
          refine opW_x (w_pass rfl rfl ?_)
          refine opW_x (w_pass rfl rfl ?_)
          refine opW_x (w_pass rfl rfl ?_)
          refine opW_x (w_pass rfl rfl ?_)
          refine opW_x (w_pass rfl rfl ?_)
          refine opW_x (w_pass rfl rfl ?_)
          refine opW_x (w_pickF rfl rfl rfl rfl ?_)
          exact ⟨rfl, rfl, rfl, leafB rfl (by rw [Bool.eq_iff_iff]; simp [nameB, ]; omega), ⟨rfl, rfl, rfl, trivial⟩⟩
      · try simp only [decide_eq_true_eq, decide_eq_false_iff_not, Bool.not_eq_true', Bool.not_eq_false', decide_not, Decidable.not_not, Int.not_lt, Int.not_le, ne_eq] at g1
        refine opW_x (w_pass rfl rfl ?_)
        refine opW_x (w_pass rfl rfl ?_)
        refine opW_x (w_pass rfl rfl ?_)
        refine opW_x (w_pass rfl rfl ?_)
        refine opW_x (w_pickF rfl rfl rfl rfl ?_)
        refine opW_x (w_not rfl rfl rfl ?_)
        refine opW_x (w_move rfl rfl rfl ?_)
        refine opW_x (w_move rfl rfl rfl ?_)
        refine opW_x (w_move rfl rfl rfl ?_)
        refine opW_x (w_index rfl rfl Try.underlying9 rfl rfl (by omega) (by simpa using hc) ?_)
        refine opW_x (w_geq rfl rfl rfl rfl ?_)
        refine opW_x (w_move rfl rfl rfl ?_)
        refine r_split (d := 26) rfl (fun g4 => ?_) (fun g4 => ?_)
        · try simp only [decide_eq_true_eq, decide_eq_false_iff_not, Bool.not_eq_true', Bool.not_eq_false', decide_not, Decidable.not_not, Int.not_lt, Int.not_le, ne_eq] at g4
          refine opW_x (w_move rfl rfl rfl ?_)
          refine opW_x (w_move rfl rfl rfl ?_)
          refine opW_x (w_index rfl rfl Try.underlying9 rfl rfl (by omega) (by simpa using hc) ?_)
          refine opW_x (w_leq rfl rfl rfl rfl ?_)
          refine opW_x (w_pickT rfl rfl rfl rfl ?_)
          refine opW_x (w_not rfl rfl rfl ?_)
          refine opW_x (w_pickT rfl rfl rfl rfl ?_)
          exact ⟨rfl, rfl, rfl, leafB rfl (by rw [Bool.eq_iff_iff]; simp [nameB, ]; omega), ⟨rfl, rfl, rfl, trivial⟩⟩
        · try simp only [decide_eq_true_eq, decide_eq_false_iff_not, Bool.not_eq_true', Bool.not_eq_false', decide_not, Decidable.not_not, Int.not_lt, Int.not_le, ne_eq] at g4
          refine opW_x (w_pass rfl rfl ?_)
          refine opW_x (w_pass rfl rfl ?_)
          refine opW_x (w_pass rfl rfl ?_)
          refine opW_x (w_pass rfl rfl ?_)
          refine opW_x (w_pickF rfl rfl rfl rfl ?_)
          refine opW_x (w_not rfl rfl rfl ?_)
          refine opW_x (w_pickT rfl rfl rfl rfl ?_)
          exact ⟨rfl, rfl, rfl, leafB rfl (by rw [Bool.eq_iff_iff]; simp [nameB, ]; omega), ⟨rfl, rfl, rfl, trivial⟩⟩
    refine w_keep [(0, _), (3, _), (7, _), (33, _)] ⟨rfl, rfl, rfl, rfl, trivial⟩ ?_
    refine w_cond rfl (fun g9 => ?_) (fun g9 => ?_)
    · try simp only [decide_eq_true_eq, decide_eq_false_iff_not, Bool.not_eq_true', Bool.not_eq_false', decide_not, Decidable.not_not, Int.not_lt, Int.not_le, ne_eq] at g9
      refine w_seq_region ?_
      refine opW_x (w_assign rfl rfl rfl ?_)
      refine w_keep [(0, _), (2, _), (3, _), (7, _), (33, _)] ⟨rfl, rfl, rfl, rfl, rfl, trivial⟩ ?_
      refine w_ret (inB_r (thn_r (rnd_r (inB_r (thn_r ?_)))))
      exact end0 .ret (.inl rfl) [_] ⟨rfl, trivial⟩ ⟨bool_eq (by simp [nameOk, all_stop hc g9]), rfl, rfl⟩
    · try simp only [decide_eq_true_eq, decide_eq_false_iff_not, Bool.not_eq_true', Bool.not_eq_false', decide_not, Decidable.not_not, Int.not_lt, Int.not_le, ne_eq] at g9
      refine w_skip ?_
      refine inB_n (thn_n ?_)
      refine w_region ?_
      refine opW_x (w_move rfl rfl rfl ?_)
      refine opW_x (w_add rfl rfl rfl rfl (by first | exact wrI64 (by omega) (by omega) | rfl) ?_)
      refine opW_x (w_assign rfl rfl rfl ?_)
      exact rnd_n (k + 1) (by omega) ⟨rfl, by omega, all_step hc g9 ha⟩ ⟨rfl, rfl, trivial⟩ rfl
  · try simp only [decide_eq_true_eq, decide_eq_false_iff_not, Bool.not_eq_true', Bool.not_eq_false', decide_not, Decidable.not_not, Int.not_lt, Int.not_le, ne_eq] at g1
    refine w_exit (thn_x (rnd_x (inB_hit (thn_n ?_))))
    refine w_seq_region ?_
    refine opW_x (w_move rfl rfl rfl ?_)
    refine opW_x (w_lenS rfl rfl Try.underlying9 rfl ?_)
    refine opW_x (w_retB rfl rfl en16 rfl (l6In_c _ _ _ _) ?_)
    refine opW_x (w_assign rfl rfl rfl ?_)
    refine w_keep [(0, _), (2, _), (3, _), (7, _)] ⟨rfl, rfl, rfl, rfl, trivial⟩ ?_
    refine w_ret ?_
    exact end0 .ret (.inl rfl) [_] ⟨rfl, trivial⟩ ⟨bool_eq (by (obtain rfl : k = l.length := by omega); rw [List.take_length] at ha; rw [Bool.eq_iff_iff]; simp [nameOk, ha]; omega), rfl, rfl⟩

set_option maxRecDepth 4000 in
set_option maxHeartbeats 400000 in
theorem done_c (b : Nat) (l : List UInt8) (i : Nat) (hi : i ≤ l.length) (hl : l.length ≤ 2000000) (B : Kn) : Upd1 Try.prog 15 [ptr ⟨b, 0, none⟩] B (cur b l i) (.bool (decide (i = l.length))) (cur b l i) := by
  refine callsB_body 13 Try.func15 rfl rfl rfl (Nat.le_of_ble_eq_true rfl) ?_
  refine w_seq_region ?_
  refine opW_x (w_assign rfl rfl rfl ?_)
  refine w_keep [(0, _), (2, _)] ⟨rfl, rfl, trivial⟩ ?_
  refine w_seq ?_
  refine w_draw (same _ _) mo (by kernel_rfl) ⟨rfl, rfl⟩ ?_
  refine any_takeP 0 rfl (by kernel_rfl) rfl (fun D B L => w_move rfl rfl rfl ⟨rfl, rfl, rfl, rfl⟩) ?_
  refine any_take 1 rfl (by kernel_rfl) rfl (q_of fun D => w_nilCheck rfl rfl rfl ⟨rfl, rfl, rfl, rfl⟩) ?_
  refine any_take 2 rfl (by kernel_rfl) rfl (q_of fun D => w_fieldAddr rfl rfl fo35x1 rfl ⟨rfl, rfl, rfl, rfl⟩) ?_
  refine any_take 3 rfl (by kernel_rfl) rfl (q_of fun D => w_load1 rfl rfl lk3 rfl (atL 0 rfl rfl rfl) ⟨rfl, rfl, rfl, rfl⟩) ?_
  refine any_takeP 4 rfl (by kernel_rfl) rfl (fun D B L => w_move rfl rfl rfl ⟨rfl, rfl, rfl, rfl⟩) ?_
  refine any_take 5 rfl (by kernel_rfl) rfl (q_of fun D => w_nilCheck rfl rfl rfl ⟨rfl, rfl, rfl, rfl⟩) ?_
  refine any_take 6 rfl (by kernel_rfl) rfl (q_of fun D => w_fieldAddr rfl rfl fo35x0 rfl ⟨rfl, rfl, rfl, rfl⟩) ?_
  refine any_take 7 rfl (by kernel_rfl) rfl (q_of fun D => w_load1 rfl rfl lk9 rfl (atL 0 rfl rfl rfl) ⟨rfl, rfl, rfl, rfl⟩) ?_
  refine any_take 8 rfl (by kernel_rfl) rfl (q_of fun D => w_lenS rfl rfl Try.underlying9 rfl ⟨rfl, rfl, rfl, rfl⟩) ?_
  refine any_take 9 rfl (by kernel_rfl) rfl (q_of fun D => w_eqlI rfl rfl rfl rfl ⟨rfl, rfl, rfl, rfl⟩) ?_
  refine any_takeP 10 rfl (by kernel_rfl) rfl (fun D B L => w_assign rfl rfl rfl ⟨rfl, rfl, rfl, rfl⟩) ?_
  refine any_done (by kernel_rfl) (by kernel_rfl) ?_
  refine thn_n ?_
  refine w_keep [(0, _), (2, _)] ⟨rfl, rfl, trivial⟩ ?_
  refine w_ret ?_
  exact end1 .ret (.inl rfl) [_] 0 rfl ⟨rfl, trivial⟩ ⟨bool_eq (by rw [Bool.eq_iff_iff]; simp; omega), rfl, rfl⟩

set_option maxRecDepth 4000 in
set_option maxHeartbeats 400000 in
theorem take_c (b : Nat) (l : List UInt8) (i : Nat) (hi : i ≤ l.length) (hl : l.length ≤ 2000000) (x : UInt8) (B : Kn) : Upd1 Try.prog 24 [ptr ⟨b, 0, none⟩, .int .u8 x.toNat] B (cur b l i) (.bool (decide (l[i]? = some x))) (cur b l (if l[i]? = some x then i + 1 else i)) := by
  refine callsB_body 27 Try.func24 rfl rfl rfl (Nat.le_of_ble_eq_true rfl) ?_
  refine w_seq_region ?_
  refine opW_x (w_assign rfl rfl rfl ?_)
  refine w_keep [(0, _), (1, _), (4, _)] ⟨rfl, rfl, rfl, trivial⟩ ?_
  refine w_seq ?_
  refine w_seq_boolD 19 (decide (l[i]? ≠ some x)) [0, 1, 4] (same _ _) mo (by kernel_rfl) ⟨rfl, rfl⟩ ?_ ?_
  · skip
    refine any_takeP 0 rfl (by kernel_rfl) rfl (fun D B L => w_move rfl rfl rfl ⟨rfl, rfl, rfl, rfl⟩) ?_
    refine any_take 1 rfl (by kernel_rfl) rfl (q_of fun D => w_ret1 0 rfl rfl rfl en15 rfl (done_c _ _ _ (by omega) (by omega) _) ⟨rfl, rfl, rfl, rfl⟩) ?_
    refine any_takeP 2 rfl (by kernel_rfl) rfl (fun D B L => w_move rfl rfl rfl ⟨rfl, rfl, rfl, rfl⟩) ?_
    refine a_split (d := 7) rfl (fun g1 => ?_) (fun g1 => ?_)
    · try simp only [decide_eq_true_eq, decide_eq_false_iff_not, Bool.not_eq_true', Bool.not_eq_false', decide_not, Decidable.not_not, Int.not_lt, Int.not_le, ne_eq] at g1
      refine any_takeP 3 rfl (by kernel_rfl) rfl (fun D B L => w_pass rfl rfl ⟨rfl, rfl, rfl, rfl⟩) ?_
      refine any_take 4 rfl (by kernel_rfl) rfl (q_of fun D => w_pass rfl rfl ⟨rfl, rfl, rfl, rfl⟩) ?_
      refine any_take 5 rfl (by kernel_rfl) rfl (q_of fun D => w_pass rfl rfl ⟨rfl, rfl, rfl, rfl⟩) ?_
      refine any_take 6 rfl (by kernel_rfl) rfl (q_of fun D => w_pass rfl rfl ⟨rfl, rfl, rfl, rfl⟩) ?_
      refine any_takeP 7 rfl (by kernel_rfl) rfl (fun D B L => w_pass rfl rfl ⟨rfl, rfl, rfl, rfl⟩) ?_
      refine any_take 8 rfl (by kernel_rfl) rfl (q_of fun D => w_pass rfl rfl ⟨rfl, rfl, rfl, rfl⟩) ?_
      refine any_take 9 rfl (by kernel_rfl) rfl (q_of fun D => w_pass rfl rfl ⟨rfl, rfl, rfl, rfl⟩) ?_
      refine any_take 10 rfl (by kernel_rfl) rfl (q_of fun D => w_pass rfl rfl ⟨rfl, rfl, rfl, rfl⟩) ?_
      refine any_take 11 rfl (by kernel_rfl) rfl (q_of fun D => w_pass rfl rfl ⟨rfl, rfl, rfl, rfl⟩) ?_
      refine any_takeP 12 rfl (by kernel_rfl) rfl (fun D B L => w_pass rfl rfl ⟨rfl, rfl, rfl, rfl⟩) ?_
      refine any_take 13 rfl (by kernel_rfl) rfl (q_of fun D => w_pass rfl rfl ⟨rfl, rfl, rfl, rfl⟩) ?_
      refine any_take 14 rfl (by kernel_rfl) rfl (q_of fun D => w_pickT rfl rfl rfl rfl ⟨rfl, rfl, rfl, rfl⟩) ?_
      refine any_done (by kernel_rfl) (by kernel_rfl) ?_
      exact ⟨rfl, rfl, rfl, leafB rfl (by first | (simp [g1]; done) | (rw [Bool.eq_iff_iff]; simp [hc, ← UInt8.toNat_inj]; omega)), ⟨rfl, rfl, rfl, trivial⟩⟩
    · try simp only [decide_eq_true_eq, decide_eq_false_iff_not, Bool.not_eq_true', Bool.not_eq_false', decide_not, Decidable.not_not, Int.not_lt, Int.not_le, ne_eq] at g1
      obtain ⟨c, hc⟩ : ∃ c, l[i]? = some c := ⟨_, List.getElem?_eq_getElem (by omega)⟩
      refine any_takeP 3 rfl (by kernel_rfl) rfl (fun D B L => w_move rfl rfl rfl ⟨rfl, rfl, rfl, rfl⟩) ?_
      refine any_take 4 rfl (by kernel_rfl) rfl (q_of fun D => w_nilCheck rfl rfl rfl ⟨rfl, rfl, rfl, rfl⟩) ?_
      refine any_take 5 rfl (by kernel_rfl) rfl (q_of fun D => w_fieldAddr rfl rfl fo35x0 rfl ⟨rfl, rfl, rfl, rfl⟩) ?_
      refine any_take 6 rfl (by kernel_rfl) rfl (q_of fun D => w_load1 rfl rfl lk9 rfl (atL 0 rfl rfl rfl) ⟨rfl, rfl, rfl, rfl⟩) ?_
      refine any_takeP 7 rfl (by kernel_rfl) rfl (fun D B L => w_move rfl rfl rfl ⟨rfl, rfl, rfl, rfl⟩) ?_
      refine any_take 8 rfl (by kernel_rfl) rfl (q_of fun D => w_nilCheck rfl rfl rfl ⟨rfl, rfl, rfl, rfl⟩) ?_
      refine any_take 9 rfl (by kernel_rfl) rfl (q_of fun D => w_fieldAddr rfl rfl fo35x1 rfl ⟨rfl, rfl, rfl, rfl⟩) ?_
      refine any_take 10 rfl (by kernel_rfl) rfl (q_of fun D => w_load1 rfl rfl lk3 rfl (atL 0 rfl rfl rfl) ⟨rfl, rfl, rfl, rfl⟩) ?_
      refine any_take 11 rfl (by kernel_rfl) rfl (q_of fun D => w_index rfl rfl Try.underlying9 rfl rfl (by omega) (by simpa using hc) ⟨rfl, rfl, rfl, rfl⟩) ?_
      refine any_takeP 12 rfl (by kernel_rfl) rfl (fun D B L => w_move rfl rfl rfl ⟨rfl, rfl, rfl, rfl⟩) ?_
      refine any_take 13 rfl (by kernel_rfl) rfl (q_of fun D => w_neqI rfl rfl rfl rfl ⟨rfl, rfl, rfl, rfl⟩) ?_
      refine any_take 14 rfl (by kernel_rfl) rfl (q_of fun D => w_pickF rfl rfl rfl rfl ⟨rfl, rfl, rfl, rfl⟩) ?_
      refine any_done (by kernel_rfl) (by kernel_rfl) ?_
      exact ⟨rfl, rfl, rfl, leafB rfl (by first | (simp [g1]; done) | (rw [Bool.eq_iff_iff]; simp [hc, ← UInt8.toNat_inj]; omega)), ⟨rfl, rfl, rfl, trivial⟩⟩
  refine w_keep [(0, _), (1, _), (4, _), (19, _)] ⟨rfl, rfl, rfl, rfl, trivial⟩ ?_
  refine w_cond rfl (fun g2 => ?_) (fun g2 => ?_)
  · try simp only [decide_eq_true_eq, decide_eq_false_iff_not, Bool.not_eq_true', Bool.not_eq_false', decide_not, Decidable.not_not, Int.not_lt, Int.not_le, ne_eq] at g2
    refine w_seq_region ?_
    refine opW_x (w_assign rfl rfl rfl ?_)
    refine w_keep [(0, _), (1, _), (4, _), (19, _)] ⟨rfl, rfl, rfl, rfl, trivial⟩ ?_
    refine w_ret (thn_r ?_)
    exact end1 .ret (.inl rfl) [_] 0 rfl ⟨rfl, trivial⟩ ⟨bool_eq (by simp [g2]), rfl, by rw [if_neg g2]⟩
  · try simp only [decide_eq_true_eq, decide_eq_false_iff_not, Bool.not_eq_true', Bool.not_eq_false', decide_not, Decidable.not_not, Int.not_lt, Int.not_le, ne_eq] at g2
    refine w_skip ?_
    refine thn_n ?_
    refine w_seq_region ?_
    refine opW_x (w_move rfl rfl rfl ?_)
    refine opW_x (w_nilCheck rfl rfl rfl ?_)
    refine opW_x (w_fieldAddr rfl rfl fo35x1 rfl ?_)
    refine opW_x (w_load1 rfl rfl lk3 rfl (atL 0 rfl rfl rfl) ?_)
    refine opW_x (w_add rfl rfl rfl rfl (by first | exact wrI64 (by omega) (by omega) | rfl) ?_)
    refine opW_x (w_nilCheck rfl rfl rfl ?_)
    refine opW_x (w_fieldAddr rfl rfl fo35x1 rfl ?_)
    refine opW_x (w_store [_] 0 [_, _] rfl rfl sz3 rfl rfl rfl rfl rfl rfl rfl rfl ?_)
    refine w_tidy [(0, _), (1, _), (4, _), (19, _)] [_] ⟨rfl, rfl, rfl, rfl, trivial⟩ rfl ?_
    refine w_seq_region ?_
    refine opW_x (w_assign rfl rfl rfl ?_)
    refine w_keep [(0, _), (1, _), (4, _), (19, _)] ⟨rfl, rfl, rfl, rfl, trivial⟩ ?_
    refine w_ret ?_
    exact end1 .ret (.inl rfl) [_] 0 rfl ⟨rfl, trivial⟩ ⟨bool_eq (by simp [g2]), rfl, by rw [if_pos g2]; rfl⟩

set_option maxRecDepth 4000 in
set_option maxHeartbeats 400000 in
theorem name_c (b : Nat) (l : List UInt8) (i : Nat) (hi : i ≤ l.length) (hl : l.length ≤ 2000000) (B : Kn) : Upd1 Try.prog 14 [ptr ⟨b, 0, none⟩] B (cur b l i) (.tuple #[str (word l i), .bool (wordOk (word l i))]) (cur b l (i + (word l i).length)) := by
  refine callsB_body 54 Try.func14 rfl rfl rfl (Nat.le_of_ble_eq_true rfl) ?_
  refine w_seq_region ?_
  refine opW_x (w_assign rfl rfl rfl ?_)
  refine opW_x (w_assign rfl rfl rfl ?_)
  refine w_keep [(0, _), (2, _), (3, _)] ⟨rfl, rfl, rfl, trivial⟩ ?_
  refine w_seq_region ?_
  refine opW_x (w_move rfl rfl rfl ?_)
  refine opW_x (w_nilCheck rfl rfl rfl ?_)
  refine opW_x (w_fieldAddr rfl rfl fo35x1 rfl ?_)
  refine opW_x (w_load1 rfl rfl lk3 rfl (atL 0 rfl rfl rfl) ?_)
  refine opW_x (w_assign rfl rfl rfl ?_)
  refine w_keep [(0, _), (2, _), (3, _), (4, _)] ⟨rfl, rfl, rfl, rfl, trivial⟩ ?_
  refine w_seq ?_
  refine w_block ?_
  refine w_loop (α := Nat) (fun k => [(0, ptr ⟨b, 0, none⟩), (4, .int .i64 i)]) (fun k => [cur b l (i + k)]) (fun k Bx => Bx = B ∧ i + k ≤ l.length ∧ ((l.drop i).take k).all nameB = true) (fun k => l.length - i - k) 0 ⟨rfl, rfl, trivial⟩ rfl (⟨rfl, by omega, by simp⟩) (fun k B1 hle1 hI => ?_)
  obtain ⟨rfl, hk, ha⟩ := hI
  refine w_seq ?_
  refine w_seq_boolD 24 (match l[i + k]? with | some c => nameB c | none => false) [0, 4] (same _ _) mo (by kernel_rfl) ⟨rfl, rfl⟩ ?_ ?_
  · skip
    refine any_takeP 0 rfl (by kernel_rfl) rfl (fun D B L => w_move rfl rfl rfl ⟨rfl, rfl, rfl, rfl⟩) ?_
    refine any_take 1 rfl (by kernel_rfl) rfl (q_of fun D => w_ret1 0 rfl rfl rfl en15 rfl (done_c _ _ _ (by omega) (by omega) _) ⟨rfl, rfl, rfl, rfl⟩) ?_
    refine any_take 2 rfl (by kernel_rfl) rfl (q_of fun D => w_not rfl rfl rfl ⟨rfl, rfl, rfl, rfl⟩) ?_
    refine any_takeP 3 rfl (by kernel_rfl) rfl (fun D B L => w_move rfl rfl rfl ⟨rfl, rfl, rfl, rfl⟩) ?_
    refine a_split (d := 13) rfl (fun g1 => ?_) (fun g1 => ?_)
    · try simp only [decide_eq_true_eq, decide_eq_false_iff_not, Bool.not_eq_true', Bool.not_eq_false', decide_not, Decidable.not_not, Int.not_lt, Int.not_le, ne_eq] at g1
      obtain ⟨c, hc⟩ : ∃ c, l[i + k]? = some c := ⟨_, List.getElem?_eq_getElem (by omega)⟩
      refine any_takeP 4 rfl (by kernel_rfl) rfl (fun D B L => w_move rfl rfl rfl ⟨rfl, rfl, rfl, rfl⟩) ?_
      refine any_take 5 rfl (by kernel_rfl) rfl (q_of fun D => w_nilCheck rfl rfl rfl ⟨rfl, rfl, rfl, rfl⟩) ?_
      refine any_take 6 rfl (by kernel_rfl) rfl (q_of fun D => w_fieldAddr rfl rfl fo35x0 rfl ⟨rfl, rfl, rfl, rfl⟩) ?_
      refine any_take 7 rfl (by kernel_rfl) rfl (q_of fun D => w_load1 rfl rfl lk9 rfl (atL 0 rfl rfl rfl) ⟨rfl, rfl, rfl, rfl⟩) ?_
      refine any_takeP 8 rfl (by kernel_rfl) rfl (fun D B L => w_move rfl rfl rfl ⟨rfl, rfl, rfl, rfl⟩) ?_
      refine any_take 9 rfl (by kernel_rfl) rfl (q_of fun D => w_nilCheck rfl rfl rfl ⟨rfl, rfl, rfl, rfl⟩) ?_
      refine any_take 10 rfl (by kernel_rfl) rfl (q_of fun D => w_fieldAddr rfl rfl fo35x1 rfl ⟨rfl, rfl, rfl, rfl⟩) ?_
      refine any_take 11 rfl (by kernel_rfl) rfl (q_of fun D => w_load1 rfl rfl lk3 rfl (atL 0 rfl rfl rfl) ⟨rfl, rfl, rfl, rfl⟩) ?_
      refine any_take 12 rfl (by kernel_rfl) rfl (q_of fun D => w_index rfl rfl Try.underlying9 rfl rfl (by omega) hc ⟨rfl, rfl, rfl, rfl⟩) ?_
      refine any_take 13 rfl (by kernel_rfl) rfl (q_of fun D => w_retB rfl rfl en23 rfl (nameByte_c _ _) ⟨rfl, rfl, rfl, rfl⟩) ?_
      refine any_take 14 rfl (by kernel_rfl) rfl (q_of fun D => w_pickT rfl rfl rfl rfl ⟨rfl, rfl, rfl, rfl⟩) ?_
      refine any_done (by kernel_rfl) (by kernel_rfl) ?_
      exact ⟨rfl, rfl, rfl, leafB rfl (by first | (rw [hc]; done) | (rw [List.getElem?_eq_none (by omega)])), ⟨rfl, rfl, trivial⟩⟩
    · try simp only [decide_eq_true_eq, decide_eq_false_iff_not, Bool.not_eq_true', Bool.not_eq_false', decide_not, Decidable.not_not, Int.not_lt, Int.not_le, ne_eq] at g1
      refine any_takeP 4 rfl (by kernel_rfl) rfl (fun D B L => w_pass rfl rfl ⟨rfl, rfl, rfl, rfl⟩) ?_
      refine any_take 5 rfl (by kernel_rfl) rfl (q_of fun D => w_pass rfl rfl ⟨rfl, rfl, rfl, rfl⟩) ?_
      refine any_take 6 rfl (by kernel_rfl) rfl (q_of fun D => w_pass rfl rfl ⟨rfl, rfl, rfl, rfl⟩) ?_
      refine any_take 7 rfl (by kernel_rfl) rfl (q_of fun D => w_pass rfl rfl ⟨rfl, rfl, rfl, rfl⟩) ?_
      refine any_takeP 8 rfl (by kernel_rfl) rfl (fun D B L => w_pass rfl rfl ⟨rfl, rfl, rfl, rfl⟩) ?_
      refine any_take 9 rfl (by kernel_rfl) rfl (q_of fun D => w_pass rfl rfl ⟨rfl, rfl, rfl, rfl⟩) ?_
      refine any_take 10 rfl (by kernel_rfl) rfl (q_of fun D => w_pass rfl rfl ⟨rfl, rfl, rfl, rfl⟩) ?_
      refine any_take 11 rfl (by kernel_rfl) rfl (q_of fun D => w_pass rfl rfl ⟨rfl, rfl, rfl, rfl⟩) ?_
      refine any_take 12 rfl (by kernel_rfl) rfl (q_of fun D => w_pass rfl rfl ⟨rfl, rfl, rfl, rfl⟩) ?_
      refine any_take 13 rfl (by kernel_rfl) rfl (q_of fun D => w_pass rfl rfl ⟨rfl, rfl, rfl, rfl⟩) ?_
      refine any_take 14 rfl (by kernel_rfl) rfl (q_of fun D => w_pickF rfl rfl rfl rfl ⟨rfl, rfl, rfl, rfl⟩) ?_
      refine any_done (by kernel_rfl) (by kernel_rfl) ?_
      exact ⟨rfl, rfl, rfl, leafB rfl (by first | (rw [hc]; done) | (rw [List.getElem?_eq_none (by omega)])), ⟨rfl, rfl, trivial⟩⟩
  refine w_keep [(0, _), (4, _), (24, _)] ⟨rfl, rfl, rfl, trivial⟩ ?_
  refine w_cond rfl (fun g2 => ?_) (fun g2 => ?_)
  · try simp only [decide_eq_true_eq, decide_eq_false_iff_not, Bool.not_eq_true', Bool.not_eq_false', decide_not, Decidable.not_not, Int.not_lt, Int.not_le, ne_eq] at g2
    refine w_skip ?_
    refine thn_n ?_
    refine w_block ?_
    refine w_region ?_
    refine opW_x (w_move rfl rfl rfl ?_)
    refine opW_x (w_nilCheck rfl rfl rfl ?_)
    refine opW_x (w_fieldAddr rfl rfl fo35x1 rfl ?_)
    refine opW_x (w_load1 rfl rfl lk3 rfl (atL 0 rfl rfl rfl) ?_)
    refine opW_x (w_add rfl rfl rfl rfl (by first | exact wrI64 (by omega) (by omega) | rfl) ?_)
    refine opW_x (w_nilCheck rfl rfl rfl ?_)
    refine opW_x (w_fieldAddr rfl rfl fo35x1 rfl ?_)
    refine opW_x (w_store [_] 0 [_, _] rfl rfl sz3 rfl rfl rfl rfl rfl rfl rfl rfl ?_)
    refine inB_n ?_
    obtain ⟨c, hc, hn⟩ := some_true g2
    exact rnd_n (k + 1) (by have := lt_of_get hc; omega) ⟨rfl, by have := lt_of_get hc; omega, all_step (by simpa using hc) hn ha⟩ ⟨rfl, rfl, trivial⟩ rfl
  · try simp only [decide_eq_true_eq, decide_eq_false_iff_not, Bool.not_eq_true', Bool.not_eq_false', decide_not, Decidable.not_not, Int.not_lt, Int.not_le, ne_eq] at g2
    have hw : word l i = (l.drop i).take k := word_end ha (fun c hc => by rw [hc] at g2; exact g2)
    have hwl : (word l i).length = k := by rw [hw, List.length_take, List.length_drop]; omega
    refine w_exit (thn_x (rnd_x (inB_hit (thn_n ?_))))
    refine w_seq_region ?_
    refine opW_x (w_move rfl rfl rfl ?_)
    refine opW_x (w_nilCheck rfl rfl rfl ?_)
    refine opW_x (w_fieldAddr rfl rfl fo35x1 rfl ?_)
    refine opW_x (w_load1 rfl rfl lk3 rfl (atL 0 rfl rfl rfl) ?_)
    refine opW_x (w_move rfl rfl rfl ?_)
    refine opW_x (w_sub rfl rfl rfl rfl (by first | exact wrI64 (by omega) (by omega) | rfl) ?_)
    refine opW_x (w_assign rfl rfl rfl ?_)
    refine w_keep [(0, _), (4, _), (5, _), (24, _)] ⟨rfl, rfl, rfl, rfl, trivial⟩ ?_
    refine w_seq ?_
    refine w_draw (same _ _) mo (by kernel_rfl) ⟨rfl, rfl⟩ ?_
    refine any_takeP 0 rfl (by kernel_rfl) rfl (fun D B L => w_move rfl rfl rfl ⟨rfl, rfl, rfl, rfl⟩) ?_
    refine any_take 1 rfl (by kernel_rfl) rfl (q_of fun D => w_nilCheck rfl rfl rfl ⟨rfl, rfl, rfl, rfl⟩) ?_
    refine any_take 2 rfl (by kernel_rfl) rfl (q_of fun D => w_fieldAddr rfl rfl fo35x0 rfl ⟨rfl, rfl, rfl, rfl⟩) ?_
    refine any_take 3 rfl (by kernel_rfl) rfl (q_of fun D => w_load1 rfl rfl lk9 rfl (atL 0 rfl rfl rfl) ⟨rfl, rfl, rfl, rfl⟩) ?_
    refine any_takeP 4 rfl (by kernel_rfl) rfl (fun D B L => w_move rfl rfl rfl ⟨rfl, rfl, rfl, rfl⟩) ?_
    refine any_takeP 5 rfl (by kernel_rfl) rfl (fun D B L => w_move rfl rfl rfl ⟨rfl, rfl, rfl, rfl⟩) ?_
    refine any_take 6 rfl (by kernel_rfl) rfl (q_of fun D => w_nilCheck rfl rfl rfl ⟨rfl, rfl, rfl, rfl⟩) ?_
    refine any_take 7 rfl (by kernel_rfl) rfl (q_of fun D => w_fieldAddr rfl rfl fo35x1 rfl ⟨rfl, rfl, rfl, rfl⟩) ?_
    refine any_take 8 rfl (by kernel_rfl) rfl (q_of fun D => w_load1 rfl rfl lk3 rfl (atL 0 rfl rfl rfl) ⟨rfl, rfl, rfl, rfl⟩) ?_
    refine any_take 9 rfl (by kernel_rfl) rfl (q_of fun D => w_sliceS rfl rfl Try.underlying9 rfl (a := i) (b := i + k) ⟨_, _, rfl, rfl⟩ ⟨_, _, rfl, by omega⟩ (by omega) (by omega) ⟨rfl, rfl, rfl, rfl⟩) ?_
    refine any_takeP 10 rfl (by kernel_rfl) rfl (fun D B L => w_move rfl rfl rfl ⟨rfl, rfl, rfl, rfl⟩) ?_
    refine any_take 11 rfl (by kernel_rfl) rfl (q_of fun D => w_geq rfl rfl rfl rfl ⟨rfl, rfl, rfl, rfl⟩) ?_
    refine any_takeP 12 rfl (by kernel_rfl) rfl (fun D B L => w_move rfl rfl rfl ⟨rfl, rfl, rfl, rfl⟩) ?_
    refine a_split (d := 50) rfl (fun g1 => ?_) (fun g1 => ?_)
    · try simp only [decide_eq_true_eq, decide_eq_false_iff_not, Bool.not_eq_true', Bool.not_eq_false', decide_not, Decidable.not_not, Int.not_lt, Int.not_le, ne_eq] at g1
      refine any_takeP 13 rfl (by kernel_rfl) rfl (fun D B L => w_move rfl rfl rfl ⟨rfl, rfl, rfl, rfl⟩) ?_
      refine any_take 14 rfl (by kernel_rfl) rfl (q_of fun D => w_leq rfl rfl rfl rfl ⟨rfl, rfl, rfl, rfl⟩) ?_
      refine any_take 15 rfl (by kernel_rfl) rfl (q_of fun D => w_pickT rfl rfl rfl rfl ⟨rfl, rfl, rfl, rfl⟩) ?_
      refine any_takeP 16 rfl (by kernel_rfl) rfl (fun D B L => w_assign rfl rfl rfl ⟨rfl, rfl, rfl, rfl⟩) ?_
      refine any_takeP 17 rfl (by kernel_rfl) rfl (fun D B L => w_assign rfl rfl rfl ⟨rfl, rfl, rfl, rfl⟩) ?_
      refine any_done (by kernel_rfl) (by kernel_rfl) ?_
      refine thn_n ?_
      refine w_keep [(0, _), (2, _), (3, _), (4, _), (5, _), (24, _)] ⟨rfl, rfl, rfl, rfl, rfl, rfl, trivial⟩ ?_
      refine w_ret ?_
      exact end1 .ret (.inl rfl) [_, _] 0 rfl ⟨rfl, rfl, trivial⟩ ⟨two_eq (by rw [drop_take_word, hw]) (bool_eq (by rw [Bool.eq_iff_iff]; simp [wordOk, hwl]; omega)), rfl, by rw [hwl]⟩
    · try simp only [decide_eq_true_eq, decide_eq_false_iff_not, Bool.not_eq_true', Bool.not_eq_false', decide_not, Decidable.not_not, Int.not_lt, Int.not_le, ne_eq] at g1
      refine any_takeP 13 rfl (by kernel_rfl) rfl (fun D B L => w_pass rfl rfl ⟨rfl, rfl, rfl, rfl⟩) ?_
      refine any_take 14 rfl (by kernel_rfl) rfl (q_of fun D => w_pass rfl rfl ⟨rfl, rfl, rfl, rfl⟩) ?_
      refine any_take 15 rfl (by kernel_rfl) rfl (q_of fun D => w_pickF rfl rfl rfl rfl ⟨rfl, rfl, rfl, rfl⟩) ?_
      refine any_takeP 16 rfl (by kernel_rfl) rfl (fun D B L => w_assign rfl rfl rfl ⟨rfl, rfl, rfl, rfl⟩) ?_
      refine any_takeP 17 rfl (by kernel_rfl) rfl (fun D B L => w_assign rfl rfl rfl ⟨rfl, rfl, rfl, rfl⟩) ?_
      refine any_done (by kernel_rfl) (by kernel_rfl) ?_
      refine thn_n ?_
      refine w_keep [(0, _), (2, _), (3, _), (4, _), (5, _), (24, _)] ⟨rfl, rfl, rfl, rfl, rfl, rfl, trivial⟩ ?_
      refine w_ret ?_
      exact end1 .ret (.inl rfl) [_, _] 0 rfl ⟨rfl, rfl, trivial⟩ ⟨two_eq (by rw [drop_take_word, hw]) (bool_eq (by rw [Bool.eq_iff_iff]; simp [wordOk, hwl]; omega)), rfl, by rw [hwl]⟩

set_option maxRecDepth 4000 in
set_option maxHeartbeats 400000 in
theorem domain_c (b : Nat) (l : List UInt8) (i : Nat) (hi : i ≤ l.length) (hl : l.length ≤ 2000000) (B : Kn) : Upd1 Try.prog 25 [ptr ⟨b, 0, none⟩] B (cur b l i) (.tuple #[str (domText l i), .bool (domOk l i)]) (cur b l (dom l i).2) := by
  refine callsB_body 53 Try.func25 rfl rfl rfl (Nat.le_of_ble_eq_true rfl) ?_
  refine w_seq_region ?_
  refine opW_x (w_assign rfl rfl rfl ?_)
  refine opW_x (w_assign rfl rfl rfl ?_)
  refine w_keep [(0, _), (2, _), (3, _)] ⟨rfl, rfl, rfl, trivial⟩ ?_
  refine w_seq_region ?_
  refine opW_x (w_move rfl rfl rfl ?_)
  refine opW_x (w_nilCheck rfl rfl rfl ?_)
  refine opW_x (w_fieldAddr rfl rfl fo35x1 rfl ?_)
  refine opW_x (w_load1 rfl rfl lk3 rfl (atL 0 rfl rfl rfl) ?_)
  refine opW_x (w_assign rfl rfl rfl ?_)
  refine w_keep [(0, _), (2, _), (3, _), (4, _)] ⟨rfl, rfl, rfl, rfl, trivial⟩ ?_
  refine w_seq ?_
  refine w_seq_region ?_
  refine opW_x (w_move rfl rfl rfl ?_)
  refine opW_x (w_upd1 0 rfl rfl rfl en14 rfl (name_c _ _ _ (by omega) (by omega) _) ?_)
  refine opW_x (w_move rfl rfl rfl ?_)
  refine opW_x (w_extract rfl rfl rfl rfl ?_)
  refine opW_x (w_extract rfl rfl rfl rfl ?_)
  refine opW_x (w_assign rfl rfl rfl ?_)
  refine opW_x (w_assign rfl rfl rfl ?_)
  refine w_tidy [(0, _), (2, _), (3, _), (4, _), (6, _)] [_] ⟨rfl, rfl, rfl, rfl, rfl, trivial⟩ rfl ?_
  refine w_seq_region ?_
  refine opW_x (w_move rfl rfl rfl ?_)
  refine opW_x (w_not rfl rfl rfl ?_)
  refine w_keep [(0, _), (2, _), (3, _), (4, _), (6, _), (20, _)] ⟨rfl, rfl, rfl, rfl, rfl, rfl, trivial⟩ ?_
  refine w_cond rfl (fun g1 => ?_) (fun g1 => ?_)
  · try simp only [decide_eq_true_eq, decide_eq_false_iff_not, Bool.not_eq_true', Bool.not_eq_false', decide_not, Decidable.not_not, Int.not_lt, Int.not_le, ne_eq] at g1
    refine w_seq_region ?_
    refine opW_x (w_assign rfl rfl rfl ?_)
    refine opW_x (w_assign rfl rfl rfl ?_)
    refine w_keep [(0, _), (2, _), (3, _), (4, _), (6, _), (20, _)] ⟨rfl, rfl, rfl, rfl, rfl, rfl, trivial⟩ ?_
    refine w_ret (thn_r ?_)
    exact end1 .ret (.inl rfl) [_, _] 0 rfl ⟨rfl, rfl, trivial⟩ ⟨two_eq (by simp [domText, dom_bad g1]) (bool_eq (by simp [domOk, dom_bad g1])), rfl, by rw [dom_bad g1]⟩
  · try simp only [decide_eq_true_eq, decide_eq_false_iff_not, Bool.not_eq_true', Bool.not_eq_false', decide_not, Decidable.not_not, Int.not_lt, Int.not_le, ne_eq] at g1
    refine w_skip ?_
    refine thn_n ?_
    refine w_seq ?_
    refine w_seq_region ?_
    refine opW_x (w_assign rfl rfl rfl ?_)
    refine w_keep [(0, _), (2, _), (3, _), (4, _), (6, _), (7, _), (20, _)] ⟨rfl, rfl, rfl, rfl, rfl, rfl, rfl, trivial⟩ ?_
    refine w_block ?_
    refine w_loop (α := Nat × Nat) (fun x => [(0, ptr ⟨b, 0, none⟩), (4, .int .i64 i), (7, .int .i64 x.1)]) (fun x => [cur b l x.2]) (fun x Bx => Bx = B ∧ 1 ≤ x.1 ∧ x.1 ≤ 3 ∧ i ≤ x.2 ∧ x.2 ≤ l.length ∧ dom l i = more (3 - x.1) l x.2) (fun x => 3 - x.1) (1, i + (word l i).length) ⟨rfl, rfl, rfl, trivial⟩ rfl (⟨rfl, by omega, by omega, by omega, word_le hi, dom_good g1⟩) (fun x B1 hle1 hI => ?_)
    obtain ⟨rfl, hk1, hk3, hix, hxl, hd⟩ := hI
    refine w_seq ?_
    refine w_seq_region ?_
    refine opW_x (w_move rfl rfl rfl ?_)
    refine opW_x (w_lss rfl rfl rfl rfl ?_)
    refine opW_x (w_move rfl rfl rfl ?_)
    refine r_split (d := 23) rfl (fun g2 => ?_) (fun g2 => ?_)
    · try simp only [decide_eq_true_eq, decide_eq_false_iff_not, Bool.not_eq_true', Bool.not_eq_false', decide_not, Decidable.not_not, Int.not_lt, Int.not_le, ne_eq] at g2
      refine opW_x (w_move rfl rfl rfl ?_)
      refine opW_x (w_upd1 0 rfl rfl rfl en24 rfl (take_c _ _ _ (by omega) (by omega) 46 _) ?_)
      refine opW_x (w_pickT rfl rfl rfl rfl ?_)
      refine w_tidy [(0, _), (4, _), (7, _), (26, _)] [_] ⟨rfl, rfl, rfl, rfl, trivial⟩ rfl ?_
      refine w_cond rfl (fun g3 => ?_) (fun g3 => ?_)
      · try simp only [decide_eq_true_eq, decide_eq_false_iff_not, Bool.not_eq_true', Bool.not_eq_false', decide_not, Decidable.not_not, Int.not_lt, Int.not_le, ne_eq] at g3
        rw [if_pos g3]
        have hx2 := lt_of_get g3
        refine w_skip ?_
        refine thn_n ?_
        refine w_seq ?_
        refine w_block ?_
        refine w_seq_region ?_
        refine opW_x (w_move rfl rfl rfl ?_)
        refine opW_x (w_upd1 0 rfl rfl rfl en14 rfl (name_c _ _ _ (by omega) (by omega) _) ?_)
        refine opW_x (w_move rfl rfl rfl ?_)
        refine opW_x (w_extract rfl rfl rfl rfl ?_)
        refine opW_x (w_extract rfl rfl rfl rfl ?_)
        refine opW_x (w_assign rfl rfl rfl ?_)
        refine opW_x (w_assign rfl rfl rfl ?_)
        refine w_tidy [(0, _), (4, _), (7, _), (9, _), (26, _)] [_] ⟨rfl, rfl, rfl, rfl, rfl, trivial⟩ rfl ?_
        refine w_seq_region ?_
        refine opW_x (w_move rfl rfl rfl ?_)
        refine opW_x (w_not rfl rfl rfl ?_)
        refine w_keep [(0, _), (4, _), (7, _), (9, _), (26, _), (35, _)] ⟨rfl, rfl, rfl, rfl, rfl, rfl, trivial⟩ ?_
        refine w_cond rfl (fun g4 => ?_) (fun g4 => ?_)
        · try simp only [decide_eq_true_eq, decide_eq_false_iff_not, Bool.not_eq_true', Bool.not_eq_false', decide_not, Decidable.not_not, Int.not_lt, Int.not_le, ne_eq] at g4
          refine w_seq_region ?_
          refine opW_x (w_assign rfl rfl rfl ?_)
          refine opW_x (w_assign rfl rfl rfl ?_)
          refine w_keep [(0, _), (2, _), (3, _), (4, _), (7, _), (9, _), (26, _), (35, _)] ⟨rfl, rfl, rfl, rfl, rfl, rfl, rfl, rfl, trivial⟩ ?_
          refine w_ret (inB_r (thn_r (rnd_r (inB_r (thn_r ?_)))))
          have hdd := hd.trans (more_bad (by omega) g3 g4)
          exact end1 .ret (.inl rfl) [_, _] 0 rfl ⟨rfl, rfl, trivial⟩ ⟨two_eq (by simp [domText, hdd]) (bool_eq (by simp [domOk, hdd])), rfl, by rw [hdd]⟩
        · try simp only [decide_eq_true_eq, decide_eq_false_iff_not, Bool.not_eq_true', Bool.not_eq_false', decide_not, Decidable.not_not, Int.not_lt, Int.not_le, ne_eq] at g4
          refine w_skip ?_
          refine inB_n (thn_n ?_)
          refine w_region ?_
          refine opW_x (w_move rfl rfl rfl ?_)
          refine opW_x (w_add rfl rfl rfl rfl (by first | exact wrI64 (by omega) (by omega) | rfl) ?_)
          refine opW_x (w_assign rfl rfl rfl ?_)
          exact rnd_n (x.1 + 1, x.2 + 1 + (word l (x.2 + 1)).length) (by simp only []; omega) ⟨rfl, by simp only []; omega, by simp only []; omega, by simp only []; omega, word_le (by omega), by rw [hd, more_good (by omega) g3 g4]; rw [show 3 - (x.1 + 1) = 3 - x.1 - 1 from by omega]⟩ ⟨rfl, rfl, rfl, trivial⟩ rfl
      · try simp only [decide_eq_true_eq, decide_eq_false_iff_not, Bool.not_eq_true', Bool.not_eq_false', decide_not, Decidable.not_not, Int.not_lt, Int.not_le, ne_eq] at g3
        rw [if_neg g3]
        replace hd := hd.trans (more_stop g3)
        refine w_exit (thn_x (rnd_x (inB_hit (thn_n ?_))))
        refine w_seq ?_
        refine w_draw (same _ _) mo (by kernel_rfl) ⟨rfl, rfl⟩ ?_
        refine any_takeP 0 rfl (by kernel_rfl) rfl (fun D B L => w_move rfl rfl rfl ⟨rfl, rfl, rfl, rfl⟩) ?_
        refine any_take 1 rfl (by kernel_rfl) rfl (q_of fun D => w_nilCheck rfl rfl rfl ⟨rfl, rfl, rfl, rfl⟩) ?_
        refine any_take 2 rfl (by kernel_rfl) rfl (q_of fun D => w_fieldAddr rfl rfl fo35x0 rfl ⟨rfl, rfl, rfl, rfl⟩) ?_
        refine any_take 3 rfl (by kernel_rfl) rfl (q_of fun D => w_load1 rfl rfl lk9 rfl (atL 0 rfl rfl rfl) ⟨rfl, rfl, rfl, rfl⟩) ?_
        refine any_takeP 4 rfl (by kernel_rfl) rfl (fun D B L => w_move rfl rfl rfl ⟨rfl, rfl, rfl, rfl⟩) ?_
        refine any_takeP 5 rfl (by kernel_rfl) rfl (fun D B L => w_move rfl rfl rfl ⟨rfl, rfl, rfl, rfl⟩) ?_
        refine any_take 6 rfl (by kernel_rfl) rfl (q_of fun D => w_nilCheck rfl rfl rfl ⟨rfl, rfl, rfl, rfl⟩) ?_
        refine any_take 7 rfl (by kernel_rfl) rfl (q_of fun D => w_fieldAddr rfl rfl fo35x1 rfl ⟨rfl, rfl, rfl, rfl⟩) ?_
        refine any_take 8 rfl (by kernel_rfl) rfl (q_of fun D => w_load1 rfl rfl lk3 rfl (atL 0 rfl rfl rfl) ⟨rfl, rfl, rfl, rfl⟩) ?_
        refine any_take 9 rfl (by kernel_rfl) rfl (q_of fun D => w_sliceS rfl rfl Try.underlying9 rfl (a := i) (b := x.2) ⟨_, _, rfl, rfl⟩ ⟨_, _, rfl, rfl⟩ (by omega) (by omega) ⟨rfl, rfl, rfl, rfl⟩) ?_
        refine any_takeP 10 rfl (by kernel_rfl) rfl (fun D B L => w_move rfl rfl rfl ⟨rfl, rfl, rfl, rfl⟩) ?_
        refine any_take 11 rfl (by kernel_rfl) rfl (q_of fun D => w_nilCheck rfl rfl rfl ⟨rfl, rfl, rfl, rfl⟩) ?_
        refine any_take 12 rfl (by kernel_rfl) rfl (q_of fun D => w_fieldAddr rfl rfl fo35x1 rfl ⟨rfl, rfl, rfl, rfl⟩) ?_
        refine any_take 13 rfl (by kernel_rfl) rfl (q_of fun D => w_load1 rfl rfl lk3 rfl (atL 0 rfl rfl rfl) ⟨rfl, rfl, rfl, rfl⟩) ?_
        refine any_takeP 14 rfl (by kernel_rfl) rfl (fun D B L => w_move rfl rfl rfl ⟨rfl, rfl, rfl, rfl⟩) ?_
        refine any_take 15 rfl (by kernel_rfl) rfl (q_of fun D => w_sub rfl rfl rfl rfl (by first | exact wrI64 (by omega) (by omega) | rfl) ⟨rfl, rfl, rfl, rfl⟩) ?_
        refine any_take 16 rfl (by kernel_rfl) rfl (q_of fun D => w_leq rfl rfl rfl rfl ⟨rfl, rfl, rfl, rfl⟩) ?_
        refine any_takeP 17 rfl (by kernel_rfl) rfl (fun D B L => w_assign rfl rfl rfl ⟨rfl, rfl, rfl, rfl⟩) ?_
        refine any_takeP 18 rfl (by kernel_rfl) rfl (fun D B L => w_assign rfl rfl rfl ⟨rfl, rfl, rfl, rfl⟩) ?_
        refine any_done (by kernel_rfl) (by kernel_rfl) ?_
        refine thn_n ?_
        refine w_keep [(0, _), (2, _), (3, _), (4, _), (7, _), (26, _)] ⟨rfl, rfl, rfl, rfl, rfl, rfl, trivial⟩ ?_
        refine w_ret ?_
        exact end1 .ret (.inl rfl) [_, _] 0 rfl ⟨rfl, rfl, trivial⟩ ⟨two_eq (by simp [domText, hd]) (bool_eq (by rw [Bool.eq_iff_iff]; simp [domOk, hd]; omega)), rfl, by rw [hd]⟩
    · try simp only [decide_eq_true_eq, decide_eq_false_iff_not, Bool.not_eq_true', Bool.not_eq_false', decide_not, Decidable.not_not, Int.not_lt, Int.not_le, ne_eq] at g2
      replace hd : dom l i = (true, x.2) := hd.trans (by rw [show 3 - x.1 = 0 from by omega]; rfl)
      refine opW_x (w_pass rfl rfl ?_)
      refine opW_x (w_pass rfl rfl ?_)
      refine opW_x (w_pickF rfl rfl rfl rfl ?_)
      refine w_keep [(0, _), (4, _), (7, _), (26, _)] ⟨rfl, rfl, rfl, rfl, trivial⟩ ?_
      refine w_cond (t := false) rfl (fun h => Bool.noConfusion h) (fun _ => ?_)
      refine w_exit (thn_x (rnd_x (inB_hit (thn_n ?_))))
      refine w_seq ?_
      refine w_draw (same _ _) mo (by kernel_rfl) ⟨rfl, rfl⟩ ?_
      refine any_takeP 0 rfl (by kernel_rfl) rfl (fun D B L => w_move rfl rfl rfl ⟨rfl, rfl, rfl, rfl⟩) ?_
      refine any_take 1 rfl (by kernel_rfl) rfl (q_of fun D => w_nilCheck rfl rfl rfl ⟨rfl, rfl, rfl, rfl⟩) ?_
      refine any_take 2 rfl (by kernel_rfl) rfl (q_of fun D => w_fieldAddr rfl rfl fo35x0 rfl ⟨rfl, rfl, rfl, rfl⟩) ?_
      refine any_take 3 rfl (by kernel_rfl) rfl (q_of fun D => w_load1 rfl rfl lk9 rfl (atL 0 rfl rfl rfl) ⟨rfl, rfl, rfl, rfl⟩) ?_
      refine any_takeP 4 rfl (by kernel_rfl) rfl (fun D B L => w_move rfl rfl rfl ⟨rfl, rfl, rfl, rfl⟩) ?_
      refine any_takeP 5 rfl (by kernel_rfl) rfl (fun D B L => w_move rfl rfl rfl ⟨rfl, rfl, rfl, rfl⟩) ?_
      refine any_take 6 rfl (by kernel_rfl) rfl (q_of fun D => w_nilCheck rfl rfl rfl ⟨rfl, rfl, rfl, rfl⟩) ?_
      refine any_take 7 rfl (by kernel_rfl) rfl (q_of fun D => w_fieldAddr rfl rfl fo35x1 rfl ⟨rfl, rfl, rfl, rfl⟩) ?_
      refine any_take 8 rfl (by kernel_rfl) rfl (q_of fun D => w_load1 rfl rfl lk3 rfl (atL 0 rfl rfl rfl) ⟨rfl, rfl, rfl, rfl⟩) ?_
      refine any_take 9 rfl (by kernel_rfl) rfl (q_of fun D => w_sliceS rfl rfl Try.underlying9 rfl (a := i) (b := x.2) ⟨_, _, rfl, rfl⟩ ⟨_, _, rfl, rfl⟩ (by omega) (by omega) ⟨rfl, rfl, rfl, rfl⟩) ?_
      refine any_takeP 10 rfl (by kernel_rfl) rfl (fun D B L => w_move rfl rfl rfl ⟨rfl, rfl, rfl, rfl⟩) ?_
      refine any_take 11 rfl (by kernel_rfl) rfl (q_of fun D => w_nilCheck rfl rfl rfl ⟨rfl, rfl, rfl, rfl⟩) ?_
      refine any_take 12 rfl (by kernel_rfl) rfl (q_of fun D => w_fieldAddr rfl rfl fo35x1 rfl ⟨rfl, rfl, rfl, rfl⟩) ?_
      refine any_take 13 rfl (by kernel_rfl) rfl (q_of fun D => w_load1 rfl rfl lk3 rfl (atL 0 rfl rfl rfl) ⟨rfl, rfl, rfl, rfl⟩) ?_
      refine any_takeP 14 rfl (by kernel_rfl) rfl (fun D B L => w_move rfl rfl rfl ⟨rfl, rfl, rfl, rfl⟩) ?_
      refine any_take 15 rfl (by kernel_rfl) rfl (q_of fun D => w_sub rfl rfl rfl rfl (by first | exact wrI64 (by omega) (by omega) | rfl) ⟨rfl, rfl, rfl, rfl⟩) ?_
      refine any_take 16 rfl (by kernel_rfl) rfl (q_of fun D => w_leq rfl rfl rfl rfl ⟨rfl, rfl, rfl, rfl⟩) ?_
      refine any_takeP 17 rfl (by kernel_rfl) rfl (fun D B L => w_assign rfl rfl rfl ⟨rfl, rfl, rfl, rfl⟩) ?_
      refine any_takeP 18 rfl (by kernel_rfl) rfl (fun D B L => w_assign rfl rfl rfl ⟨rfl, rfl, rfl, rfl⟩) ?_
      refine any_done (by kernel_rfl) (by kernel_rfl) ?_
      refine thn_n ?_
      refine w_keep [(0, _), (2, _), (3, _), (4, _), (7, _), (26, _)] ⟨rfl, rfl, rfl, rfl, rfl, rfl, trivial⟩ ?_
      refine w_ret ?_
      exact end1 .ret (.inl rfl) [_, _] 0 rfl ⟨rfl, rfl, trivial⟩ ⟨two_eq (by simp [domText, hd]) (bool_eq (by rw [Bool.eq_iff_iff]; simp [domOk, hd]; omega)), rfl, by rw [hd]⟩

abbrev rd (b : Nat) (q : Option Addr) (m cp p : Nat) : Cells := box1 b [.slice q m cp, .int .i64 p] 47
set_option maxRecDepth 4000 in
set_option maxHeartbeats 400000 in
theorem l6Open_c (q : Option Addr) (m cp : Nat) (hmc : m ≤ cp) (B : Kn) (hb : BytesAt B q m) : New1 Try.prog 13 [.slice q m cp] B (fun v s => ∃ b q m cp, v = ptr ⟨b, 0, none⟩ ∧ s = rd b q m cp 0 ∧ m ≤ 2000 ∧ BytesAt B q m) := by
  refine callsB_body 11 Try.func13 rfl rfl rfl (Nat.le_of_ble_eq_true rfl) ?_
  refine w_seq_region ?_
  refine opW_x (w_assign rfl rfl rfl ?_)
  refine w_keep [(0, _), (2, _)] ⟨rfl, rfl, trivial⟩ ?_
  refine w_seq ?_
  refine w_seq_region ?_
  refine opW_x (w_move rfl rfl rfl ?_)
  refine opW_x (w_lenV rfl rfl Try.underlying22 rfl ?_)
  refine opW_x (w_gtr rfl rfl rfl rfl ?_)
  refine w_keep [(0, _), (2, _), (5, _)] ⟨rfl, rfl, rfl, trivial⟩ ?_
  refine w_cond rfl (fun g1 => ?_) (fun g1 => ?_)
  · try simp only [decide_eq_true_eq, decide_eq_false_iff_not, Bool.not_eq_true', Bool.not_eq_false', decide_not, Decidable.not_not, Int.not_lt, Int.not_le, ne_eq] at g1
    refine w_region ?_
    refine opW_x (w_move rfl rfl rfl ?_)
    refine opW_x (w_sliceV rfl rfl Try.underlying22 sz5 rfl (a := 0) (b := 2000) rfl ⟨_, _, rfl, rfl⟩ (by omega) (by omega) ?_)
    refine opW_x (w_assign rfl rfl rfl ?_)
    refine thn_n ?_
    refine w_seq_region ?_
    refine opW_x (w_move rfl rfl rfl ?_)
    refine opW_x (w_build (parts := [(0, _)]) [_, _] [_, _] rfl rfl pl47 zo47 rfl rfl rfl ?_)
    refine opW_x (w_box (l := [_, _]) rfl rfl rfl rfl (fun b0 => ?_))
    refine opW_x (w_assign rfl rfl rfl ?_)
    refine w_tidy [(0, _), (2, _), (5, _)] [_] ⟨rfl, rfl, rfl, trivial⟩ rfl ?_
    refine w_ret ?_
    exact end1 .ret (.inl rfl) [_] 0 rfl ⟨rfl, trivial⟩ ⟨rfl, _, rfl, _, _, _, _, rfl, rfl, by omega, hb.take (by omega)⟩
  · try simp only [decide_eq_true_eq, decide_eq_false_iff_not, Bool.not_eq_true', Bool.not_eq_false', decide_not, Decidable.not_not, Int.not_lt, Int.not_le, ne_eq] at g1
    refine w_skip ?_
    refine thn_n ?_
    refine w_seq_region ?_
    refine opW_x (w_move rfl rfl rfl ?_)
    refine opW_x (w_build (parts := [(0, _)]) [_, _] [_, _] rfl rfl pl47 zo47 rfl rfl rfl ?_)
    refine opW_x (w_box (l := [_, _]) rfl rfl rfl rfl (fun b0 => ?_))
    refine opW_x (w_assign rfl rfl rfl ?_)
    refine w_tidy [(0, _), (2, _), (5, _)] [_] ⟨rfl, rfl, rfl, trivial⟩ rfl ?_
    refine w_ret ?_
    exact end1 .ret (.inl rfl) [_] 0 rfl ⟨rfl, trivial⟩ ⟨rfl, _, rfl, _, _, _, _, rfl, rfl, by omega, hb⟩

set_option maxRecDepth 4000 in
set_option maxHeartbeats 400000 in
theorem pick_c (b : Nat) (q : Option Addr) (m cp p : Nat) (n : Int) (hp : p ≤ 1000000000000) (hn : 1 ≤ n) (hn2 : n ≤ 1000000000000) (hm : m ≤ 2000) (B : Kn) (hb : BytesAt B q m) : Ex1 Try.prog 18 [ptr ⟨b, 0, none⟩, .int .i64 n] B (rd b q m cp p) (fun v s => ∃ r : Int, v = .int .i64 r ∧ 0 ≤ r ∧ r < n ∧ s = rd b q m cp (p + 1)) := by
  refine callsB_body 99 Try.func18 rfl rfl rfl (Nat.le_of_ble_eq_true rfl) ?_
  refine w_seq_region ?_
  refine opW_x (w_assign rfl rfl rfl ?_)
  refine w_keep [(0, _), (1, _), (4, _)] ⟨rfl, rfl, rfl, trivial⟩ ?_
  refine w_seq_region ?_
  refine opW_x (w_move rfl rfl rfl ?_)
  refine opW_x (w_move rfl rfl rfl ?_)
  refine opW_x (w_nilCheck rfl rfl rfl ?_)
  refine opW_x (w_fieldAddr rfl rfl fo47x1 rfl ?_)
  refine opW_x (w_load1 rfl rfl lk3 rfl (atL 0 rfl rfl rfl) ?_)
  refine opW_x (w_add rfl rfl rfl rfl (by first | exact wrI64 (by omega) (by omega) | rfl) ?_)
  refine opW_x (w_nilCheck rfl rfl rfl ?_)
  refine opW_x (w_fieldAddr rfl rfl fo47x1 rfl ?_)
  refine opW_x (w_store [_] 0 [_, _] rfl rfl sz3 rfl rfl rfl rfl rfl rfl rfl rfl ?_)
  refine w_tidy [(0, _), (1, _), (4, _)] [_] ⟨rfl, rfl, rfl, trivial⟩ rfl ?_
  refine w_seq ?_
  refine w_seq_region ?_
  refine opW_x (w_move rfl rfl rfl ?_)
  refine opW_x (w_lss rfl rfl rfl rfl ?_)
  refine opW_x (w_move rfl rfl rfl ?_)
  refine r_split (d := 17) rfl (fun g1 => by have := of_decide_eq_true g1; omega) (fun g1 => ?_)
  try simp only [decide_eq_true_eq, decide_eq_false_iff_not, Bool.not_eq_true', Bool.not_eq_false', decide_not, Decidable.not_not, Int.not_lt, Int.not_le, ne_eq] at g1
  refine opW_x (w_move rfl rfl rfl ?_)
  refine opW_x (w_nilCheck rfl rfl rfl ?_)
  refine opW_x (w_fieldAddr rfl rfl fo47x0 rfl ?_)
  refine opW_x (w_load1 rfl rfl lk22 rfl (atL 0 rfl rfl rfl) ?_)
  refine opW_x (w_lenV rfl rfl Try.underlying22 rfl ?_)
  refine opW_x (w_eqlI rfl rfl rfl rfl ?_)
  refine opW_x (w_pickF rfl rfl rfl rfl ?_)
  refine w_keep [(0, _), (1, _), (4, _), (24, _)] ⟨rfl, rfl, rfl, rfl, trivial⟩ ?_
  refine w_cond rfl (fun g2 => ?_) (fun g2 => ?_)
  · try simp only [decide_eq_true_eq, decide_eq_false_iff_not, Bool.not_eq_true', Bool.not_eq_false', decide_not, Decidable.not_not, Int.not_lt, Int.not_le, ne_eq] at g2
    refine w_seq_region ?_
    refine opW_x (w_assign rfl rfl rfl ?_)
    refine w_keep [(0, _), (1, _), (4, _), (24, _)] ⟨rfl, rfl, rfl, rfl, trivial⟩ ?_
    refine w_ret (thn_r ?_)
    exact end1 .ret (.inl rfl) [_] 0 rfl ⟨rfl, trivial⟩ ⟨rfl, _, rfl, 0, rfl, by omega, by omega, rfl⟩
  · try simp only [decide_eq_true_eq, decide_eq_false_iff_not, Bool.not_eq_true', Bool.not_eq_false', decide_not, Decidable.not_not, Int.not_lt, Int.not_le, ne_eq] at g2
    have hm0 : 0 < m := by omega
    obtain ⟨a, rfl, hc⟩ := hb.at hm0
    refine w_skip ?_
    refine thn_n ?_
    refine w_seq_region ?_
    refine opW_x (w_move rfl rfl rfl ?_)
    refine opW_x (w_nilCheck rfl rfl rfl ?_)
    refine opW_x (w_fieldAddr rfl rfl fo47x1 rfl ?_)
    refine opW_x (w_load1 rfl rfl lk3 rfl (atL 0 rfl rfl rfl) ?_)
    refine opW_x (w_sub rfl rfl rfl rfl (by first | exact wrI64 (by omega) (by omega) | rfl) ?_)
    refine opW_x (w_assign rfl rfl rfl ?_)
    refine w_keep [(0, _), (1, _), (4, _), (5, _), (24, _)] ⟨rfl, rfl, rfl, rfl, rfl, trivial⟩ ?_
    refine w_seq ?_
    refine w_seq_region ?_
    refine opW_x (w_move rfl rfl rfl ?_)
    refine opW_x (w_move rfl rfl rfl ?_)
    refine opW_x (w_nilCheck rfl rfl rfl ?_)
    refine opW_x (w_fieldAddr rfl rfl fo47x0 rfl ?_)
    refine opW_x (w_load1 rfl rfl lk22 rfl (atL 0 rfl rfl rfl) ?_)
    refine opW_x (w_lenV rfl rfl Try.underlying22 rfl ?_)
    refine opW_x (w_lss rfl rfl rfl rfl ?_)
    refine w_keep [(0, _), (1, _), (4, _), (5, _), (24, _), (36, _)] ⟨rfl, rfl, rfl, rfl, rfl, rfl, trivial⟩ ?_
    refine w_cond rfl (fun g3 => ?_) (fun g3 => ?_)
    · try simp only [decide_eq_true_eq, decide_eq_false_iff_not, Bool.not_eq_true', Bool.not_eq_false', decide_not, Decidable.not_not, Int.not_lt, Int.not_le, ne_eq] at g3
      obtain ⟨z, hz, h1⟩ := hc (↑p + 1 - 1) (by omega) (by omega)
      refine w_seq_region ?_
      refine opW_x (w_move rfl rfl rfl ?_)
      refine opW_x (w_nilCheck rfl rfl rfl ?_)
      refine opW_x (w_fieldAddr rfl rfl fo47x0 rfl ?_)
      refine opW_x (w_load1 rfl rfl lk22 rfl (atL 0 rfl rfl rfl) ?_)
      refine opW_x (w_move rfl rfl rfl ?_)
      refine opW_x (w_indexAddr rfl rfl Try.underlying22 sz5 rfl rfl (by omega) (by omega) ?_)
      refine opW_x (w_load1 rfl rfl lk5 rfl (h1 _) ?_)
      refine opW_x (w_convI rfl rfl Try.underlying5 Try.underlying3 rfl (by first | exact wrI64 (by omega) (by omega) | rfl) ?_)
      refine opW_x (w_move rfl rfl rfl ?_)
      refine opW_x (w_rem rfl rfl rfl rfl (by omega) (by first | exact wrI64 (by omega) (by omega) | rfl) ?_)
      refine opW_x (w_assign rfl rfl rfl ?_)
      refine w_keep [(0, _), (1, _), (4, _), (5, _), (24, _), (36, _)] ⟨rfl, rfl, rfl, rfl, rfl, rfl, trivial⟩ ?_
      refine w_ret (thn_r ?_)
      exact end1 .ret (.inl rfl) [_] 0 rfl ⟨rfl, trivial⟩ ⟨rfl, _, rfl, _, rfl, Int.tmod_nonneg _ (by omega), Int.tmod_lt_of_pos _ (by omega), rfl⟩
    · try simp only [decide_eq_true_eq, decide_eq_false_iff_not, Bool.not_eq_true', Bool.not_eq_false', decide_not, Decidable.not_not, Int.not_lt, Int.not_le, ne_eq] at g3
      obtain ⟨z, hz, h1⟩ := hc (Int.tmod (↑p + 1 - 1) ↑m) (Int.tmod_nonneg _ (by omega)) (Int.tmod_lt_of_pos _ (by omega))
      obtain ⟨z2, hz2, h2⟩ := hc (Int.tmod ((↑p + 1 - 1) * 7 + 3) ↑m) (Int.tmod_nonneg _ (by omega)) (Int.tmod_lt_of_pos _ (by omega))
      have ht0 : 0 ≤ Int.tdiv (↑p + 1 - 1) ↑m := Int.tdiv_nonneg (by omega) (by omega)
      have ht1 : Int.tdiv (↑p + 1 - 1) ↑m ≤ ↑p + 1 - 1 := Int.tdiv_le_self _ (by omega)
      refine w_skip ?_
      refine thn_n ?_
      refine w_seq ?_
      refine w_draw (same _ _) mo (by kernel_rfl) ⟨rfl, rfl⟩ ?_
      refine any_takeP 0 rfl (by kernel_rfl) rfl (fun D B L => w_move rfl rfl rfl ⟨rfl, rfl, rfl, rfl⟩) ?_
      refine any_take 1 rfl (by kernel_rfl) rfl (q_of fun D => w_nilCheck rfl rfl rfl ⟨rfl, rfl, rfl, rfl⟩) ?_
      refine any_take 2 rfl (by kernel_rfl) rfl (q_of fun D => w_fieldAddr rfl rfl fo47x0 rfl ⟨rfl, rfl, rfl, rfl⟩) ?_
      refine any_take 3 rfl (by kernel_rfl) rfl (q_of fun D => w_load1 rfl rfl lk22 rfl (atL 0 rfl rfl rfl) ⟨rfl, rfl, rfl, rfl⟩) ?_
      refine any_takeP 4 rfl (by kernel_rfl) rfl (fun D B L => w_move rfl rfl rfl ⟨rfl, rfl, rfl, rfl⟩) ?_
      refine any_takeP 5 rfl (by kernel_rfl) rfl (fun D B L => w_move rfl rfl rfl ⟨rfl, rfl, rfl, rfl⟩) ?_
      refine any_take 6 rfl (by kernel_rfl) rfl (q_of fun D => w_nilCheck rfl rfl rfl ⟨rfl, rfl, rfl, rfl⟩) ?_
      refine any_take 7 rfl (by kernel_rfl) rfl (q_of fun D => w_fieldAddr rfl rfl fo47x0 rfl ⟨rfl, rfl, rfl, rfl⟩) ?_
      refine any_take 8 rfl (by kernel_rfl) rfl (q_of fun D => w_load1 rfl rfl lk22 rfl (atL 0 rfl rfl rfl) ⟨rfl, rfl, rfl, rfl⟩) ?_
      refine any_take 9 rfl (by kernel_rfl) rfl (q_of fun D => w_lenV rfl rfl Try.underlying22 rfl ⟨rfl, rfl, rfl, rfl⟩) ?_
      refine any_take 10 rfl (by kernel_rfl) rfl (q_of fun D => w_rem rfl rfl rfl rfl (by omega) (by first | exact wrI64 (by omega) (by omega) | rfl) ⟨rfl, rfl, rfl, rfl⟩) ?_
      refine any_take 11 rfl (by kernel_rfl) rfl (q_of fun D => w_indexAddr rfl rfl Try.underlying22 sz5 rfl rfl (Int.tmod_nonneg _ (by omega)) (Int.tmod_lt_of_pos _ (by omega)) ⟨rfl, rfl, rfl, rfl⟩) ?_
      refine any_take 12 rfl (by kernel_rfl) rfl (q_of fun D => w_load1 rfl rfl lk5 rfl (h1 _) ⟨rfl, rfl, rfl, rfl⟩) ?_
      refine any_take 13 rfl (by kernel_rfl) rfl (q_of fun D => w_convI rfl rfl Try.underlying5 Try.underlying3 rfl (by first | exact wrI64 (by omega) (by omega) | rfl) ⟨rfl, rfl, rfl, rfl⟩) ?_
      refine any_take 14 rfl (by kernel_rfl) rfl (q_of fun D => w_mul rfl rfl rfl rfl (by first | exact wrI64 (by omega) (by omega) | rfl) ⟨rfl, rfl, rfl, rfl⟩) ?_
      refine any_takeP 15 rfl (by kernel_rfl) rfl (fun D B L => w_move rfl rfl rfl ⟨rfl, rfl, rfl, rfl⟩) ?_
      refine any_take 16 rfl (by kernel_rfl) rfl (q_of fun D => w_nilCheck rfl rfl rfl ⟨rfl, rfl, rfl, rfl⟩) ?_
      refine any_take 17 rfl (by kernel_rfl) rfl (q_of fun D => w_fieldAddr rfl rfl fo47x0 rfl ⟨rfl, rfl, rfl, rfl⟩) ?_
      refine any_take 18 rfl (by kernel_rfl) rfl (q_of fun D => w_load1 rfl rfl lk22 rfl (atL 0 rfl rfl rfl) ⟨rfl, rfl, rfl, rfl⟩) ?_
      refine any_takeP 19 rfl (by kernel_rfl) rfl (fun D B L => w_move rfl rfl rfl ⟨rfl, rfl, rfl, rfl⟩) ?_
      refine any_take 20 rfl (by kernel_rfl) rfl (q_of fun D => w_mul rfl rfl rfl rfl (by first | exact wrI64 (by omega) (by omega) | rfl) ⟨rfl, rfl, rfl, rfl⟩) ?_
      refine any_take 21 rfl (by kernel_rfl) rfl (q_of fun D => w_add rfl rfl rfl rfl (by first | exact wrI64 (by omega) (by omega) | rfl) ⟨rfl, rfl, rfl, rfl⟩) ?_
      refine any_takeP 22 rfl (by kernel_rfl) rfl (fun D B L => w_move rfl rfl rfl ⟨rfl, rfl, rfl, rfl⟩) ?_
      refine any_take 23 rfl (by kernel_rfl) rfl (q_of fun D => w_nilCheck rfl rfl rfl ⟨rfl, rfl, rfl, rfl⟩) ?_
      refine any_take 24 rfl (by kernel_rfl) rfl (q_of fun D => w_fieldAddr rfl rfl fo47x0 rfl ⟨rfl, rfl, rfl, rfl⟩) ?_
      refine any_take 25 rfl (by kernel_rfl) rfl (q_of fun D => w_load1 rfl rfl lk22 rfl (atL 0 rfl rfl rfl) ⟨rfl, rfl, rfl, rfl⟩) ?_
      refine any_take 26 rfl (by kernel_rfl) rfl (q_of fun D => w_lenV rfl rfl Try.underlying22 rfl ⟨rfl, rfl, rfl, rfl⟩) ?_
      refine any_take 27 rfl (by kernel_rfl) rfl (q_of fun D => w_rem rfl rfl rfl rfl (by omega) (by first | exact wrI64 (by omega) (by omega) | rfl) ⟨rfl, rfl, rfl, rfl⟩) ?_
      refine any_take 28 rfl (by kernel_rfl) rfl (q_of fun D => w_indexAddr rfl rfl Try.underlying22 sz5 rfl rfl (Int.tmod_nonneg _ (by omega)) (Int.tmod_lt_of_pos _ (by omega)) ⟨rfl, rfl, rfl, rfl⟩) ?_
      refine any_take 29 rfl (by kernel_rfl) rfl (q_of fun D => w_load1 rfl rfl lk5 rfl (h2 _) ⟨rfl, rfl, rfl, rfl⟩) ?_
      refine any_take 30 rfl (by kernel_rfl) rfl (q_of fun D => w_convI rfl rfl Try.underlying5 Try.underlying3 rfl (by first | exact wrI64 (by omega) (by omega) | rfl) ⟨rfl, rfl, rfl, rfl⟩) ?_
      refine any_take 31 rfl (by kernel_rfl) rfl (q_of fun D => w_mul rfl rfl rfl rfl (by first | exact wrI64 (by omega) (by omega) | rfl) ⟨rfl, rfl, rfl, rfl⟩) ?_
      refine any_take 32 rfl (by kernel_rfl) rfl (q_of fun D => w_add rfl rfl rfl rfl (by first | exact wrI64 (by omega) (by omega) | rfl) ⟨rfl, rfl, rfl, rfl⟩) ?_
      refine any_takeP 33 rfl (by kernel_rfl) rfl (fun D B L => w_move rfl rfl rfl ⟨rfl, rfl, rfl, rfl⟩) ?_
      refine any_take 34 rfl (by kernel_rfl) rfl (q_of fun D => w_mul rfl rfl rfl rfl (by first | exact wrI64 (by omega) (by omega) | rfl) ⟨rfl, rfl, rfl, rfl⟩) ?_
      refine any_take 35 rfl (by kernel_rfl) rfl (q_of fun D => w_add rfl rfl rfl rfl (by first | exact wrI64 (by omega) (by omega) | rfl) ⟨rfl, rfl, rfl, rfl⟩) ?_
      refine any_takeP 36 rfl (by kernel_rfl) rfl (fun D B L => w_move rfl rfl rfl ⟨rfl, rfl, rfl, rfl⟩) ?_
      refine any_takeP 37 rfl (by kernel_rfl) rfl (fun D B L => w_move rfl rfl rfl ⟨rfl, rfl, rfl, rfl⟩) ?_
      refine any_take 38 rfl (by kernel_rfl) rfl (q_of fun D => w_nilCheck rfl rfl rfl ⟨rfl, rfl, rfl, rfl⟩) ?_
      refine any_take 39 rfl (by kernel_rfl) rfl (q_of fun D => w_fieldAddr rfl rfl fo47x0 rfl ⟨rfl, rfl, rfl, rfl⟩) ?_
      refine any_take 40 rfl (by kernel_rfl) rfl (q_of fun D => w_load1 rfl rfl lk22 rfl (atL 0 rfl rfl rfl) ⟨rfl, rfl, rfl, rfl⟩) ?_
      refine any_take 41 rfl (by kernel_rfl) rfl (q_of fun D => w_lenV rfl rfl Try.underlying22 rfl ⟨rfl, rfl, rfl, rfl⟩) ?_
      refine any_take 42 rfl (by kernel_rfl) rfl (q_of fun D => w_quo rfl rfl rfl rfl (by omega) (by first | exact wrI64 (by omega) (by omega) | rfl) ⟨rfl, rfl, rfl, rfl⟩) ?_
      refine any_take 43 rfl (by kernel_rfl) rfl (q_of fun D => w_mul rfl rfl rfl rfl (by first | exact wrI64 (by omega) (by omega) | rfl) ⟨rfl, rfl, rfl, rfl⟩) ?_
      refine any_take 44 rfl (by kernel_rfl) rfl (q_of fun D => w_add rfl rfl rfl rfl (by first | exact wrI64 (by omega) (by omega) | rfl) ⟨rfl, rfl, rfl, rfl⟩) ?_
      refine any_takeP 45 rfl (by kernel_rfl) rfl (fun D B L => w_assign rfl rfl rfl ⟨rfl, rfl, rfl, rfl⟩) ?_
      refine any_done (by kernel_rfl) (by kernel_rfl) ?_
      refine thn_n ?_
      refine w_keep [(0, _), (1, _), (4, _), (5, _), (6, _), (24, _), (36, _)] ⟨rfl, rfl, rfl, rfl, rfl, rfl, rfl, trivial⟩ ?_
      generalize hx : (↑z * 131 + ↑z2 * 1117 + (↑p + 1 - 1) * 29 + (↑p + 1 - 1 : Int).tdiv ↑m * 53 : Int) = x
      have hx0 : 0 ≤ x := by omega
      have hx1 : x < 1000000000000000 := by omega
      have hy0 : 0 ≤ Int.tdiv x 64 := Int.tdiv_nonneg (by omega) (by omega)
      have hy1 : Int.tdiv x 64 ≤ x := Int.tdiv_le_self _ (by omega)
      refine w_seq_region ?_
      refine opW_x (w_move rfl rfl rfl ?_)
      refine opW_x (w_move rfl rfl rfl ?_)
      refine opW_x (w_quo rfl rfl rfl rfl (by omega) (by first | exact wrI64 (by omega) (by omega) | rfl) ?_)
      refine opW_x (w_xor rfl rfl rfl rfl (by omega) (by omega) (by omega) (by omega) (fun y hy2 hy3 => ?_))
      refine opW_x (w_assign rfl rfl rfl ?_)
      refine w_keep [(0, _), (1, _), (4, _), (5, _), (6, _), (24, _), (36, _)] ⟨rfl, rfl, rfl, rfl, rfl, rfl, rfl, trivial⟩ ?_
      refine w_seq_region ?_
      refine opW_x (w_move rfl rfl rfl ?_)
      refine opW_x (w_move rfl rfl rfl ?_)
      refine opW_x (w_rem rfl rfl rfl rfl (by omega) (by first | exact wrI64 (by omega) (by omega) | rfl) ?_)
      refine opW_x (w_assign rfl rfl rfl ?_)
      refine w_keep [(0, _), (1, _), (4, _), (5, _), (6, _), (24, _), (36, _)] ⟨rfl, rfl, rfl, rfl, rfl, rfl, rfl, trivial⟩ ?_
      refine w_ret ?_
      exact end1 .ret (.inl rfl) [_] 0 rfl ⟨rfl, trivial⟩ ⟨rfl, _, rfl, _, rfl, Int.tmod_nonneg _ (by omega), Int.tmod_lt_of_pos _ (by omega), rfl⟩

set_option maxRecDepth 4000 in
set_option maxHeartbeats 400000 in
theorem of_c (b : Nat) (q : Option Addr) (m cp p : Nat) (b1 : Nat) (ls : List (List UInt8)) (hp : p ≤ 1000000000000) (hn : 1 ≤ ls.length) (hn2 : ls.length ≤ 1000000000000) (hm : m ≤ 2000) (B : Kn) (hbm : BytesAt B q m) : CallsB Try.prog 22 [ptr ⟨b, 0, none⟩, .slice (some ⟨b1, 0, none⟩) ls.length ls.length] B [rd b q m cp p, box1 b1 (ls.map str) 9] (fun v B' Ls => B' = B ∧ ∃ x, x ∈ ls ∧ v = str x ∧ Ls = [rd b q m cp (p + 1)]) := by
  refine callsB_body 12 Try.func22 rfl rfl rfl (Nat.le_of_ble_eq_true rfl) ?_
  skip
  refine w_seq_region ?_
  refine opW_x (w_assign rfl rfl rfl ?_)
  refine w_keep [(0, _), (1, _), (4, _)] ⟨rfl, rfl, rfl, trivial⟩ ?_
  refine w_seq_region ?_
  refine opW_x (w_move rfl rfl rfl ?_)
  refine opW_x (w_move rfl rfl rfl ?_)
  refine opW_x (w_move rfl rfl rfl ?_)
  refine opW_x (w_lenV rfl rfl Try.underlying42 rfl ?_)
  refine opW_x (w_ex1 0 rfl rfl rfl en18 rfl (pick_c _ _ _ _ _ _ (by omega) (by omega) (by omega) hm _ hbm) ?_)
  rintro _ _ ⟨r1, rfl, r1a, r1b, rfl⟩
  refine opW_x (w_indexAddr rfl rfl Try.underlying42 sz9 rfl rfl (by omega) (by omega) ?_)
  obtain ⟨x, hx⟩ : ∃ x, ls[r1.toNat]? = some x := ⟨_, List.getElem?_eq_getElem (by omega)⟩
  refine opW_x (w_load1 rfl rfl lk9 rfl (atElem 1 rfl (v := str x) (by rw [Nat.mul_one, List.getElem?_map, hx]; rfl)) ?_)
  refine opW_x (w_assign rfl rfl rfl ?_)
  refine w_tidy [(0, _), (1, _), (4, _)] [_, _] ⟨rfl, rfl, rfl, trivial⟩ rfl ?_
  refine w_ret ?_
  exact endN .ret (.inl rfl) [_] [0] rfl ⟨rfl, trivial⟩ ⟨rfl, x, List.mem_of_getElem? hx, rfl, rfl⟩

set_option maxRecDepth 4000 in
set_option maxHeartbeats 400000 in
theorem l91Name_c (b : Nat) (q : Option Addr) (m cp p : Nat) (hp : p ≤ 900000000000) (hm : m ≤ 2000) (B : Kn) (hbm : BytesAt B q m) : Ex1 Try.prog 12 [ptr ⟨b, 0, none⟩] B (rd b q m cp p) (fun v s => ∃ x : List UInt8, v = str x ∧ x.length ≤ 9 ∧ s = rd b q m cp (p + 2)) := by
  refine callsB_body 12 Try.func12 rfl rfl rfl (Nat.le_of_ble_eq_true rfl) ?_
  refine w_seq_region ?_
  refine opW_x (w_assign rfl rfl rfl ?_)
  refine w_keep [(0, _), (2, _)] ⟨rfl, rfl, trivial⟩ ?_
  refine w_seq ?_
  refine w_seq_region ?_
  refine opW_x (w_move rfl rfl rfl ?_)
  refine opW_x (w_ex1 0 rfl rfl rfl en18 rfl (pick_c _ _ _ _ _ _ (by omega) (by omega) (by omega) hm _ hbm) ?_)
  rintro _ _ ⟨r1, rfl, r1a, r1b, rfl⟩
  refine opW_x (w_eqlI rfl rfl rfl rfl ?_)
  refine w_tidy [(0, _), (2, _), (5, _)] [_] ⟨rfl, rfl, rfl, trivial⟩ rfl ?_
  refine w_cond rfl (fun g1 => ?_) (fun g1 => ?_)
  · try simp only [decide_eq_true_eq, decide_eq_false_iff_not, Bool.not_eq_true', Bool.not_eq_false', decide_not, Decidable.not_not, Int.not_lt, Int.not_le, ne_eq] at g1
    refine w_seq_region ?_
    refine opW_x (w_move rfl rfl rfl ?_)
    refine opW_x (w_buildSlice (parts := [(0, _), (1, _), (2, _), (3, _), (4, _), (5, _), (6, _)]) [_, _, _, _, _, _, _] rfl rfl Try.underlying42 sz9 zo9 rfl rfl rfl rfl rfl (fun b1 => ?_))
    refine opW_x (w_callN [0, 1] rfl rfl rfl rfl en22 rfl (of_c _ _ _ _ _ _ [[], [65], [116, 111, 111, 108, 111, 110, 103, 49, 50], [97, 45, 98], [101, 105, 103, 104, 116, 56, 56, 56], [48], [97, 110, 121, 111, 110, 101]] (by omega) (by decide) (by decide) hm _ hbm) ?_)
    rintro _ _ _ hle2 ⟨rfl, x2, hx2, rfl, rfl⟩
    refine opW_x (w_assign rfl rfl rfl ?_)
    refine w_tidy [(0, _), (2, _), (5, _)] [_, _] ⟨rfl, rfl, rfl, trivial⟩ rfl ?_
    refine w_ret (thn_r ?_)
    exact end1 .ret (.inl rfl) [_] 0 rfl ⟨rfl, trivial⟩ ⟨rfl, _, rfl, x2, rfl, (show ∀ x ∈ _, x.length ≤ 9 from by decide) _ hx2, rfl⟩
  · try simp only [decide_eq_true_eq, decide_eq_false_iff_not, Bool.not_eq_true', Bool.not_eq_false', decide_not, Decidable.not_not, Int.not_lt, Int.not_le, ne_eq] at g1
    refine w_skip ?_
    refine thn_n ?_
    refine w_seq_region ?_
    refine opW_x (w_move rfl rfl rfl ?_)
    refine opW_x (w_buildSlice (parts := [(0, _), (1, _), (2, _), (3, _), (4, _), (5, _)]) [_, _, _, _, _, _] rfl rfl Try.underlying42 sz9 zo9 rfl rfl rfl rfl rfl (fun b1 => ?_))
    refine opW_x (w_callN [0, 1] rfl rfl rfl rfl en22 rfl (of_c _ _ _ _ _ _ [[97, 109, 121], [98, 111, 98], [99, 121, 100], [100, 97, 110], [98, 111, 120, 49], [120]] (by omega) (by decide) (by decide) hm _ hbm) ?_)
    rintro _ _ _ hle3 ⟨rfl, x3, hx3, rfl, rfl⟩
    refine opW_x (w_assign rfl rfl rfl ?_)
    refine w_tidy [(0, _), (2, _), (5, _)] [_, _] ⟨rfl, rfl, rfl, trivial⟩ rfl ?_
    refine w_ret ?_
    exact end1 .ret (.inl rfl) [_] 0 rfl ⟨rfl, trivial⟩ ⟨rfl, _, rfl, x3, rfl, (show ∀ x ∈ _, x.length ≤ 9 from by decide) _ hx3, rfl⟩

set_option maxRecDepth 4000 in
set_option maxHeartbeats 400000 in
theorem put_c (l : List UInt8) (k : Nat) (x : List UInt8) (hk : k ≤ l.length) (hl : l.length ≤ 2000000) (hx : x.length ≤ 2000000) (B : Kn) : RetB Try.prog 8 [str l, .int .i64 k, str x] B (str (l.take k ++ x ++ l.drop k)) := by
  refine callsB_body 16 Try.func8 rfl rfl rfl (Nat.le_of_ble_eq_true rfl) ?_
  refine w_seq_region ?_
  refine opW_x (w_assign rfl rfl rfl ?_)
  refine w_keep [(0, _), (1, _), (2, _), (6, _)] ⟨rfl, rfl, rfl, rfl, trivial⟩ ?_
  refine w_seq ?_
  refine w_draw (same _ _) mo (by kernel_rfl) ⟨rfl, rfl⟩ ?_
  refine any_takeP 0 rfl (by kernel_rfl) rfl (fun D B L => w_move rfl rfl rfl ⟨rfl, rfl, rfl, rfl⟩) ?_
  refine any_takeP 1 rfl (by kernel_rfl) rfl (fun D B L => w_move rfl rfl rfl ⟨rfl, rfl, rfl, rfl⟩) ?_
  refine any_take 2 rfl (by kernel_rfl) rfl (q_of fun D => w_sliceS rfl rfl Try.underlying9 rfl (a := 0) (b := k) rfl ⟨_, _, rfl, rfl⟩ (by omega) (by omega) ⟨rfl, rfl, rfl, rfl⟩) ?_
  refine any_takeP 3 rfl (by kernel_rfl) rfl (fun D B L => w_move rfl rfl rfl ⟨rfl, rfl, rfl, rfl⟩) ?_
  refine any_take 4 rfl (by kernel_rfl) rfl (q_of fun D => w_cat rfl rfl rfl rfl (by first | omega | (simp; omega)) ⟨rfl, rfl, rfl, rfl⟩) ?_
  refine any_takeP 5 rfl (by kernel_rfl) rfl (fun D B L => w_move rfl rfl rfl ⟨rfl, rfl, rfl, rfl⟩) ?_
  refine any_takeP 6 rfl (by kernel_rfl) rfl (fun D B L => w_move rfl rfl rfl ⟨rfl, rfl, rfl, rfl⟩) ?_
  refine any_take 7 rfl (by kernel_rfl) rfl (q_of fun D => w_sliceS rfl rfl Try.underlying9 rfl (a := k) (b := l.length) ⟨_, _, rfl, rfl⟩ rfl (by omega) (by omega) ⟨rfl, rfl, rfl, rfl⟩) ?_
  refine any_take 8 rfl (by kernel_rfl) rfl (q_of fun D => w_cat rfl rfl rfl rfl (by first | omega | (simp; omega)) ⟨rfl, rfl, rfl, rfl⟩) ?_
  refine any_takeP 9 rfl (by kernel_rfl) rfl (fun D B L => w_assign rfl rfl rfl ⟨rfl, rfl, rfl, rfl⟩) ?_
  refine any_done (by kernel_rfl) (by kernel_rfl) ?_
  refine thn_n ?_
  refine w_keep [(0, _), (1, _), (2, _), (6, _)] ⟨rfl, rfl, rfl, rfl, trivial⟩ ?_
  refine w_ret ?_
  exact end0 .ret (.inl rfl) [_] ⟨rfl, trivial⟩ ⟨by rw [List.take_length]; rfl, rfl, rfl⟩

set_option maxRecDepth 4000 in
set_option maxHeartbeats 400000 in
theorem address_c (b : Nat) (l : List UInt8) (i : Nat) (hi : i ≤ l.length) (hl : l.length ≤ 2000000) (B : Kn) : Upd1 Try.prog 19 [ptr ⟨b, 0, none⟩] B (cur b l i) (.tuple #[.agg #[str (addr l i).1, str (addr l i).2.1], .bool (addr l i).2.2.1]) (cur b l (addr l i).2.2.2) := by
  refine callsB_body 31 Try.func19 rfl rfl rfl (Nat.le_of_ble_eq_true rfl) ?_
  refine w_seq_region ?_
  refine opW_x (w_alloc (l := [_, _]) rfl rfl zo28 rfl (fun b1 => ?_))
  refine opW_x (w_assign rfl rfl rfl ?_)
  refine w_tidy [(0, _), (2, _), (3, _)] [_, _] ⟨rfl, rfl, rfl, trivial⟩ rfl ?_
  refine w_seq_region ?_
  refine opW_x (w_move rfl rfl rfl ?_)
  refine opW_x (w_upd1 0 rfl rfl rfl en14 rfl (name_c _ _ _ (by omega) (by omega) _) ?_)
  refine opW_x (w_move rfl rfl rfl ?_)
  refine opW_x (w_extract rfl rfl rfl rfl ?_)
  refine opW_x (w_extract rfl rfl rfl rfl ?_)
  refine opW_x (w_assign rfl rfl rfl ?_)
  refine opW_x (w_assign rfl rfl rfl ?_)
  refine w_tidy [(0, _), (2, _), (3, _), (4, _), (5, _)] [_, _] ⟨rfl, rfl, rfl, rfl, rfl, trivial⟩ rfl ?_
  refine w_seq ?_
  refine w_seq_region ?_
  refine opW_x (w_move rfl rfl rfl ?_)
  refine opW_x (w_not rfl rfl rfl ?_)
  refine opW_x (w_move rfl rfl rfl ?_)
  refine r_split (d := 14) rfl (fun g1 => ?_) (fun g1 => ?_)
  · try simp only [decide_eq_true_eq, decide_eq_false_iff_not, Bool.not_eq_true', Bool.not_eq_false', decide_not, Decidable.not_not, Int.not_lt, Int.not_le, ne_eq] at g1
    refine opW_x (w_pass rfl rfl ?_)
    refine opW_x (w_pass rfl rfl ?_)
    refine opW_x (w_pass rfl rfl ?_)
    refine opW_x (w_pickT rfl rfl rfl rfl ?_)
    refine w_keep [(0, _), (2, _), (3, _), (4, _), (5, _), (18, _)] ⟨rfl, rfl, rfl, rfl, rfl, rfl, trivial⟩ ?_
    refine w_cond (t := true) rfl (fun _ => ?_) (fun h => Bool.noConfusion h)
    refine w_seq_region ?_
    refine opW_x (w_build (parts := []) [_, _] [_, _] rfl rfl pl28 zo28 rfl rfl rfl ?_)
    refine opW_x (w_store [_, _] 1 [_, _] rfl rfl sz28 rfl rfl rfl rfl rfl rfl rfl rfl ?_)
    refine opW_x (w_assign rfl rfl rfl ?_)
    refine w_tidy [(0, _), (2, _), (3, _), (4, _), (5, _), (18, _)] [_, _] ⟨rfl, rfl, rfl, rfl, rfl, rfl, trivial⟩ rfl ?_
    refine w_ret (thn_r ?_)
    exact endN .ret (.inl rfl) [_, _] [0] rfl ⟨⟨_, rfl, (.inr ⟨[_, _], lk28, rowL 1 rfl rfl rfl, rfl⟩)⟩, rfl, trivial⟩ ⟨pair_eq (by simp [addr, g1]) (by simp [addr, g1]) (by simp [addr, g1]), rfl, by simp [addr, g1]⟩
  · try simp only [decide_eq_true_eq, decide_eq_false_iff_not, Bool.not_eq_true', Bool.not_eq_false', decide_not, Decidable.not_not, Int.not_lt, Int.not_le, ne_eq] at g1
    refine opW_x (w_move rfl rfl rfl ?_)
    refine opW_x (w_upd1 0 rfl rfl rfl en24 rfl (take_c _ _ (i + (word l i).length) (word_le hi) (by omega) 64 _) ?_)
    refine opW_x (w_not rfl rfl rfl ?_)
    refine opW_x (w_pickF rfl rfl rfl rfl ?_)
    refine w_tidy [(0, _), (2, _), (3, _), (4, _), (5, _), (18, _)] [_, _] ⟨rfl, rfl, rfl, rfl, rfl, rfl, trivial⟩ rfl ?_
    refine w_cond rfl (fun g2 => ?_) (fun g2 => ?_)
    · try simp only [decide_eq_true_eq, decide_eq_false_iff_not, Bool.not_eq_true', Bool.not_eq_false', decide_not, Decidable.not_not, Int.not_lt, Int.not_le, ne_eq] at g2
      rw [if_neg g2]
      refine w_seq_region ?_
      refine opW_x (w_build (parts := []) [_, _] [_, _] rfl rfl pl28 zo28 rfl rfl rfl ?_)
      refine opW_x (w_store [_, _] 1 [_, _] rfl rfl sz28 rfl rfl rfl rfl rfl rfl rfl rfl ?_)
      refine opW_x (w_assign rfl rfl rfl ?_)
      refine w_tidy [(0, _), (2, _), (3, _), (4, _), (5, _), (18, _)] [_, _] ⟨rfl, rfl, rfl, rfl, rfl, rfl, trivial⟩ rfl ?_
      refine w_ret (thn_r ?_)
      exact endN .ret (.inl rfl) [_, _] [0] rfl ⟨⟨_, rfl, (.inr ⟨[_, _], lk28, rowL 1 rfl rfl rfl, rfl⟩)⟩, rfl, trivial⟩ ⟨pair_eq (by simp [addr, g1, g2]) (by simp [addr, g1, g2]) (by simp [addr, g1, g2]), rfl, by simp [addr, g1, g2]⟩
    · try simp only [decide_eq_true_eq, decide_eq_false_iff_not, Bool.not_eq_true', Bool.not_eq_false', decide_not, Decidable.not_not, Int.not_lt, Int.not_le, ne_eq] at g2
      rw [if_pos g2]
      have hx2 := lt_of_get g2
      refine w_skip ?_
      refine thn_n ?_
      refine w_seq_region ?_
      refine opW_x (w_move rfl rfl rfl ?_)
      refine opW_x (w_upd1 0 rfl rfl rfl en25 rfl (domain_c _ _ _ (by omega) (by omega) _) ?_)
      refine opW_x (w_move rfl rfl rfl ?_)
      refine opW_x (w_extract rfl rfl rfl rfl ?_)
      refine opW_x (w_extract rfl rfl rfl rfl ?_)
      refine opW_x (w_assign rfl rfl rfl ?_)
      refine opW_x (w_assign rfl rfl rfl ?_)
      refine w_tidy [(0, _), (2, _), (3, _), (4, _), (5, _), (6, _), (18, _)] [_, _] ⟨rfl, rfl, rfl, rfl, rfl, rfl, rfl, trivial⟩ rfl ?_
      refine w_seq ?_
      refine w_seq_region ?_
      refine opW_x (w_move rfl rfl rfl ?_)
      refine opW_x (w_not rfl rfl rfl ?_)
      refine w_keep [(0, _), (2, _), (3, _), (4, _), (5, _), (6, _), (18, _), (26, _)] ⟨rfl, rfl, rfl, rfl, rfl, rfl, rfl, rfl, trivial⟩ ?_
      refine w_cond rfl (fun g3 => ?_) (fun g3 => ?_)
      · try simp only [decide_eq_true_eq, decide_eq_false_iff_not, Bool.not_eq_true', Bool.not_eq_false', decide_not, Decidable.not_not, Int.not_lt, Int.not_le, ne_eq] at g3
        refine w_seq_region ?_
        refine opW_x (w_build (parts := []) [_, _] [_, _] rfl rfl pl28 zo28 rfl rfl rfl ?_)
        refine opW_x (w_store [_, _] 1 [_, _] rfl rfl sz28 rfl rfl rfl rfl rfl rfl rfl rfl ?_)
        refine opW_x (w_assign rfl rfl rfl ?_)
        refine w_tidy [(0, _), (2, _), (3, _), (4, _), (5, _), (6, _), (18, _), (26, _)] [_, _] ⟨rfl, rfl, rfl, rfl, rfl, rfl, rfl, rfl, trivial⟩ rfl ?_
        refine w_ret (thn_r ?_)
        exact endN .ret (.inl rfl) [_, _] [0] rfl ⟨⟨_, rfl, (.inr ⟨[_, _], lk28, rowL 1 rfl rfl rfl, rfl⟩)⟩, rfl, trivial⟩ ⟨pair_eq (by simp [addr, g1, g2, g3]) (by simp [addr, g1, g2, g3]) (by simp [addr, g1, g2, g3]), rfl, by simp [addr, g1, g2, g3]⟩
      · try simp only [decide_eq_true_eq, decide_eq_false_iff_not, Bool.not_eq_true', Bool.not_eq_false', decide_not, Decidable.not_not, Int.not_lt, Int.not_le, ne_eq] at g3
        refine w_skip ?_
        refine thn_n ?_
        refine w_seq_region ?_
        refine opW_x (w_move rfl rfl rfl ?_)
        refine opW_x (w_move rfl rfl rfl ?_)
        refine opW_x (w_build (parts := [(0, _), (1, _)]) [_, _] [_, _] rfl rfl pl28 zo28 rfl rfl rfl ?_)
        refine opW_x (w_store [_, _] 1 [_, _] rfl rfl sz28 rfl rfl rfl rfl rfl rfl rfl rfl ?_)
        refine opW_x (w_assign rfl rfl rfl ?_)
        refine w_tidy [(0, _), (2, _), (3, _), (4, _), (5, _), (6, _), (18, _), (26, _)] [_, _] ⟨rfl, rfl, rfl, rfl, rfl, rfl, rfl, rfl, trivial⟩ rfl ?_
        refine w_ret ?_
        exact endN .ret (.inl rfl) [_, _] [0] rfl ⟨⟨_, rfl, (.inr ⟨[_, _], lk28, rowL 1 rfl rfl rfl, rfl⟩)⟩, rfl, trivial⟩ ⟨pair_eq (by simp [addr, g1, g2, g3]) (by simp [addr, g1, g2, g3]) (by simp [addr, g1, g2, g3]), rfl, by simp [addr, g1, g2, g3]⟩

set_option maxRecDepth 4000 in
set_option maxHeartbeats 400000 in
theorem implAddr_c (l : List UInt8) (hl : l.length ≤ 2000000) (B : Kn) : RetB Try.prog 10 [str l] B (.tuple #[.agg #[str (parse l).1, str (parse l).2.1], .bool (parse l).2.2]) := by
  refine callsB_body 21 Try.func10 rfl rfl rfl (Nat.le_of_ble_eq_true rfl) ?_
  refine w_seq_region ?_
  refine opW_x (w_alloc (l := [_, _]) rfl rfl zo28 rfl (fun b0 => ?_))
  refine opW_x (w_assign rfl rfl rfl ?_)
  refine w_tidy [(0, _), (2, _), (3, _)] [_] ⟨rfl, rfl, rfl, trivial⟩ rfl ?_
  refine w_seq_region ?_
  refine opW_x (w_move rfl rfl rfl ?_)
  refine opW_x (w_build (parts := [(0, _)]) [_, _] [_, _] rfl rfl pl35 zo35 rfl rfl rfl ?_)
  refine opW_x (w_alloc (l := [_, _]) rfl rfl zo35 rfl (fun b1 => ?_))
  refine opW_x (w_store [_, _] 1 [_, _] rfl rfl sz35 rfl rfl rfl rfl rfl rfl rfl rfl ?_)
  refine w_tidy [(0, _), (2, _), (3, _), (4, _)] [_, _] ⟨rfl, rfl, rfl, rfl, trivial⟩ rfl ?_
  refine w_seq_region ?_
  refine opW_x (w_upd1 1 rfl rfl rfl en19 rfl (address_c _ _ 0 (by omega) hl _) ?_)
  refine opW_x (w_move rfl rfl rfl ?_)
  refine opW_x (w_extract rfl rfl rfl rfl ?_)
  refine opW_x (w_extract rfl rfl rfl rfl ?_)
  refine opW_x (w_alloc (l := [_, _]) rfl rfl zo28 rfl (fun b2 => ?_))
  refine opW_x (w_store [_, _] 2 [_, _] rfl rfl sz28 rfl rfl rfl rfl rfl rfl rfl rfl ?_)
  refine opW_x (w_assign rfl rfl rfl ?_)
  refine w_tidy [(0, _), (2, _), (3, _), (4, _), (5, _), (6, _)] [_, _, _] ⟨rfl, rfl, rfl, rfl, rfl, rfl, trivial⟩ rfl ?_
  refine w_seq ?_
  refine w_seq_region ?_
  refine opW_x (w_move rfl rfl rfl ?_)
  refine opW_x (w_not rfl rfl rfl ?_)
  refine opW_x (w_move rfl rfl rfl ?_)
  refine r_split (d := 15) rfl (fun g1 => ?_) (fun g1 => ?_)
  · try simp only [decide_eq_true_eq, decide_eq_false_iff_not, Bool.not_eq_true', Bool.not_eq_false', decide_not, Decidable.not_not, Int.not_lt, Int.not_le, ne_eq] at g1
    refine opW_x (w_pass rfl rfl ?_)
    refine opW_x (w_pass rfl rfl ?_)
    refine opW_x (w_pickT rfl rfl rfl rfl ?_)
    refine w_keep [(0, _), (2, _), (3, _), (4, _), (5, _), (6, _), (18, _)] ⟨rfl, rfl, rfl, rfl, rfl, rfl, rfl, trivial⟩ ?_
    refine w_cond (t := true) rfl (fun _ => ?_) (fun h => Bool.noConfusion h)
    refine w_seq_region ?_
    refine opW_x (w_build (parts := []) [_, _] [_, _] rfl rfl pl28 zo28 rfl rfl rfl ?_)
    refine opW_x (w_store [_, _] 0 [_, _] rfl rfl sz28 rfl rfl rfl rfl rfl rfl rfl rfl ?_)
    refine opW_x (w_assign rfl rfl rfl ?_)
    refine w_tidy [(0, _), (2, _), (3, _), (4, _), (5, _), (6, _), (18, _)] [_, _, _] ⟨rfl, rfl, rfl, rfl, rfl, rfl, rfl, trivial⟩ rfl ?_
    refine w_ret (thn_r ?_)
    exact end0 .ret (.inl rfl) [_, _] ⟨⟨_, rfl, (.inr ⟨[_, _], lk28, rowL 0 rfl rfl rfl, rfl⟩)⟩, rfl, trivial⟩ ⟨pair_eq (by simp [parse, g1]) (by simp [parse, g1]) (by simp [parse, g1]), rfl, rfl⟩
  · try simp only [decide_eq_true_eq, decide_eq_false_iff_not, Bool.not_eq_true', Bool.not_eq_false', decide_not, Decidable.not_not, Int.not_lt, Int.not_le, ne_eq] at g1
    refine opW_x (w_ret1 1 rfl rfl rfl en15 rfl (done_c _ _ (addr l 0).2.2.2 (addr_le (Nat.zero_le _)) (by omega) _) ?_)
    refine opW_x (w_not rfl rfl rfl ?_)
    refine opW_x (w_pickF rfl rfl rfl rfl ?_)
    refine w_keep [(0, _), (2, _), (3, _), (4, _), (5, _), (6, _), (18, _)] ⟨rfl, rfl, rfl, rfl, rfl, rfl, rfl, trivial⟩ ?_
    refine w_cond rfl (fun g2 => ?_) (fun g2 => ?_)
    · try simp only [decide_eq_true_eq, decide_eq_false_iff_not, Bool.not_eq_true', Bool.not_eq_false', decide_not, Decidable.not_not, Int.not_lt, Int.not_le, ne_eq] at g2
      refine w_seq_region ?_
      refine opW_x (w_build (parts := []) [_, _] [_, _] rfl rfl pl28 zo28 rfl rfl rfl ?_)
      refine opW_x (w_store [_, _] 0 [_, _] rfl rfl sz28 rfl rfl rfl rfl rfl rfl rfl rfl ?_)
      refine opW_x (w_assign rfl rfl rfl ?_)
      refine w_tidy [(0, _), (2, _), (3, _), (4, _), (5, _), (6, _), (18, _)] [_, _, _] ⟨rfl, rfl, rfl, rfl, rfl, rfl, rfl, trivial⟩ rfl ?_
      refine w_ret (thn_r ?_)
      exact end0 .ret (.inl rfl) [_, _] ⟨⟨_, rfl, (.inr ⟨[_, _], lk28, rowL 0 rfl rfl rfl, rfl⟩)⟩, rfl, trivial⟩ ⟨pair_eq (by simp [parse, g1, g2]) (by simp [parse, g1, g2]) (by simp [parse, g1, g2]), rfl, rfl⟩
    · try simp only [decide_eq_true_eq, decide_eq_false_iff_not, Bool.not_eq_true', Bool.not_eq_false', decide_not, Decidable.not_not, Int.not_lt, Int.not_le, ne_eq] at g2
      refine w_skip ?_
      refine thn_n ?_
      refine w_seq_region ?_
      refine opW_x (w_loadN [_, _] rfl rfl lk28 rfl (rowL 2 rfl rfl rfl) ?_)
      refine opW_x (w_store [_, _] 0 [_, _] rfl rfl sz28 rfl rfl rfl rfl rfl rfl rfl rfl ?_)
      refine opW_x (w_assign rfl rfl rfl ?_)
      refine w_tidy [(0, _), (2, _), (3, _), (4, _), (5, _), (6, _), (18, _)] [_, _, _] ⟨rfl, rfl, rfl, rfl, rfl, rfl, rfl, trivial⟩ rfl ?_
      refine w_ret ?_
      exact end0 .ret (.inl rfl) [_, _] ⟨⟨_, rfl, (.inr ⟨[_, _], lk28, rowL 0 rfl rfl rfl, rfl⟩)⟩, rfl, trivial⟩ ⟨pair_eq (by simp [parse, g1, g2]) (by simp [parse, g1, g2]) (by simp [parse, g1, g2]), rfl, rfl⟩

abbrev VecS (s : Cells) (q : Option Addr) (m cp : Nat) (ls : List (List UInt8)) : Prop := VecL s q m cp 9 1 (ls.map str)
theorem vecS_snoc {s : Cells} {q : Option Addr} {m cp : Nat} {ls : List (List UInt8)} {a : List UInt8} (h : VecL s q m cp 9 1 (ls.map str ++ [str a])) : VecS s q m cp (ls ++ [a]) := by
  unfold VecS
  rw [List.map_append]
  exact h
set_option maxRecDepth 4000 in
set_option maxHeartbeats 400000 in
theorem l1Cut_c (l : List UInt8) (hl : l.length ≤ 2000000) (x0 : UInt8) (B : Kn) : New1 Try.prog 20 [str l, .int .u8 x0.toNat] B (fun v s => ∃ q cp, v = .slice q (cut x0 l).length cp ∧ VecS s q (cut x0 l).length cp (cut x0 l)) := by
  refine callsB_body 35 Try.func20 rfl rfl rfl (Nat.le_of_ble_eq_true rfl) ?_
  refine w_seq_region ?_
  refine opW_x (w_assign rfl rfl rfl ?_)
  refine w_keep [(0, _), (1, _), (4, _)] ⟨rfl, rfl, rfl, trivial⟩ ?_
  refine w_seq_region ?_
  refine opW_x (w_buildSlice (parts := []) [] rfl rfl Try.underlying42 sz9 zo9 rfl rfl rfl rfl rfl (fun b0 => ?_))
  refine opW_x (w_assign rfl rfl rfl ?_)
  refine w_tidy [(0, _), (1, _), (4, _), (5, _)] [_] ⟨rfl, rfl, rfl, rfl, trivial⟩ rfl ?_
  refine w_seq_region ?_
  refine opW_x (w_assign rfl rfl rfl ?_)
  refine w_keep [(0, _), (1, _), (4, _), (5, _), (6, _)] ⟨rfl, rfl, rfl, rfl, rfl, trivial⟩ ?_
  refine w_seq ?_
  refine w_seq_region ?_
  refine opW_x (w_assign rfl rfl rfl ?_)
  refine w_keep [(0, _), (1, _), (4, _), (5, _), (6, _), (7, _)] ⟨rfl, rfl, rfl, rfl, rfl, rfl, trivial⟩ ?_
  refine w_block ?_
  refine w_loop (α := CutSt) (fun x => [(0, str l), (1, .int .u8 x0.toNat), (5, .slice x.q x.m x.cp), (6, .int .i64 x.f), (7, .int .i64 x.i)]) (fun x => [x.s]) (fun x Bx => Bx = B ∧ x.f ≤ x.i ∧ x.i ≤ l.length ∧ x.m ≤ x.i ∧ x.m = x.ps.length ∧ VecS x.s x.q x.m x.cp x.ps ∧ cut x0 l = x.ps ++ glue ((l.take x.i).drop x.f) (cut x0 (l.drop x.i))) (fun x => l.length - x.i) ⟨0, 0, 0, [], some ⟨b0, 0, none⟩, 0, box1 b0 [] 9⟩ ⟨rfl, rfl, rfl, rfl, rfl, trivial⟩ rfl (⟨rfl, Nat.le_refl _, Nat.zero_le _, Nat.le_refl _, rfl, VecL.lit rfl, by simp [glue_nil (cut_ne x0 l)]⟩) (fun x B1 hle1 hI => ?_)
  obtain ⟨rfl, hf, hi, hn, hm, hv, hc⟩ := hI
  refine w_seq ?_
  refine w_seq_region ?_
  refine opW_x (w_move rfl rfl rfl ?_)
  refine opW_x (w_move rfl rfl rfl ?_)
  refine opW_x (w_lenS rfl rfl Try.underlying9 rfl ?_)
  refine opW_x (w_lss rfl rfl rfl rfl ?_)
  refine w_keep [(0, _), (1, _), (5, _), (6, _), (7, _), (12, _)] ⟨rfl, rfl, rfl, rfl, rfl, rfl, trivial⟩ ?_
  refine w_cond rfl (fun g1 => ?_) (fun g1 => ?_)
  · try simp only [decide_eq_true_eq, decide_eq_false_iff_not, Bool.not_eq_true', Bool.not_eq_false', decide_not, Decidable.not_not, Int.not_lt, Int.not_le, ne_eq] at g1
    obtain ⟨c, hx⟩ : ∃ c, l[x.i]? = some c := ⟨_, List.getElem?_eq_getElem (by omega)⟩
    refine w_skip ?_
    refine thn_n ?_
    refine w_seq ?_
    refine w_block ?_
    refine w_seq_region ?_
    refine opW_x (w_move rfl rfl rfl ?_)
    refine opW_x (w_move rfl rfl rfl ?_)
    refine opW_x (w_index rfl rfl Try.underlying9 rfl rfl (by omega) hx ?_)
    refine opW_x (w_move rfl rfl rfl ?_)
    refine opW_x (w_eqlI rfl rfl rfl rfl ?_)
    refine w_keep [(0, _), (1, _), (5, _), (6, _), (7, _), (12, _), (19, _)] ⟨rfl, rfl, rfl, rfl, rfl, rfl, rfl, trivial⟩ ?_
    refine w_cond rfl (fun g2 => ?_) (fun g2 => ?_)
    · try simp only [decide_eq_true_eq, decide_eq_false_iff_not, Bool.not_eq_true', Bool.not_eq_false', decide_not, Decidable.not_not, Int.not_lt, Int.not_le, ne_eq] at g2
      refine w_seq_region ?_
      refine opW_x (w_move rfl rfl rfl ?_)
      refine opW_x (w_move rfl rfl rfl ?_)
      refine opW_x (w_move rfl rfl rfl ?_)
      refine opW_x (w_move rfl rfl rfl ?_)
      refine opW_x (w_sliceS rfl rfl Try.underlying9 rfl (a := x.f) (b := x.i) ⟨_, _, rfl, rfl⟩ ⟨_, _, rfl, rfl⟩ (by omega) (by omega) ?_)
      refine opW_x (w_buildSlice (parts := [(0, _)]) [_] rfl rfl Try.underlying42 sz9 zo9 rfl rfl rfl rfl rfl (fun b1 => ?_))
      refine opW_x (w_append 0 rfl (hv) rfl rfl eo42 su42 rfl rfl (SrcAt.box 1 rfl) rfl rfl (by omega) (fun l1 p1 c1 hv1 => ?_))
      refine opW_x (w_assign rfl rfl rfl ?_)
      refine w_tidy [(0, _), (1, _), (5, _), (6, _), (7, _), (12, _), (19, _)] [_, _] ⟨rfl, rfl, rfl, rfl, rfl, rfl, rfl, trivial⟩ rfl ?_
      refine w_sel [0] rfl ?_
      refine w_region ?_
      refine opW_x (w_move rfl rfl rfl ?_)
      refine opW_x (w_add rfl rfl rfl rfl (by first | exact wrI64 (by omega) (by omega) | rfl) ?_)
      refine opW_x (w_assign rfl rfl rfl ?_)
      refine inB_n (thn_n ?_)
      refine w_region ?_
      refine opW_x (w_move rfl rfl rfl ?_)
      refine opW_x (w_add rfl rfl rfl rfl (by first | exact wrI64 (by omega) (by omega) | rfl) ?_)
      refine opW_x (w_assign rfl rfl rfl ?_)
      exact rnd_n ⟨x.i + 1, x.i + 1, x.m + 1, x.ps ++ [(l.take x.i).drop x.f], p1, c1, l1⟩ (by simp only []; omega) ⟨rfl, Nat.le_refl _, by simp only []; omega, by simp only []; omega, by simp [hm], vecS_snoc hv1, by rw [hc, cut_hit hx (u8_eq g2), List.append_assoc]; simp [glue_hit, glue_nil (cut_ne x0 _)]⟩ ⟨rfl, rfl, rfl, rfl, rfl, trivial⟩ rfl
    · try simp only [decide_eq_true_eq, decide_eq_false_iff_not, Bool.not_eq_true', Bool.not_eq_false', decide_not, Decidable.not_not, Int.not_lt, Int.not_le, ne_eq] at g2
      refine w_skip ?_
      refine inB_n (thn_n ?_)
      refine w_region ?_
      refine opW_x (w_move rfl rfl rfl ?_)
      refine opW_x (w_add rfl rfl rfl rfl (by first | exact wrI64 (by omega) (by omega) | rfl) ?_)
      refine opW_x (w_assign rfl rfl rfl ?_)
      exact rnd_n ⟨x.i + 1, x.f, x.m, x.ps, x.q, x.cp, x.s⟩ (by simp only []; omega) ⟨rfl, by simp only []; omega, by simp only []; omega, by simp only []; omega, hm, hv, by rw [hc, cut_miss hx (u8_ne g2), glue_glue, take_more hx hf]⟩ ⟨rfl, rfl, rfl, rfl, rfl, trivial⟩ rfl
  · try simp only [decide_eq_true_eq, decide_eq_false_iff_not, Bool.not_eq_true', Bool.not_eq_false', decide_not, Decidable.not_not, Int.not_lt, Int.not_le, ne_eq] at g1
    obtain hie : x.i = l.length := by omega
    rw [hie, List.take_length, List.drop_length] at hc
    refine w_exit (thn_x (rnd_x (inB_hit (thn_n ?_))))
    refine w_seq_region ?_
    refine opW_x (w_move rfl rfl rfl ?_)
    refine opW_x (w_move rfl rfl rfl ?_)
    refine opW_x (w_move rfl rfl rfl ?_)
    refine opW_x (w_sliceS rfl rfl Try.underlying9 rfl (a := x.f) (b := l.length) ⟨_, _, rfl, rfl⟩ rfl (by omega) (by omega) ?_)
    refine opW_x (w_buildSlice (parts := [(0, _)]) [_] rfl rfl Try.underlying42 sz9 zo9 rfl rfl rfl rfl rfl (fun b1 => ?_))
    refine opW_x (w_append 0 rfl (hv) rfl rfl eo42 su42 rfl rfl (SrcAt.box 1 rfl) rfl rfl (by omega) (fun l2 p2 c2 hv2 => ?_))
    refine opW_x (w_assign rfl rfl rfl ?_)
    refine w_tidy [(0, _), (1, _), (4, _), (5, _), (6, _), (7, _), (12, _)] [_, _] ⟨rfl, rfl, rfl, rfl, rfl, rfl, rfl, trivial⟩ rfl ?_
    refine w_ret ?_
    have he : cut x0 l = x.ps ++ [l.drop x.f] := by rw [hc]; simp [cut, glue]
    have hlen : (cut x0 l).length = x.m + 1 := by rw [he]; simp [hm]
    exact endN .ret (.inl rfl) [_] [0] rfl ⟨rfl, trivial⟩ ⟨rfl, _, rfl, p2, c2, by rw [hlen]; rfl, by rw [hlen, he]; rw [List.take_length] at hv2; exact vecS_snoc hv2⟩

set_option maxRecDepth 4000 in
set_option maxHeartbeats 400000 in
theorem specDomain_c (l : List UInt8) (hl : l.length ≤ 2000000) (B : Kn) : RetB Try.prog 26 [str l] B (.bool (specDom l)) := by
  refine callsB_body 27 Try.func26 rfl rfl rfl (Nat.le_of_ble_eq_true rfl) ?_
  refine w_seq_region ?_
  refine opW_x (w_assign rfl rfl rfl ?_)
  refine w_keep [(0, _), (2, _)] ⟨rfl, rfl, trivial⟩ ?_
  refine w_seq_region ?_
  refine opW_x (w_move rfl rfl rfl ?_)
  refine opW_x (w_new1 rfl rfl en20 rfl (l1Cut_c _ hl 46 _) ?_)
  rintro _ s ⟨q, cp, rfl, hv⟩
  refine opW_x (w_assign rfl rfl rfl ?_)
  refine w_tidy [(0, _), (2, _), (3, _)] [_] ⟨rfl, rfl, rfl, trivial⟩ rfl ?_
  refine w_seq ?_
  refine w_seq_region ?_
  refine opW_x (w_assign rfl rfl rfl ?_)
  refine w_keep [(0, _), (2, _), (3, _), (4, _)] ⟨rfl, rfl, rfl, rfl, trivial⟩ ?_
  refine w_block ?_
  refine w_loop (α := Nat) (fun k => [(0, str l), (3, .slice q (cut 46 l).length cp), (4, .int .i64 k)]) (fun k => [s]) (fun k Bx => Bx = B ∧ k ≤ (cut 46 l).length ∧ ((cut 46 l).take k).all nameOk = true) (fun k => (cut 46 l).length - k) 0 ⟨rfl, rfl, rfl, trivial⟩ rfl (⟨rfl, Nat.zero_le _, by simp⟩) (fun k B1 hle1 hI => ?_)
  obtain ⟨rfl, hk, ha⟩ := hI
  have hcc := cut_count 46 l
  refine w_seq ?_
  refine w_seq_region ?_
  refine opW_x (w_move rfl rfl rfl ?_)
  refine opW_x (w_move rfl rfl rfl ?_)
  refine opW_x (w_lenV rfl rfl Try.underlying42 rfl ?_)
  refine opW_x (w_lss rfl rfl rfl rfl ?_)
  refine w_keep [(0, _), (3, _), (4, _), (10, _)] ⟨rfl, rfl, rfl, rfl, trivial⟩ ?_
  refine w_cond rfl (fun g1 => ?_) (fun g1 => ?_)
  · try simp only [decide_eq_true_eq, decide_eq_false_iff_not, Bool.not_eq_true', Bool.not_eq_false', decide_not, Decidable.not_not, Int.not_lt, Int.not_le, ne_eq] at g1
    obtain ⟨y, hy⟩ : ∃ y, (cut 46 l)[k]? = some y := ⟨_, List.getElem?_eq_getElem (by omega)⟩
    have hyl := cut_len 46 l y (List.mem_of_getElem? hy)
    obtain ⟨a, rfl, hsp, hat⟩ := hv.at (B := B1) (L := [s]) (i := k) (v := str y) 0 rfl (by rw [List.getElem?_map, hy]; rfl)
    refine w_skip ?_
    refine thn_n ?_
    refine w_seq ?_
    refine w_block ?_
    refine w_seq_region ?_
    refine opW_x (w_move rfl rfl rfl ?_)
    refine opW_x (w_move rfl rfl rfl ?_)
    refine opW_x (w_indexAddr rfl rfl Try.underlying42 sz9 rfl rfl (by omega) (by omega) ?_)
    refine opW_x (w_load1 rfl rfl lk9 rfl (atMul1 hat) ?_)
    refine opW_x (w_retB rfl rfl en7 rfl (specName_c _ (by omega) _) ?_)
    refine opW_x (w_not rfl rfl rfl ?_)
    refine w_keep [(0, _), (3, _), (4, _), (10, _), (18, _)] ⟨rfl, rfl, rfl, rfl, rfl, trivial⟩ ?_
    refine w_cond rfl (fun g2 => ?_) (fun g2 => ?_)
    · try simp only [decide_eq_true_eq, decide_eq_false_iff_not, Bool.not_eq_true', Bool.not_eq_false', decide_not, Decidable.not_not, Int.not_lt, Int.not_le, ne_eq] at g2
      refine w_seq_region ?_
      refine opW_x (w_assign rfl rfl rfl ?_)
      refine w_keep [(0, _), (2, _), (3, _), (4, _), (10, _), (18, _)] ⟨rfl, rfl, rfl, rfl, rfl, rfl, trivial⟩ ?_
      refine w_ret (inB_r (thn_r (rnd_r (inB_r (thn_r ?_)))))
      exact end0 .ret (.inl rfl) [_] ⟨rfl, trivial⟩ ⟨bool_eq (by simp [specDom, all_stop2 hy g2]), rfl, rfl⟩
    · try simp only [decide_eq_true_eq, decide_eq_false_iff_not, Bool.not_eq_true', Bool.not_eq_false', decide_not, Decidable.not_not, Int.not_lt, Int.not_le, ne_eq] at g2
      refine w_skip ?_
      refine inB_n (thn_n ?_)
      refine w_region ?_
      refine opW_x (w_move rfl rfl rfl ?_)
      refine opW_x (w_add rfl rfl rfl rfl (by first | exact wrI64 (by omega) (by omega) | rfl) ?_)
      refine opW_x (w_assign rfl rfl rfl ?_)
      exact rnd_n (k + 1) (by omega) ⟨rfl, by omega, all_step2 hy g2 ha⟩ ⟨rfl, rfl, rfl, trivial⟩ rfl
  · try simp only [decide_eq_true_eq, decide_eq_false_iff_not, Bool.not_eq_true', Bool.not_eq_false', decide_not, Decidable.not_not, Int.not_lt, Int.not_le, ne_eq] at g1
    obtain hke : k = (cut 46 l).length := by omega
    rw [hke, List.take_length] at ha
    refine w_exit (thn_x (rnd_x (inB_hit (thn_n ?_))))
    refine w_seq_region ?_
    refine opW_x (w_move rfl rfl rfl ?_)
    refine opW_x (w_lenV rfl rfl Try.underlying42 rfl ?_)
    refine opW_x (w_leq rfl rfl rfl rfl ?_)
    refine opW_x (w_move rfl rfl rfl ?_)
    refine r_split (d := 22) rfl (fun g3 => ?_) (fun g3 => ?_)
    · try simp only [decide_eq_true_eq, decide_eq_false_iff_not, Bool.not_eq_true', Bool.not_eq_false', decide_not, Decidable.not_not, Int.not_lt, Int.not_le, ne_eq] at g3
      refine opW_x (w_move rfl rfl rfl ?_)
      refine opW_x (w_lenS rfl rfl Try.underlying9 rfl ?_)
      refine opW_x (w_leq rfl rfl rfl rfl ?_)
      refine opW_x (w_pickT rfl rfl rfl rfl ?_)
      refine opW_x (w_assign rfl rfl rfl ?_)
      refine w_keep [(0, _), (2, _), (3, _), (4, _), (10, _)] ⟨rfl, rfl, rfl, rfl, rfl, trivial⟩ ?_
      refine w_ret ?_
      exact end0 .ret (.inl rfl) [_] ⟨rfl, trivial⟩ ⟨bool_eq (by rw [Bool.eq_iff_iff]; simp [specDom, ha]; omega), rfl, rfl⟩
    · try simp only [decide_eq_true_eq, decide_eq_false_iff_not, Bool.not_eq_true', Bool.not_eq_false', decide_not, Decidable.not_not, Int.not_lt, Int.not_le, ne_eq] at g3
      refine opW_x (w_pass rfl rfl ?_)
      refine opW_x (w_pass rfl rfl ?_)
      refine opW_x (w_pass rfl rfl ?_)
      refine opW_x (w_pickF rfl rfl rfl rfl ?_)
      refine opW_x (w_assign rfl rfl rfl ?_)
      refine w_keep [(0, _), (2, _), (3, _), (4, _), (10, _)] ⟨rfl, rfl, rfl, rfl, rfl, trivial⟩ ?_
      refine w_ret ?_
      exact end0 .ret (.inl rfl) [_] ⟨rfl, trivial⟩ ⟨bool_eq (by rw [Bool.eq_iff_iff]; simp [specDom, ha]; omega), rfl, rfl⟩

theorem implAddr2_c (l : List UInt8) (hl : l.length ≤ 2000000) (B : Kn) : RetB Try.prog 10 [str l] B (.tuple #[.agg #[str (specParse l).1, str (specParse l).2.1], .bool (specParse l).2.2]) := by
  have h := implAddr_c l hl B
  rwa [parse_spec] at h

set_option maxRecDepth 4000 in
set_option maxHeartbeats 400000 in
theorem l1Addr_c (u d : List UInt8) (hu : u.length ≤ 2000000) (hd : d.length ≤ 2000000) (B : Kn) : RetB Try.prog 21 [.agg #[str u, str d]] B (.bool (nameOk u && specDom d)) := by
  refine callsB_body 11 Try.func21 rfl rfl rfl (Nat.le_of_ble_eq_true rfl) ?_
  refine w_seq_region ?_
  refine opW_x (w_box (l := [_, _]) rfl rfl rfl rfl (fun b1 => ?_))
  refine opW_x (w_assign rfl rfl rfl ?_)
  refine w_tidy [(0, _), (1, _), (2, _)] [_] ⟨rfl, rfl, rfl, trivial⟩ rfl ?_
  refine w_seq_region ?_
  refine opW_x (w_fieldAddr rfl rfl fo28x0 rfl ?_)
  refine opW_x (w_load1 rfl rfl lk9 rfl (atL 0 rfl rfl rfl) ?_)
  refine opW_x (w_retB rfl rfl en7 rfl (specName_c _ (by first | assumption | omega | (simp; omega)) _) ?_)
  refine opW_x (w_move rfl rfl rfl ?_)
  refine r_split (d := 6) rfl (fun g1 => ?_) (fun g1 => ?_)
  · try simp only [decide_eq_true_eq, decide_eq_false_iff_not, Bool.not_eq_true', Bool.not_eq_false', decide_not, Decidable.not_not, Int.not_lt, Int.not_le, ne_eq] at g1
    refine opW_x (w_fieldAddr rfl rfl fo28x1 rfl ?_)
    refine opW_x (w_load1 rfl rfl lk9 rfl (atL 0 rfl rfl rfl) ?_)
    refine opW_x (w_retB rfl rfl en26 rfl (specDomain_c _ (by first | assumption | omega | (simp; omega)) _) ?_)
    refine opW_x (w_pickT rfl rfl rfl rfl ?_)
    refine opW_x (w_assign rfl rfl rfl ?_)
    refine w_keep [(0, _), (1, _), (2, _)] ⟨rfl, rfl, rfl, trivial⟩ ?_
    refine w_ret ?_
    exact end0 .ret (.inl rfl) [_] ⟨rfl, trivial⟩ ⟨bool_eq (by simp [*]), rfl, rfl⟩
  · try simp only [decide_eq_true_eq, decide_eq_false_iff_not, Bool.not_eq_true', Bool.not_eq_false', decide_not, Decidable.not_not, Int.not_lt, Int.not_le, ne_eq] at g1
    refine opW_x (w_pass rfl rfl ?_)
    refine opW_x (w_pass rfl rfl ?_)
    refine opW_x (w_pass rfl rfl ?_)
    refine opW_x (w_pickF rfl rfl rfl rfl ?_)
    refine opW_x (w_assign rfl rfl rfl ?_)
    refine w_keep [(0, _), (1, _), (2, _)] ⟨rfl, rfl, rfl, trivial⟩ ?_
    refine w_ret ?_
    exact end0 .ret (.inl rfl) [_] ⟨rfl, trivial⟩ ⟨bool_eq (by simp [*]), rfl, rfl⟩

set_option maxRecDepth 4000 in
set_option maxHeartbeats 400000 in
theorem specAddr_c (l : List UInt8) (hl : l.length ≤ 2000000) (B : Kn) : RetB Try.prog 11 [str l] B (.tuple #[.agg #[str (specParse l).1, str (specParse l).2.1], .bool (specParse l).2.2]) := by
  refine callsB_body 24 Try.func11 rfl rfl rfl (Nat.le_of_ble_eq_true rfl) ?_
  refine w_seq_region ?_
  refine opW_x (w_alloc (l := [_, _]) rfl rfl zo28 rfl (fun b1 => ?_))
  refine opW_x (w_assign rfl rfl rfl ?_)
  refine w_tidy [(0, _), (2, _), (3, _)] [_] ⟨rfl, rfl, rfl, trivial⟩ rfl ?_
  refine w_seq_region ?_
  refine opW_x (w_move rfl rfl rfl ?_)
  refine opW_x (w_new1 rfl rfl en20 rfl (l1Cut_c _ (by first | assumption | omega | (simp; omega)) 64 _) ?_)
  rintro _ _ ⟨q2, cp2, rfl, hs2⟩
  have hv2 := VecR.ofS (B := B) hs2 (fun x hx => Nat.le_trans (cut_len 64 l x hx) hl)
  refine opW_x (w_assign rfl rfl rfl ?_)
  refine w_tidy [(0, _), (2, _), (3, _), (4, _)] [_, _] ⟨rfl, rfl, rfl, rfl, trivial⟩ rfl ?_
  refine w_seq ?_
  refine w_seq_region ?_
  refine opW_x (w_move rfl rfl rfl ?_)
  refine opW_x (w_lenV rfl rfl Try.underlying42 rfl ?_)
  refine opW_x (w_neqI rfl rfl rfl rfl ?_)
  refine w_keep [(0, _), (2, _), (3, _), (4, _), (10, _)] ⟨rfl, rfl, rfl, rfl, rfl, trivial⟩ ?_
  refine w_cond rfl (fun g1 => ?_) (fun g1 => ?_)
  · try simp only [decide_eq_true_eq, decide_eq_false_iff_not, Bool.not_eq_true', Bool.not_eq_false', decide_not, Decidable.not_not, Int.not_lt, Int.not_le, ne_eq] at g1
    refine w_seq_region ?_
    refine opW_x (w_build (parts := []) [_, _] [_, _] rfl rfl pl28 zo28 rfl rfl rfl ?_)
    refine opW_x (w_store [_, _] 0 [_, _] rfl rfl sz28 rfl rfl rfl rfl rfl rfl rfl rfl ?_)
    refine opW_x (w_assign rfl rfl rfl ?_)
    refine w_tidy [(0, _), (2, _), (3, _), (4, _), (10, _)] [_, _] ⟨rfl, rfl, rfl, rfl, rfl, trivial⟩ rfl ?_
    refine w_ret (thn_r ?_)
    exact end0 .ret (.inl rfl) [_, _] ⟨⟨_, rfl, .inr ⟨[_, _], lk28, rowL 0 rfl rfl rfl, rfl⟩⟩, rfl, trivial⟩ ⟨by rw [specParse_not (by omega)]; rfl, rfl, rfl⟩
  · try simp only [decide_eq_true_eq, decide_eq_false_iff_not, Bool.not_eq_true', Bool.not_eq_false', decide_not, Decidable.not_not, Int.not_lt, Int.not_le, ne_eq] at g1
    refine w_skip ?_
    refine thn_n ?_
    refine w_seq ?_
    refine w_draw (keeps _ [1] _) mo (by kernel_rfl) ⟨Kn.le.refl _, keepsL.refl _ _⟩ ?_
    refine any_takeP 0 rfl (by kernel_rfl) rfl (fun D B L => w_move rfl rfl rfl ⟨rfl, rfl, rfl, rfl⟩) ?_
    obtain ⟨x, hx⟩ := getLt (xs := (cut 64 l)) (i := 0) (by first | omega | (simp; done) | (simp; omega))
    obtain ⟨bb4, _, hp4, ⟨rfl, hb4⟩, hw4, hc4⟩ := hv2.row hx
    refine any_take 1 rfl (by kernel_rfl) rfl (q_ofI fun D B L hI => w_ixP hp4 rfl rfl Try.underlying42 sz9 rfl rfl (by first | omega | (simp; done) | (simp; omega)) (by first | omega | (simp; done) | (simp; omega)) ⟨rfl, rfl, rfl, rfl⟩) ?_
    refine any_take 2 rfl (by kernel_rfl) rfl (q_ofI fun D B L hI => w_load1 rfl rfl lk9 rfl (hc4 _ 1 (hI.2.1.trans rfl) 0 _ rfl) ⟨rfl, rfl, rfl, rfl⟩) ?_
    refine any_takeP 3 rfl (by kernel_rfl) rfl (fun D B L => w_move rfl rfl rfl ⟨rfl, rfl, rfl, rfl⟩) ?_
    obtain ⟨y, hy⟩ := getLt (xs := (cut 64 l)) (i := 1) (by first | omega | (simp; done) | (simp; omega))
    obtain ⟨bb6, _, hp6, ⟨rfl, hb6⟩, hw6, hc6⟩ := hv2.row hy
    refine any_take 4 rfl (by kernel_rfl) rfl (q_ofI fun D B L hI => w_ixP hp6 rfl rfl Try.underlying42 sz9 rfl rfl (by first | omega | (simp; done) | (simp; omega)) (by first | omega | (simp; done) | (simp; omega)) ⟨rfl, rfl, rfl, rfl⟩) ?_
    refine any_take 5 rfl (by kernel_rfl) rfl (q_ofI fun D B L hI => w_load1 rfl rfl lk9 rfl (hc6 _ 1 (hI.2.1.trans rfl) 0 _ rfl) ⟨rfl, rfl, rfl, rfl⟩) ?_
    refine any_take 6 rfl (by kernel_rfl) rfl (q_ofI fun D B L hI => w_build (parts := [(0, _), (1, _)]) [_, _] [_, _] rfl rfl pl28 zo28 rfl rfl rfl ⟨rfl, rfl, rfl, rfl⟩) ?_
    refine any_one 7 (by kernel_rfl) rfl (by kernel_rfl) (w_alloc (l := [_, _]) rfl rfl zo28 rfl (fun b7 => ?_))
    refine ⟨⟨Kn.le.refl _, ⟨rfl, trivial⟩⟩, ?_⟩
    refine any_fin 8 (by kernel_rfl) rfl (by kernel_rfl) (by kernel_rfl) (by kernel_rfl) (w_store [_, _] 2 [_, _] rfl rfl sz28 rfl rfl rfl rfl rfl rfl rfl rfl ?_)
    refine thn_n ?_
    refine w_tidy [(0, _), (2, _), (3, _), (4, _), (5, _), (10, _)] [_, _, _] ⟨rfl, rfl, rfl, rfl, rfl, rfl, trivial⟩ rfl ?_
    refine w_seq ?_
    refine w_seq_region ?_
    refine opW_x (w_loadN [_, _] rfl rfl lk28 rfl (rowL 2 rfl rfl rfl) ?_)
    refine opW_x (w_retB rfl rfl en21 rfl (l1Addr_c _ _ (by first | assumption | omega | (simp; omega)) (by first | assumption | omega | (simp; omega)) _) ?_)
    refine opW_x (w_not rfl rfl rfl ?_)
    refine w_keep [(0, _), (2, _), (3, _), (4, _), (5, _), (10, _), (21, _)] ⟨rfl, rfl, rfl, rfl, rfl, rfl, rfl, trivial⟩ ?_
    refine w_cond rfl (fun g2 => ?_) (fun g2 => ?_)
    · try simp only [decide_eq_true_eq, decide_eq_false_iff_not, Bool.not_eq_true', Bool.not_eq_false', decide_not, Decidable.not_not, Int.not_lt, Int.not_le, ne_eq] at g2
      refine w_seq_region ?_
      refine opW_x (w_build (parts := []) [_, _] [_, _] rfl rfl pl28 zo28 rfl rfl rfl ?_)
      refine opW_x (w_store [_, _] 0 [_, _] rfl rfl sz28 rfl rfl rfl rfl rfl rfl rfl rfl ?_)
      refine opW_x (w_assign rfl rfl rfl ?_)
      refine w_tidy [(0, _), (2, _), (3, _), (4, _), (5, _), (10, _), (21, _)] [_, _, _] ⟨rfl, rfl, rfl, rfl, rfl, rfl, rfl, trivial⟩ rfl ?_
      refine w_ret (thn_r ?_)
      exact end0 .ret (.inl rfl) [_, _] ⟨⟨_, rfl, .inr ⟨[_, _], lk28, rowL 0 rfl rfl rfl, rfl⟩⟩, rfl, trivial⟩ ⟨by rw [specParse_two (by omega) hx hy, if_neg (by simpa using g2)]; rfl, rfl, rfl⟩
    · try simp only [decide_eq_true_eq, decide_eq_false_iff_not, Bool.not_eq_true', Bool.not_eq_false', decide_not, Decidable.not_not, Int.not_lt, Int.not_le, ne_eq] at g2
      refine w_skip ?_
      refine thn_n ?_
      refine w_seq_region ?_
      refine opW_x (w_loadN [_, _] rfl rfl lk28 rfl (rowL 2 rfl rfl rfl) ?_)
      refine opW_x (w_store [_, _] 0 [_, _] rfl rfl sz28 rfl rfl rfl rfl rfl rfl rfl rfl ?_)
      refine opW_x (w_assign rfl rfl rfl ?_)
      refine w_tidy [(0, _), (2, _), (3, _), (4, _), (5, _), (10, _), (21, _)] [_, _, _] ⟨rfl, rfl, rfl, rfl, rfl, rfl, rfl, trivial⟩ rfl ?_
      refine w_ret ?_
      exact end0 .ret (.inl rfl) [_, _] ⟨⟨_, rfl, .inr ⟨[_, _], lk28, rowL 0 rfl rfl rfl, rfl⟩⟩, rfl, trivial⟩ ⟨by rw [specParse_two (by omega) hx hy, if_pos (by simpa using g2)]; rfl, rfl, rfl⟩

set_option maxRecDepth 4000 in
set_option maxHeartbeats 400000 in
theorem l91Domain_c (b : Nat) (q : Option Addr) (m cp p : Nat) (hp : p ≤ 900000000000) (hm : m ≤ 2000) (B : Kn) (hbm : BytesAt B q m) : Ex1 Try.prog 17 [ptr ⟨b, 0, none⟩] B (rd b q m cp p) (fun v s => ∃ x : Str, v = str x ∧ x.length ≤ 40 ∧ s = rd b q m cp (p + 2)) := by
  refine callsB_body 12 Try.func17 rfl rfl rfl (Nat.le_of_ble_eq_true rfl) ?_
  refine w_seq_region ?_
  refine opW_x (w_assign rfl rfl rfl ?_)
  refine w_keep [(0, _), (2, _)] ⟨rfl, rfl, trivial⟩ ?_
  refine w_seq ?_
  refine w_seq_region ?_
  refine opW_x (w_move rfl rfl rfl ?_)
  refine opW_x (w_ex1 0 rfl rfl rfl en18 rfl (pick_c _ _ _ _ _ _ (by omega) (by omega) (by omega) hm _ hbm) ?_)
  rintro _ _ ⟨r1, rfl, r1a, r1b, rfl⟩
  refine opW_x (w_eqlI rfl rfl rfl rfl ?_)
  refine w_tidy [(0, _), (2, _), (5, _)] [_] ⟨rfl, rfl, rfl, trivial⟩ rfl ?_
  refine w_cond rfl (fun g1 => ?_) (fun g1 => ?_)
  · try simp only [decide_eq_true_eq, decide_eq_false_iff_not, Bool.not_eq_true', Bool.not_eq_false', decide_not, Decidable.not_not, Int.not_lt, Int.not_le, ne_eq] at g1
    refine w_seq_region ?_
    refine opW_x (w_move rfl rfl rfl ?_)
    refine opW_x (w_buildSlice (parts := [(0, _), (1, _), (2, _), (3, _), (4, _), (5, _), (6, _), (7, _), (8, _)]) [_, _, _, _, _, _, _, _, _] rfl rfl Try.underlying42 sz9 zo9 rfl rfl rfl rfl rfl (fun b2 => ?_))
    refine opW_x (w_callN [0, 1] rfl rfl rfl rfl en22 rfl (of_c _ _ _ _ _ _ ([[], [46], [97, 46, 46, 98], [97, 46, 98, 46, 99, 46, 100], [97, 46, 98, 46, 99], [97, 98, 99, 100, 101, 102, 103, 104, 46, 97, 98, 99, 100, 101, 102, 103, 104, 46, 97, 98, 99], [97, 98, 99, 100, 101, 102, 103, 104, 46, 97, 98, 99, 100, 101, 102, 103, 104, 46, 97, 98], [104, 111, 115, 116, 46], [72, 111, 115, 116, 46, 111, 114, 103]] : List Str) (by omega) (by decide) (by decide) hm _ hbm) ?_)
    rintro _ _ _ hle3 ⟨rfl, x3, hx3, rfl, rfl⟩
    replace hx3 := (show ∀ y ∈ ( ([[], [46], [97, 46, 46, 98], [97, 46, 98, 46, 99, 46, 100], [97, 46, 98, 46, 99], [97, 98, 99, 100, 101, 102, 103, 104, 46, 97, 98, 99, 100, 101, 102, 103, 104, 46, 97, 98, 99], [97, 98, 99, 100, 101, 102, 103, 104, 46, 97, 98, 99, 100, 101, 102, 103, 104, 46, 97, 98], [104, 111, 115, 116, 46], [72, 111, 115, 116, 46, 111, 114, 103]] : List Str) : List Str), y.length ≤ 40 from by decide) _ hx3
    refine opW_x (w_assign rfl rfl rfl ?_)
    refine w_tidy [(0, _), (2, _), (5, _)] [_, _] ⟨rfl, rfl, rfl, trivial⟩ rfl ?_
    refine w_ret (thn_r ?_)
    exact end1 .ret (.inl rfl) [_] 0 rfl ⟨rfl, trivial⟩ ⟨rfl, _, rfl, _, rfl, hx3, rfl⟩
  · try simp only [decide_eq_true_eq, decide_eq_false_iff_not, Bool.not_eq_true', Bool.not_eq_false', decide_not, Decidable.not_not, Int.not_lt, Int.not_le, ne_eq] at g1
    refine w_skip ?_
    refine thn_n ?_
    refine w_seq_region ?_
    refine opW_x (w_move rfl rfl rfl ?_)
    refine opW_x (w_buildSlice (parts := [(0, _), (1, _), (2, _), (3, _)]) [_, _, _, _] rfl rfl Try.underlying42 sz9 zo9 rfl rfl rfl rfl rfl (fun b4 => ?_))
    refine opW_x (w_callN [0, 1] rfl rfl rfl rfl en22 rfl (of_c _ _ _ _ _ _ ([[104, 111, 115, 116, 46, 111, 114, 103], [104, 111, 115, 116], [97, 46, 98, 46, 99], [111, 116, 104, 101, 114, 46, 110, 101, 116]] : List Str) (by omega) (by decide) (by decide) hm _ hbm) ?_)
    rintro _ _ _ hle5 ⟨rfl, x5, hx5, rfl, rfl⟩
    replace hx5 := (show ∀ y ∈ ( ([[104, 111, 115, 116, 46, 111, 114, 103], [104, 111, 115, 116], [97, 46, 98, 46, 99], [111, 116, 104, 101, 114, 46, 110, 101, 116]] : List Str) : List Str), y.length ≤ 40 from by decide) _ hx5
    refine opW_x (w_assign rfl rfl rfl ?_)
    refine w_tidy [(0, _), (2, _), (5, _)] [_, _] ⟨rfl, rfl, rfl, trivial⟩ rfl ?_
    refine w_ret ?_
    exact end1 .ret (.inl rfl) [_] 0 rfl ⟨rfl, trivial⟩ ⟨rfl, _, rfl, _, rfl, hx5, rfl⟩

set_option maxRecDepth 4000 in
set_option maxHeartbeats 400000 in
theorem DrawAddr_c (q : Option Addr) (m cp : Nat) (hmc : m ≤ cp) (B : Kn) (hb : BytesAt B q m) : Ex0 Try.prog 9 [.slice q m cp] B (fun v => ∃ x : Str, v = str x ∧ x.length ≤ 100) := by
  refine callsB_body 24 Try.func9 rfl rfl rfl (Nat.le_of_ble_eq_true rfl) ?_
  refine w_seq_region ?_
  refine opW_x (w_assign rfl rfl rfl ?_)
  refine w_keep [(0, _), (2, _)] ⟨rfl, rfl, trivial⟩ ?_
  refine w_seq_region ?_
  refine opW_x (w_move rfl rfl rfl ?_)
  refine opW_x (w_new1 rfl rfl en13 rfl (l6Open_c _ _ _ (by omega) _ (by assumption)) ?_)
  rintro _ _ ⟨b1, q1, m1, cp1, rfl, rfl, hm, hbm⟩
  refine opW_x (w_assign rfl rfl rfl ?_)
  refine w_tidy [(0, _), (2, _), (3, _)] [_] ⟨rfl, rfl, rfl, trivial⟩ rfl ?_
  refine w_seq_region ?_
  refine opW_x (w_move rfl rfl rfl ?_)
  refine opW_x (w_ex1 0 rfl rfl rfl en12 rfl (l91Name_c _ _ _ _ _ (by omega) hm _ hbm) ?_)
  rintro _ _ ⟨x2, rfl, hx2, rfl⟩
  refine opW_x (w_cat rfl rfl rfl rfl (by first | omega | (simp; omega)) ?_)
  refine opW_x (w_move rfl rfl rfl ?_)
  refine opW_x (w_ex1 0 rfl rfl rfl en17 rfl (l91Domain_c _ _ _ _ _ (by omega) hm _ hbm) ?_)
  rintro _ _ ⟨x3, rfl, hx3, rfl⟩
  refine opW_x (w_cat rfl rfl rfl rfl (by first | omega | (simp; omega)) ?_)
  refine opW_x (w_assign rfl rfl rfl ?_)
  refine w_tidy [(0, _), (2, _), (3, _), (4, _)] [_] ⟨rfl, rfl, rfl, rfl, trivial⟩ rfl ?_
  refine w_seq ?_
  refine w_seq_region ?_
  refine opW_x (w_move rfl rfl rfl ?_)
  refine opW_x (w_ex1 0 rfl rfl rfl en18 rfl (pick_c _ _ _ _ _ _ (by omega) (by omega) (by omega) hm _ hbm) ?_)
  rintro _ _ ⟨r4, rfl, r4a, r4b, rfl⟩
  refine w_tidy [(0, _), (2, _), (3, _), (4, _), (14, _)] [_] ⟨rfl, rfl, rfl, rfl, rfl, trivial⟩ rfl ?_
  refine w_block ?_
  refine w_seq_region ?_
  refine opW_x (w_eqlI rfl rfl rfl rfl ?_)
  refine opW_x (w_assign rfl rfl rfl ?_)
  refine w_keep [(0, _), (2, _), (3, _), (4, _), (14, _), (15, _)] ⟨rfl, rfl, rfl, rfl, rfl, rfl, trivial⟩ ?_
  refine w_cond rfl (fun g1 => ?_) (fun g1 => ?_)
  · try simp only [decide_eq_true_eq, decide_eq_false_iff_not, Bool.not_eq_true', Bool.not_eq_false', decide_not, Decidable.not_not, Int.not_lt, Int.not_le, ne_eq] at g1
    refine w_seq_region ?_
    refine opW_x (w_move rfl rfl rfl ?_)
    refine opW_x (w_cat rfl rfl rfl rfl (by first | omega | (simp; omega)) ?_)
    refine opW_x (w_assign rfl rfl rfl ?_)
    refine w_keep [(0, _), (2, _), (3, _), (4, _), (14, _), (15, _)] ⟨rfl, rfl, rfl, rfl, rfl, rfl, trivial⟩ ?_
    refine w_ret (inB_r (thn_r ?_))
    exact end0 .ret (.inl rfl) [_] ⟨rfl, trivial⟩ ⟨rfl, rfl, _, rfl, by simp; omega⟩
  · try simp only [decide_eq_true_eq, decide_eq_false_iff_not, Bool.not_eq_true', Bool.not_eq_false', decide_not, Decidable.not_not, Int.not_lt, Int.not_le, ne_eq] at g1
    refine w_seq_region ?_
    refine opW_x (w_eqlI rfl rfl rfl rfl ?_)
    refine opW_x (w_assign rfl rfl rfl ?_)
    refine w_keep [(0, _), (2, _), (3, _), (4, _), (14, _), (15, _), (19, _)] ⟨rfl, rfl, rfl, rfl, rfl, rfl, rfl, trivial⟩ ?_
    refine w_cond rfl (fun g2 => ?_) (fun g2 => ?_)
    · try simp only [decide_eq_true_eq, decide_eq_false_iff_not, Bool.not_eq_true', Bool.not_eq_false', decide_not, Decidable.not_not, Int.not_lt, Int.not_le, ne_eq] at g2
      refine w_seq_region ?_
      refine opW_x (w_move rfl rfl rfl ?_)
      refine opW_x (w_ex1 0 rfl rfl rfl en12 rfl (l91Name_c _ _ _ _ _ (by omega) hm _ hbm) ?_)
      rintro _ _ ⟨x5, rfl, hx5, rfl⟩
      refine opW_x (w_assign rfl rfl rfl ?_)
      refine w_tidy [(0, _), (2, _), (3, _), (4, _), (14, _), (15, _), (19, _)] [_] ⟨rfl, rfl, rfl, rfl, rfl, rfl, rfl, trivial⟩ rfl ?_
      refine w_ret (inB_r (thn_r ?_))
      exact end0 .ret (.inl rfl) [_] ⟨rfl, trivial⟩ ⟨rfl, rfl, _, rfl, by omega⟩
    · try simp only [decide_eq_true_eq, decide_eq_false_iff_not, Bool.not_eq_true', Bool.not_eq_false', decide_not, Decidable.not_not, Int.not_lt, Int.not_le, ne_eq] at g2
      refine w_skip ?_
      refine inB_n (thn_n ?_)
      refine w_seq_region ?_
      refine opW_x (w_move rfl rfl rfl ?_)
      refine opW_x (w_assign rfl rfl rfl ?_)
      refine w_keep [(0, _), (2, _), (3, _), (4, _), (14, _), (15, _), (19, _)] ⟨rfl, rfl, rfl, rfl, rfl, rfl, rfl, trivial⟩ ?_
      refine w_ret ?_
      exact end0 .ret (.inl rfl) [_] ⟨rfl, trivial⟩ ⟨rfl, rfl, _, rfl, by simp; omega⟩

set_option maxRecDepth 4000 in
set_option maxHeartbeats 400000 in
theorem fnAddressSign_w (W : World) (q1 q2 : Option Addr) (m1 c1 m2 c2 : Nat) (h1 : m1 ≤ c1) (h2 : m2 ≤ c2) (hb1 : BytesAt (allOf W) q1 m1) (hb2 : BytesAt (allOf W) q2 m2) : Calls Try.prog 4 [.slice q1 m1 c1, .slice q2 m2 c2].toArray W fun e w' => ∃ v, e = .returned v ∧ Kept W w' ∧ ∃ (B' : Kn) (Ls' : List Cells), Sat B' Ls'.flatten w' ∧ v = .bool true := by
  refine calls_of (args := [.slice q1 m1 c1, .slice q2 m2 c2]) 66 Try.func4 rfl rfl rfl (Nat.le_of_ble_eq_true rfl) ?_
  generalize allOf W = B at hb1 hb2 ⊢
  refine w_seq_region ?_
  refine opW_x (w_assign rfl rfl rfl ?_)
  refine w_keep [(0, _), (1, _), (4, _)] ⟨rfl, rfl, rfl, trivial⟩ ?_
  refine w_seq ?_
  refine w_seq_region ?_
  refine opW_x (w_move rfl rfl rfl ?_)
  refine opW_x (w_lenV rfl rfl Try.underlying22 rfl ?_)
  refine opW_x (w_gtr rfl rfl rfl rfl ?_)
  refine opW_x (w_move rfl rfl rfl ?_)
  refine r_split (d := 15) rfl (fun g1 => ?_) (fun g1 => ?_)
  · try simp only [decide_eq_true_eq, decide_eq_false_iff_not, Bool.not_eq_true', Bool.not_eq_false', decide_not, Decidable.not_not, Int.not_lt, Int.not_le, ne_eq] at g1
    refine opW_x (w_pass rfl rfl ?_)
    refine opW_x (w_pass rfl rfl ?_)
    refine opW_x (w_pass rfl rfl ?_)
    refine opW_x (w_pickT rfl rfl rfl rfl ?_)
    refine w_keep [(0, _), (1, _), (4, _), (19, _)] ⟨rfl, rfl, rfl, rfl, trivial⟩ ?_
    refine w_cond (t := true) rfl (fun _ => ?_) (fun h => Bool.noConfusion h)
    refine w_seq_region ?_
    refine opW_x (w_assign rfl rfl rfl ?_)
    refine w_keep [(0, _), (1, _), (4, _), (19, _)] ⟨rfl, rfl, rfl, rfl, trivial⟩ ?_
    refine w_ret (thn_r ?_)
    exact end0 .ret (.inl rfl) [_] ⟨rfl, trivial⟩ (by first | rfl | exact bool_eq (by simp [*]))
  · try simp only [decide_eq_true_eq, decide_eq_false_iff_not, Bool.not_eq_true', Bool.not_eq_false', decide_not, Decidable.not_not, Int.not_lt, Int.not_le, ne_eq] at g1
    refine opW_x (w_move rfl rfl rfl ?_)
    refine opW_x (w_lenV rfl rfl Try.underlying22 rfl ?_)
    refine opW_x (w_gtr rfl rfl rfl rfl ?_)
    refine opW_x (w_pickF rfl rfl rfl rfl ?_)
    refine w_keep [(0, _), (1, _), (4, _), (19, _)] ⟨rfl, rfl, rfl, rfl, trivial⟩ ?_
    refine w_cond rfl (fun g2 => ?_) (fun g2 => ?_)
    · try simp only [decide_eq_true_eq, decide_eq_false_iff_not, Bool.not_eq_true', Bool.not_eq_false', decide_not, Decidable.not_not, Int.not_lt, Int.not_le, ne_eq] at g2
      refine w_seq_region ?_
      refine opW_x (w_assign rfl rfl rfl ?_)
      refine w_keep [(0, _), (1, _), (4, _), (19, _)] ⟨rfl, rfl, rfl, rfl, trivial⟩ ?_
      refine w_ret (thn_r ?_)
      exact end0 .ret (.inl rfl) [_] ⟨rfl, trivial⟩ (by first | rfl | exact bool_eq (by simp [*]))
    · try simp only [decide_eq_true_eq, decide_eq_false_iff_not, Bool.not_eq_true', Bool.not_eq_false', decide_not, Decidable.not_not, Int.not_lt, Int.not_le, ne_eq] at g2
      refine w_skip ?_
      refine thn_n ?_
      refine w_seq_region ?_
      refine opW_x (w_move rfl rfl rfl ?_)
      refine opW_x (w_ex0 rfl rfl en9 rfl (DrawAddr_c _ _ _ (by omega) _ (by assumption)) ?_)
      rintro _ ⟨x1, rfl, hx1⟩
      refine opW_x (w_assign rfl rfl rfl ?_)
      refine w_keep [(0, _), (1, _), (4, _), (5, _), (19, _)] ⟨rfl, rfl, rfl, rfl, rfl, trivial⟩ ?_
      refine w_seq_region ?_
      refine opW_x (w_move rfl rfl rfl ?_)
      refine opW_x (w_retB rfl rfl en10 rfl (implAddr2_c _ (by first | assumption | omega | (simp; omega)) _) ?_)
      refine opW_x (w_move rfl rfl rfl ?_)
      refine opW_x (w_extract rfl rfl rfl rfl ?_)
      refine opW_x (w_extract rfl rfl rfl rfl ?_)
      refine opW_x (w_alloc (l := [_, _]) rfl rfl zo28 rfl (fun b3 => ?_))
      refine opW_x (w_store [_, _] 0 [_, _] rfl rfl sz28 rfl rfl rfl rfl rfl rfl rfl rfl ?_)
      refine opW_x (w_assign rfl rfl rfl ?_)
      refine w_tidy [(0, _), (1, _), (4, _), (5, _), (6, _), (7, _), (19, _)] [_] ⟨rfl, rfl, rfl, rfl, rfl, rfl, rfl, trivial⟩ rfl ?_
      refine w_seq_region ?_
      refine opW_x (w_move rfl rfl rfl ?_)
      refine opW_x (w_retB rfl rfl en11 rfl (specAddr_c _ (by first | assumption | omega | (simp; omega)) _) ?_)
      refine opW_x (w_move rfl rfl rfl ?_)
      refine opW_x (w_extract rfl rfl rfl rfl ?_)
      refine opW_x (w_extract rfl rfl rfl rfl ?_)
      refine opW_x (w_alloc (l := [_, _]) rfl rfl zo28 rfl (fun b5 => ?_))
      refine opW_x (w_store [_, _] 1 [_, _] rfl rfl sz28 rfl rfl rfl rfl rfl rfl rfl rfl ?_)
      refine opW_x (w_assign rfl rfl rfl ?_)
      refine w_tidy [(0, _), (1, _), (4, _), (5, _), (6, _), (7, _), (8, _), (9, _), (19, _)] [_, _] ⟨rfl, rfl, rfl, rfl, rfl, rfl, rfl, rfl, rfl, trivial⟩ rfl ?_
      refine w_seq ?_
      refine w_seq_region ?_
      refine opW_x (w_move rfl rfl rfl ?_)
      refine opW_x (w_move rfl rfl rfl ?_)
      refine opW_x (w_neqE rfl rfl rfl rfl rfl (eqBool Try.underlying4) ?_)
      refine opW_x (w_move rfl rfl rfl ?_)
      refine r_split (d := 35) rfl (fun g3 => by simp at g3) (fun g3 => ?_)
      try simp only [decide_eq_true_eq, decide_eq_false_iff_not, Bool.not_eq_true', Bool.not_eq_false', decide_not, Decidable.not_not, Int.not_lt, Int.not_le, ne_eq] at g3
      refine opW_x (w_loadN [_, _] rfl rfl lk28 rfl (rowL 0 rfl rfl rfl) ?_)
      refine opW_x (w_loadN [_, _] rfl rfl lk28 rfl (rowL 1 rfl rfl rfl) ?_)
      refine opW_x (w_neqF (rs := [_, _]) rfl rfl rfl rfl flat28 ⟨⟨_, _, rfl, rfl, eqIn_str Try.underlying9⟩, ⟨_, _, rfl, rfl, eqIn_str Try.underlying9⟩, trivial⟩ ?_)
      refine opW_x (w_pickF rfl rfl rfl rfl ?_)
      refine opW_x (w_move rfl rfl rfl ?_)
      refine r_split (d := 40) rfl (fun g4 => by simp at g4) (fun g4 => ?_)
      try simp only [decide_eq_true_eq, decide_eq_false_iff_not, Bool.not_eq_true', Bool.not_eq_false', decide_not, Decidable.not_not, Int.not_lt, Int.not_le, ne_eq] at g4
      refine opW_x (w_move rfl rfl rfl ?_)
      refine opW_x (w_not rfl rfl rfl ?_)
      refine opW_x (w_pickF rfl rfl rfl rfl ?_)
      refine w_keep [(0, _), (1, _), (4, _), (5, _), (6, _), (7, _), (8, _), (9, _), (19, _), (43, _)] ⟨rfl, rfl, rfl, rfl, rfl, rfl, rfl, rfl, rfl, rfl, trivial⟩ ?_
      refine w_cond rfl (fun g5 => ?_) (fun g5 => ?_)
      · try simp only [decide_eq_true_eq, decide_eq_false_iff_not, Bool.not_eq_true', Bool.not_eq_false', decide_not, Decidable.not_not, Int.not_lt, Int.not_le, ne_eq] at g5
        refine w_seq_region ?_
        refine opW_x (w_move rfl rfl rfl ?_)
        refine opW_x (w_move rfl rfl rfl ?_)
        refine opW_x (w_eqlE rfl rfl rfl rfl rfl (eqBool Try.underlying4) ?_)
        refine opW_x (w_move rfl rfl rfl ?_)
        refine r_split (d := 47) rfl (fun g6 => ?_) (fun g6 => by simp at g6)
        try simp only [decide_eq_true_eq, decide_eq_false_iff_not, Bool.not_eq_true', Bool.not_eq_false', decide_not, Decidable.not_not, Int.not_lt, Int.not_le, ne_eq] at g6
        refine opW_x (w_loadN [_, _] rfl rfl lk28 rfl (rowL 0 rfl rfl rfl) ?_)
        refine opW_x (w_loadN [_, _] rfl rfl lk28 rfl (rowL 1 rfl rfl rfl) ?_)
        refine opW_x (w_eqlF (rs := [_, _]) rfl rfl rfl rfl flat28 ⟨⟨_, _, rfl, rfl, eqIn_str Try.underlying9⟩, ⟨_, _, rfl, rfl, eqIn_str Try.underlying9⟩, trivial⟩ ?_)
        refine opW_x (w_pickT rfl rfl rfl rfl ?_)
        refine opW_x (w_assign rfl rfl rfl ?_)
        refine w_keep [(0, _), (1, _), (4, _), (5, _), (6, _), (7, _), (8, _), (9, _), (19, _), (43, _)] ⟨rfl, rfl, rfl, rfl, rfl, rfl, rfl, rfl, rfl, rfl, trivial⟩ ?_
        refine w_ret (thn_r ?_)
        exact end0 .ret (.inl rfl) [_] ⟨rfl, trivial⟩ (by first | rfl | exact bool_eq (by simp [*]))
      · try simp only [decide_eq_true_eq, decide_eq_false_iff_not, Bool.not_eq_true', Bool.not_eq_false', decide_not, Decidable.not_not, Int.not_lt, Int.not_le, ne_eq] at g5
        have hk : m2 % (x1.length + 1) < x1.length + 1 := Nat.mod_lt _ (Nat.succ_pos _)
        refine w_skip ?_
        refine thn_n ?_
        refine w_seq_region ?_
        refine opW_x (w_move rfl rfl rfl ?_)
        refine opW_x (w_move rfl rfl rfl ?_)
        refine opW_x (w_lenV rfl rfl Try.underlying22 rfl ?_)
        refine opW_x (w_move rfl rfl rfl ?_)
        refine opW_x (w_lenS rfl rfl Try.underlying9 rfl ?_)
        refine opW_x (w_add rfl rfl rfl rfl (by first | exact wrI64 (by first | omega | (simp; done) | (simp; omega)) (by first | omega | (simp; done) | (simp; omega)) | rfl) ?_)
        refine opW_x (w_rem rfl rfl rfl rfl (by omega) rfl ?_)
        refine opW_x (w_retB rfl rfl en8 rfl (put_c _ (m2 % (x1.length + 1)) _ (by omega) (by omega) (by decide) _) ?_)
        refine opW_x (w_retB rfl rfl en10 rfl (implAddr2_c _ (by first | assumption | omega | (simp; omega)) _) ?_)
        refine opW_x (w_move rfl rfl rfl ?_)
        refine opW_x (w_extract rfl rfl rfl rfl ?_)
        refine opW_x (w_extract rfl rfl rfl rfl ?_)
        refine opW_x (w_alloc (l := [_, _]) rfl rfl zo28 rfl (fun b8 => ?_))
        refine opW_x (w_store [_, _] 2 [_, _] rfl rfl sz28 rfl rfl rfl rfl rfl rfl rfl rfl ?_)
        refine opW_x (w_assign rfl rfl rfl ?_)
        refine w_tidy [(0, _), (1, _), (4, _), (5, _), (6, _), (7, _), (8, _), (9, _), (11, _), (19, _), (43, _)] [_, _, _] ⟨rfl, rfl, rfl, rfl, rfl, rfl, rfl, rfl, rfl, rfl, rfl, trivial⟩ rfl ?_
        refine w_seq_region ?_
        refine opW_x (w_move rfl rfl rfl ?_)
        refine opW_x (w_not rfl rfl rfl ?_)
        refine opW_x (w_assign rfl rfl rfl ?_)
        refine w_keep [(0, _), (1, _), (4, _), (5, _), (6, _), (7, _), (8, _), (9, _), (11, _), (19, _), (43, _)] ⟨rfl, rfl, rfl, rfl, rfl, rfl, rfl, rfl, rfl, rfl, rfl, trivial⟩ ?_
        refine w_ret ?_
        exact end0 .ret (.inl rfl) [_] ⟨rfl, trivial⟩ (bool_eq (by rw [← parse_spec, parse_put (by rw [parse_spec]; simpa using g5)]; rfl))

end Go.Proofs.Ytdifmgelnkdojaa
