/-
  WHAT THE FUNCTIONS THAT THE LAWS REACH COMPUTE: each function's contract, proved off its printed body (the text is written by program). No condition beyond those that each theorem states.
-/
import Derived.Test.YtjechkhbcnpmfaaRows
import Derived.Test.YtjechkhbcnpmfaaB1
import Derived.KernelRfl
namespace Go.Proofs.Ytjechkhbcnpmfaa
open Go Go.BL
set_option linter.unusedVariables false
set_option linter.unusedSimpArgs false
noncomputable abbrev pj (J : JoinT) : PJ := ⟨Try.prog, J⟩
theorem en39 : enters Try.prog 39 = true := by kernel_rfl
theorem mo : Try.prog.follows .mixedOrders = true := by kernel_rfl
theorem fo56x1 : fieldOff Try.prog 56 1 = some 1 := by kernel_rfl
theorem lk3 : lk Try.prog 3 = some none := by kernel_rfl
theorem fo56x0 : fieldOff Try.prog 56 0 = some 0 := by kernel_rfl
theorem lk9 : lk Try.prog 9 = some none := by kernel_rfl
theorem en19 : enters Try.prog 19 = true := by kernel_rfl
theorem sz3 : sizeIs Try.prog 3 = some 1 := by kernel_rfl
theorem en47 : enters Try.prog 47 = true := by kernel_rfl
theorem en34 : enters Try.prog 34 = true := by kernel_rfl
theorem en35 : enters Try.prog 35 = true := by kernel_rfl
theorem pl56 : placesOf Try.prog 56 = some [(0, 1), (1, 1)] := by kernel_rfl
theorem zo56 : zeroOf Try.prog 56 = some (.agg #[.string ⟨#[]⟩, .int .i64 0]) := by kernel_rfl
theorem sz56 : sizeIs Try.prog 56 = some 2 := by kernel_rfl
theorem sz5 : sizeIs Try.prog 5 = some 1 := by kernel_rfl
theorem pl62 : placesOf Try.prog 62 = some [(0, 1), (1, 1)] := by kernel_rfl
theorem zo62 : zeroOf Try.prog 62 = some (.agg #[.slice none 0 0, .int .i64 0]) := by kernel_rfl
theorem fo62x1 : fieldOff Try.prog 62 1 = some 1 := by kernel_rfl
theorem fo62x0 : fieldOff Try.prog 62 0 = some 0 := by kernel_rfl
theorem lk22 : lk Try.prog 22 = some none := by kernel_rfl
theorem lk5 : lk Try.prog 5 = some none := by kernel_rfl
theorem en21 : enters Try.prog 21 = true := by kernel_rfl
theorem sz9 : sizeIs Try.prog 9 = some 1 := by kernel_rfl
theorem zo9 : zeroOf Try.prog 9 = some (.string ⟨#[]⟩) := by kernel_rfl
theorem en22 : enters Try.prog 22 = true := by kernel_rfl
theorem eo65 : elemOk Try.prog 65 9 1 16 = true := by kernel_rfl
theorem su65 : (match Program.underlying Try.prog 65 with | some (.slice _) => true | _ => false) = true := by kernel_rfl
theorem en37 : enters Try.prog 37 = true := by kernel_rfl
theorem en38 : enters Try.prog 38 = true := by kernel_rfl
theorem sz43 : sizeIs Try.prog 43 = some 3 := by kernel_rfl
theorem fo43x0 : fieldOff Try.prog 43 0 = some 0 := by kernel_rfl
theorem en51 : enters Try.prog 51 = true := by kernel_rfl
theorem fo82x0 : fieldOff Try.prog 82 0 = some 0 := by kernel_rfl
theorem fo82x1 : fieldOff Try.prog 82 1 = some 1 := by kernel_rfl
theorem lk65 : lk Try.prog 65 = some none := by kernel_rfl
theorem en48 : enters Try.prog 48 = true := by kernel_rfl
theorem fo82x2 : fieldOff Try.prog 82 2 = some 2 := by kernel_rfl
theorem fo29x0 : fieldOff Try.prog 29 0 = some 0 := by kernel_rfl
theorem fo29x1 : fieldOff Try.prog 29 1 = some 1 := by kernel_rfl
theorem lk27 : lk Try.prog 27 = some none := by kernel_rfl
theorem sz71 : sizeIs Try.prog 71 = some 4 := by kernel_rfl
theorem lk71 : lk Try.prog 71 = some (some 4) := by kernel_rfl
theorem zo71 : zeroOf Try.prog 71 = some (.agg #[.int .i64 0, .string ⟨#[]⟩, .string ⟨#[]⟩, .slice none 0 0]) := by kernel_rfl
theorem fo71x0 : fieldOff Try.prog 71 0 = some 0 := by kernel_rfl
theorem fo71x1 : fieldOff Try.prog 71 1 = some 1 := by kernel_rfl
theorem fo71x2 : fieldOff Try.prog 71 2 = some 2 := by kernel_rfl
theorem fo71x3 : fieldOff Try.prog 71 3 = some 3 := by kernel_rfl
theorem en33 : enters Try.prog 33 = true := by kernel_rfl
theorem pl82 : placesOf Try.prog 82 = some [(0, 1), (1, 1), (2, 1)] := by kernel_rfl
theorem zo82 : zeroOf Try.prog 82 = some (.agg #[.string ⟨#[]⟩, .slice none 0 0, .string ⟨#[]⟩]) := by kernel_rfl
theorem en40 : enters Try.prog 40 = true := by kernel_rfl
theorem fo93x0 : fieldOff Try.prog 93 0 = some 0 := by kernel_rfl
theorem fo93x1 : fieldOff Try.prog 93 1 = some 1 := by kernel_rfl
theorem en52 : enters Try.prog 52 = true := by kernel_rfl
theorem fo93x2 : fieldOff Try.prog 93 2 = some 2 := by kernel_rfl
theorem fo47x1 : fieldOff Try.prog 47 1 = some 1 := by kernel_rfl
theorem lk45 : lk Try.prog 45 = some none := by kernel_rfl
theorem sz93 : sizeIs Try.prog 93 = some 3 := by kernel_rfl
theorem lk93 : lk Try.prog 93 = some (some 3) := by kernel_rfl
theorem en49 : enters Try.prog 49 = true := by kernel_rfl
theorem fo47x0 : fieldOff Try.prog 47 0 = some 0 := by kernel_rfl
theorem en36 : enters Try.prog 36 = true := by kernel_rfl
theorem fo43x1 : fieldOff Try.prog 43 1 = some 1 := by kernel_rfl
theorem fo43x2 : fieldOff Try.prog 43 2 = some 2 := by kernel_rfl
theorem lk43 : lk Try.prog 43 = some (some 3) := by kernel_rfl
theorem zo43 : zeroOf Try.prog 43 = some (.agg #[.string ⟨#[]⟩, .string ⟨#[]⟩, .int .i64 0]) := by kernel_rfl
theorem en20 : enters Try.prog 20 = true := by kernel_rfl
theorem fo31x2 : fieldOff Try.prog 31 2 = some 2 := by kernel_rfl
theorem lk26 : lk Try.prog 26 = some none := by kernel_rfl
theorem sz49 : sizeIs Try.prog 49 = some 5 := by kernel_rfl
theorem fo49x0 : fieldOff Try.prog 49 0 = some 0 := by kernel_rfl
theorem fo49x1 : fieldOff Try.prog 49 1 = some 1 := by kernel_rfl
theorem sz90 : sizeIs Try.prog 90 = some 2 := by kernel_rfl
theorem fo90x0 : fieldOff Try.prog 90 0 = some 0 := by kernel_rfl
theorem fo90x1 : fieldOff Try.prog 90 1 = some 1 := by kernel_rfl
theorem fo31x1 : fieldOff Try.prog 31 1 = some 1 := by kernel_rfl
theorem lk23 : lk Try.prog 23 = some none := by kernel_rfl
theorem en30 : enters Try.prog 30 = true := by kernel_rfl
theorem fo49x3 : fieldOff Try.prog 49 3 = some 3 := by kernel_rfl
theorem lk47 : lk Try.prog 47 = some (some 2) := by kernel_rfl
theorem en44 : enters Try.prog 44 = true := by kernel_rfl
theorem lk49 : lk Try.prog 49 = some (some 5) := by kernel_rfl
theorem zo49 : zeroOf Try.prog 49 = some (.agg #[.string ⟨#[]⟩, .string ⟨#[]⟩, .slice none 0 0, .int .i64 0, .slice none 0 0]) := by kernel_rfl
theorem fo49x2 : fieldOff Try.prog 49 2 = some 2 := by kernel_rfl
theorem lk44 : lk Try.prog 44 = some none := by kernel_rfl
theorem en41 : enters Try.prog 41 = true := by kernel_rfl
theorem en42 : enters Try.prog 42 = true := by kernel_rfl
theorem en43 : enters Try.prog 43 = true := by kernel_rfl
theorem fo31x0 : fieldOff Try.prog 31 0 = some 0 := by kernel_rfl
theorem en24 : enters Try.prog 24 = true := by kernel_rfl
theorem en25 : enters Try.prog 25 = true := by kernel_rfl
theorem fo31x3 : fieldOff Try.prog 31 3 = some 3 := by kernel_rfl
theorem lk29 : lk Try.prog 29 = some (some 2) := by kernel_rfl
theorem en26 : enters Try.prog 26 = true := by kernel_rfl
theorem lk31 : lk Try.prog 31 = some (some 5) := by kernel_rfl
theorem en27 : enters Try.prog 27 = true := by kernel_rfl
theorem en28 : enters Try.prog 28 = true := by kernel_rfl
theorem en29 : enters Try.prog 29 = true := by kernel_rfl
theorem en31 : enters Try.prog 31 = true := by kernel_rfl
theorem en18 : enters Try.prog 18 = true := by kernel_rfl
theorem flat43 : flatOk Try.prog 43 [(0, 9), (1, 9), (2, 3)] = true := by kernel_rfl
theorem lk90 : lk Try.prog 90 = some (some 2) := by kernel_rfl
theorem flat90 : flatOk Try.prog 90 [(0, 9), (1, 3)] = true := by kernel_rfl
theorem flat93 : flatOk Try.prog 93 [(0, 3), (1, 3), (2, 9)] = true := by kernel_rfl
theorem en50 : enters Try.prog 50 = true := by kernel_rfl
theorem en45 : enters Try.prog 45 = true := by kernel_rfl
theorem en46 : enters Try.prog 46 = true := by kernel_rfl
theorem en32 : enters Try.prog 32 = true := by kernel_rfl
theorem en15 : enters Try.prog 15 = true := by kernel_rfl
theorem en16 : enters Try.prog 16 = true := by kernel_rfl
theorem en17 : enters Try.prog 17 = true := by kernel_rfl
theorem pl43 : placesOf Try.prog 43 = some [(0, 1), (1, 1), (2, 1)] := by kernel_rfl
theorem en23 : enters Try.prog 23 = true := by kernel_rfl
theorem zo3 : zeroOf Try.prog 3 = some (.int .i64 0) := by kernel_rfl
theorem eo23 : elemOk Try.prog 23 43 3 40 = true := by kernel_rfl
theorem su23 : (match Program.underlying Try.prog 23 with | some (.slice _) => true | _ => false) = true := by kernel_rfl
theorem en10 : enters Try.prog 10 = true := by kernel_rfl
theorem en11 : enters Try.prog 11 = true := by kernel_rfl
theorem en12 : enters Try.prog 12 = true := by kernel_rfl
theorem zo90 : zeroOf Try.prog 90 = some (.agg #[.string ⟨#[]⟩, .int .i64 0]) := by kernel_rfl
theorem zo93 : zeroOf Try.prog 93 = some (.agg #[.int .i64 0, .int .i64 0, .string ⟨#[]⟩]) := by kernel_rfl
theorem pl47 : placesOf Try.prog 47 = some [(0, 1), (1, 1)] := by kernel_rfl
theorem zo47 : zeroOf Try.prog 47 = some (.agg #[.int .i64 0, .slice none 0 0]) := by kernel_rfl
theorem pl49 : placesOf Try.prog 49 = some [(0, 1), (1, 1), (2, 1), (3, 2)] := by kernel_rfl
theorem zo31 : zeroOf Try.prog 31 = some (.agg #[.string ⟨#[]⟩, .slice none 0 0, .slice none 0 0, .int .i64 0, .slice none 0 0]) := by kernel_rfl
theorem en8 : enters Try.prog 8 = true := by kernel_rfl
theorem pl31 : placesOf Try.prog 31 = some [(0, 1), (1, 1), (2, 1), (3, 2)] := by kernel_rfl
theorem sz31 : sizeIs Try.prog 31 = some 5 := by kernel_rfl
theorem en9 : enters Try.prog 9 = true := by kernel_rfl
theorem pl29 : placesOf Try.prog 29 = some [(0, 1), (1, 1)] := by kernel_rfl
theorem zo29 : zeroOf Try.prog 29 = some (.agg #[.int .i64 0, .slice none 0 0]) := by kernel_rfl
theorem en13 : enters Try.prog 13 = true := by kernel_rfl
theorem eo26 : elemOk Try.prog 26 49 5 88 = true := by kernel_rfl
theorem su26 : (match Program.underlying Try.prog 26 with | some (.slice _) => true | _ => false) = true := by kernel_rfl
theorem sz26 : sizeIs Try.prog 26 = some 1 := by kernel_rfl
theorem en14 : enters Try.prog 14 = true := by kernel_rfl
theorem en4 : enters Try.prog 4 = true := by kernel_rfl
theorem en5 : enters Try.prog 5 = true := by kernel_rfl
theorem en6 : enters Try.prog 6 = true := by kernel_rfl
theorem en7 : enters Try.prog 7 = true := by kernel_rfl
variable {J : JoinT}
abbrev cur (b : Nat) (l : List UInt8) (i : Nat) : Cells := box1 b [str l, .int .i64 i] 56
set_option maxRecDepth 4000 in
set_option maxHeartbeats 400000 in
theorem l6In_c (n lo hi : Int) (B : Kn) : RetB (pj J) 39 [.int .i64 n, .int .i64 lo, .int .i64 hi] B (.bool (decide (lo ≤ n) && decide (n ≤ hi))) := by
  refine cBB 15 Try.func39 rfl rfl rfl (Nat.le_of_ble_eq_true rfl) ?_
  refine wSR ?_
  refine xAs ?_
  refine wKp [(0, _), (1, _), (2, _), (6, _)] ⟨rfl, rfl, rfl, rfl, trivial⟩ ?_
  refine wSR ?_
  refine xMv ?_
  refine xMv ?_
  refine oX (w_geq rfl rfl rfl rfl ?_)
  refine xMv ?_
  refine r_split (d := 10) rfl (fun g1 => ?_) (fun g1 => ?_)
  · try simp only [sQ1, sQ2, sQ3, sQ4, sQ5, sQ6, sQ7, sQ8, ne_eq] at g1
    refine xMv ?_
    refine xMv ?_
    refine oX (w_leq rfl rfl rfl rfl ?_)
    refine oX (w_pickT rfl rfl rfl rfl ?_)
    refine xAs ?_
    refine wKp [(0, _), (1, _), (2, _), (6, _)] ⟨rfl, rfl, rfl, rfl, trivial⟩ ?_
    refine w_ret ?_
    exact end0 .ret (.inl rfl) [_] ⟨rfl, trivial⟩ ⟨by exact bool_eq (by rw [Bool.eq_iff_iff]; simp []; omega), rfl, rfl⟩
  · try simp only [sQ1, sQ2, sQ3, sQ4, sQ5, sQ6, sQ7, sQ8, ne_eq] at g1
    refine oX (w_pass rfl rfl ?_)
    refine oX (w_pass rfl rfl ?_)
    refine oX (w_pass rfl rfl ?_)
    refine oX (w_pickF rfl rfl rfl rfl ?_)
    refine xAs ?_
    refine wKp [(0, _), (1, _), (2, _), (6, _)] ⟨rfl, rfl, rfl, rfl, trivial⟩ ?_
    refine w_ret ?_
    exact end0 .ret (.inl rfl) [_] ⟨rfl, trivial⟩ ⟨by exact bool_eq (by rw [Bool.eq_iff_iff]; simp []; omega), rfl, rfl⟩

set_option maxRecDepth 4000 in
set_option maxHeartbeats 400000 in
theorem nameByte_c (c : UInt8) (B : Kn) : RetB (pj J) 47 [.int .u8 c.toNat] B (.bool (nameB c)) := by
  refine cBB 17 Try.func47 rfl rfl rfl (Nat.le_of_ble_eq_true rfl) ?_
  refine wSR ?_
  refine xAs ?_
  refine wKp [(0, _), (2, _)] ⟨rfl, rfl, trivial⟩ ?_
  refine wSR ?_
  refine xMv ?_
  refine oX (w_geq rfl rfl rfl rfl ?_)
  refine xMv ?_
  refine r_split (d := 5) rfl (fun g1 => ?_) (fun g1 => ?_)
  · try simp only [sQ1, sQ2, sQ3, sQ4, sQ5, sQ6, sQ7, sQ8, ne_eq] at g1
    refine xMv ?_
    refine oX (w_leq rfl rfl rfl rfl ?_)
    refine oX (w_pickT rfl rfl rfl rfl ?_)
    refine xMv ?_
    refine r_split (d := 9) rfl (fun g2 => ?_) (fun g2 => ?_)
    · try simp only [sQ1, sQ2, sQ3, sQ4, sQ5, sQ6, sQ7, sQ8, ne_eq] at g2
      refine oX (w_pass rfl rfl ?_)
      refine oX (w_pass rfl rfl ?_)
      refine oX (w_pass rfl rfl ?_)
      refine oX (w_pass rfl rfl ?_)
      refine oX (w_pass rfl rfl ?_)
      refine oX (w_pass rfl rfl ?_)
      refine oX (w_pickT rfl rfl rfl rfl ?_)
      refine xAs ?_
      refine wKp [(0, _), (2, _)] ⟨rfl, rfl, trivial⟩ ?_
      refine w_ret ?_
      exact end0 .ret (.inl rfl) [_] ⟨rfl, trivial⟩ ⟨by exact bool_eq (by rw [Bool.eq_iff_iff]; simp [nameB]; omega), rfl, rfl⟩
    · try simp only [sQ1, sQ2, sQ3, sQ4, sQ5, sQ6, sQ7, sQ8, ne_eq] at g2
      refine xMv ?_
      refine oX (w_geq rfl rfl rfl rfl ?_)
      refine xMv ?_
      refine r_split (d := 12) rfl (fun g3 => ?_) (fun g3 => ?_)
      · try simp only [sQ1, sQ2, sQ3, sQ4, sQ5, sQ6, sQ7, sQ8, ne_eq] at g3
        refine xMv ?_
        refine oX (w_leq rfl rfl rfl rfl ?_)
        refine oX (w_pickT rfl rfl rfl rfl ?_)
        refine oX (w_pickF rfl rfl rfl rfl ?_)
        refine xAs ?_
        refine wKp [(0, _), (2, _)] ⟨rfl, rfl, trivial⟩ ?_
        refine w_ret ?_
        exact end0 .ret (.inl rfl) [_] ⟨rfl, trivial⟩ ⟨by exact bool_eq (by rw [Bool.eq_iff_iff]; simp [nameB]; omega), rfl, rfl⟩
      · try simp only [sQ1, sQ2, sQ3, sQ4, sQ5, sQ6, sQ7, sQ8, ne_eq] at g3
        refine oX (w_pass rfl rfl ?_)
        refine oX (w_pass rfl rfl ?_)
        refine oX (w_pickF rfl rfl rfl rfl ?_)
        refine oX (w_pickF rfl rfl rfl rfl ?_)
        refine xAs ?_
        refine wKp [(0, _), (2, _)] ⟨rfl, rfl, trivial⟩ ?_
        refine w_ret ?_
        exact end0 .ret (.inl rfl) [_] ⟨rfl, trivial⟩ ⟨by exact bool_eq (by rw [Bool.eq_iff_iff]; simp [nameB]; omega), rfl, rfl⟩
  · try simp only [sQ1, sQ2, sQ3, sQ4, sQ5, sQ6, sQ7, sQ8, ne_eq] at g1
    refine oX (w_pass rfl rfl ?_)
    refine oX (w_pass rfl rfl ?_)
    refine oX (w_pickF rfl rfl rfl rfl ?_)
    refine xMv ?_
    refine xMv ?_
    refine oX (w_geq rfl rfl rfl rfl ?_)
    refine xMv ?_
    refine r_split (d := 12) rfl (fun g4 => ?_) (fun g4 => ?_)
    · try simp only [sQ1, sQ2, sQ3, sQ4, sQ5, sQ6, sQ7, sQ8, ne_eq] at g4
      refine xMv ?_
      refine oX (w_leq rfl rfl rfl rfl ?_)
      refine oX (w_pickT rfl rfl rfl rfl ?_)
      refine oX (w_pickF rfl rfl rfl rfl ?_)
      refine xAs ?_
      refine wKp [(0, _), (2, _)] ⟨rfl, rfl, trivial⟩ ?_
      refine w_ret ?_
      exact end0 .ret (.inl rfl) [_] ⟨rfl, trivial⟩ ⟨by exact bool_eq (by rw [Bool.eq_iff_iff]; simp [nameB]; omega), rfl, rfl⟩
    · try simp only [sQ1, sQ2, sQ3, sQ4, sQ5, sQ6, sQ7, sQ8, ne_eq] at g4
      refine oX (w_pass rfl rfl ?_)
      refine oX (w_pass rfl rfl ?_)
      refine oX (w_pickF rfl rfl rfl rfl ?_)
      refine oX (w_pickF rfl rfl rfl rfl ?_)
      refine xAs ?_
      refine wKp [(0, _), (2, _)] ⟨rfl, rfl, trivial⟩ ?_
      refine w_ret ?_
      exact end0 .ret (.inl rfl) [_] ⟨rfl, trivial⟩ ⟨by exact bool_eq (by rw [Bool.eq_iff_iff]; simp [nameB]; omega), rfl, rfl⟩

set_option maxRecDepth 4000 in
set_option maxHeartbeats 400000 in
theorem specName_c (l : List UInt8) (hl : l.length ≤ 2000000) (B : Kn) : RetB (pj J) 38 [str l] B (.bool (nameOk l)) := by
  refine cBB 37 Try.func38 rfl rfl rfl (Nat.le_of_ble_eq_true rfl) ?_
  refine wSR ?_
  refine xAs ?_
  refine wKp [(0, _), (2, _)] ⟨rfl, rfl, trivial⟩ ?_
  refine w_seq ?_
  refine wSR ?_
  refine xAs ?_
  refine wKp [(0, _), (2, _), (3, _)] ⟨rfl, rfl, rfl, trivial⟩ ?_
  refine w_block ?_
  refine w_loop (α := Nat) (fun k => [(0, str l), (3, .int .i64 k)]) (fun k => []) (fun k Bx => Bx = B ∧ k ≤ l.length ∧ (l.take k).all nameB = true) (fun k => l.length - k) 0 ⟨rfl, rfl, trivial⟩ rfl (⟨rfl, Nat.zero_le _, by simp⟩) (fun k B1 hle1 hI => ?_)
  obtain ⟨rfl, hk, ha⟩ := hI
  refine w_seq ?_
  refine wSR ?_
  refine xMv ?_
  refine xMv ?_
  refine oX (w_lenS rfl rfl Try.underlying9 rfl ?_)
  refine oX (w_lss rfl rfl rfl rfl ?_)
  refine wKp [(0, _), (3, _), (7, _)] ⟨rfl, rfl, rfl, trivial⟩ ?_
  refine wCd rfl (fun g1 => ?_) (fun g1 => ?_)
  · try simp only [sQ1, sQ2, sQ3, sQ4, sQ5, sQ6, sQ7, sQ8, ne_eq] at g1
    obtain ⟨c, hc⟩ : ∃ c, l[k]? = some c := ⟨_, List.getElem?_eq_getElem (by omega)⟩
    refine w_skip ?_
    refine thn_n ?_
    refine w_seq ?_
    refine w_block ?_
    refine w_seq_bool 33 (!(nameB c)) [0, 3, 7] ?_ ?_
    · skip
      refine xMv ?_
      refine xMv ?_
      refine oX (w_index rfl rfl Try.underlying9 rfl rfl (by omega) (by simpa using hc) ?_)
      refine oX (w_geq rfl rfl rfl rfl ?_)
      refine xMv ?_
      refine r_split (d := 14) rfl (fun g1 => ?_) (fun g1 => ?_)
      · try simp only [sQ1, sQ2, sQ3, sQ4, sQ5, sQ6, sQ7, sQ8, ne_eq] at g1
        refine xMv ?_
        refine xMv ?_
        refine oX (w_index rfl rfl Try.underlying9 rfl rfl (by omega) (by simpa using hc) ?_)
        refine oX (w_leq rfl rfl rfl rfl ?_)
        refine oX (w_pickT rfl rfl rfl rfl ?_)
        refine oX (w_not rfl rfl rfl ?_)
        refine xMv ?_
        refine r_split (d := 21) rfl (fun g2 => ?_) (fun g2 => ?_)
        · try simp only [sQ1, sQ2, sQ3, sQ4, sQ5, sQ6, sQ7, sQ8, ne_eq] at g2
          refine xMv ?_
          refine xMv ?_
          refine oX (w_index rfl rfl Try.underlying9 rfl rfl (by omega) (by simpa using hc) ?_)
          refine oX (w_geq rfl rfl rfl rfl ?_)
          refine xMv ?_
          refine r_split (d := 26) rfl (fun g3 => ?_) (fun g3 => ?_)
          · try simp only [sQ1, sQ2, sQ3, sQ4, sQ5, sQ6, sQ7, sQ8, ne_eq] at g3
            refine xMv ?_
            refine xMv ?_
            refine oX (w_index rfl rfl Try.underlying9 rfl rfl (by omega) (by simpa using hc) ?_)
            refine oX (w_leq rfl rfl rfl rfl ?_)
            refine oX (w_pickT rfl rfl rfl rfl ?_)
            refine oX (w_not rfl rfl rfl ?_)
            refine oX (w_pickT rfl rfl rfl rfl ?_)
            exact ⟨rfl, rfl, rfl, leafB rfl (by rw [Bool.eq_iff_iff]; simp [nameB, ]; omega), ⟨rfl, rfl, rfl, trivial⟩⟩
          · try simp only [sQ1, sQ2, sQ3, sQ4, sQ5, sQ6, sQ7, sQ8, ne_eq] at g3
            refine oX (w_pass rfl rfl ?_)
            refine oX (w_pass rfl rfl ?_)
            refine oX (w_pass rfl rfl ?_)
            refine oX (w_pass rfl rfl ?_)
            refine oX (w_pickF rfl rfl rfl rfl ?_)
            refine oX (w_not rfl rfl rfl ?_)
            refine oX (w_pickT rfl rfl rfl rfl ?_)
            exact ⟨rfl, rfl, rfl, leafB rfl (by rw [Bool.eq_iff_iff]; simp [nameB, ]; omega), ⟨rfl, rfl, rfl, trivial⟩⟩
        · try simp only [sQ1, sQ2, sQ3, sQ4, sQ5, sQ6, sQ7, sQ8, ne_eq] at g2
          refine oX (w_pass rfl rfl ?_)
          refine oX (w_pass rfl rfl ?_)
          refine oX (w_pass rfl rfl ?_)
          refine oX (w_pass rfl rfl ?_)
          refine oX (w_pass rfl rfl ?_)
          refine oX (w_pass rfl rfl ?_)
          refine oX (w_pass rfl rfl ?_)
          refine oX (w_pass rfl rfl ?_)
          refine oX (w_pass rfl rfl ?_)
          refine oX (w_pass rfl rfl ?_)
          refine oX (w_pass rfl rfl ?_)
          refine oX (w_pickF rfl rfl rfl rfl ?_)
          exact ⟨rfl, rfl, rfl, leafB rfl (by rw [Bool.eq_iff_iff]; simp [nameB, ]; omega), ⟨rfl, rfl, rfl, trivial⟩⟩
      · try simp only [sQ1, sQ2, sQ3, sQ4, sQ5, sQ6, sQ7, sQ8, ne_eq] at g1
        refine oX (w_pass rfl rfl ?_)
        refine oX (w_pass rfl rfl ?_)
        refine oX (w_pass rfl rfl ?_)
        refine oX (w_pass rfl rfl ?_)
        refine oX (w_pickF rfl rfl rfl rfl ?_)
        refine oX (w_not rfl rfl rfl ?_)
        refine xMv ?_
        refine xMv ?_
        refine xMv ?_
        refine oX (w_index rfl rfl Try.underlying9 rfl rfl (by omega) (by simpa using hc) ?_)
        refine oX (w_geq rfl rfl rfl rfl ?_)
        refine xMv ?_
        refine r_split (d := 26) rfl (fun g4 => ?_) (fun g4 => ?_)
        · try simp only [sQ1, sQ2, sQ3, sQ4, sQ5, sQ6, sQ7, sQ8, ne_eq] at g4
          refine xMv ?_
          refine xMv ?_
          refine oX (w_index rfl rfl Try.underlying9 rfl rfl (by omega) (by simpa using hc) ?_)
          refine oX (w_leq rfl rfl rfl rfl ?_)
          refine oX (w_pickT rfl rfl rfl rfl ?_)
          refine oX (w_not rfl rfl rfl ?_)
          refine oX (w_pickT rfl rfl rfl rfl ?_)
          exact ⟨rfl, rfl, rfl, leafB rfl (by rw [Bool.eq_iff_iff]; simp [nameB, ]; omega), ⟨rfl, rfl, rfl, trivial⟩⟩
        · try simp only [sQ1, sQ2, sQ3, sQ4, sQ5, sQ6, sQ7, sQ8, ne_eq] at g4
          refine oX (w_pass rfl rfl ?_)
          refine oX (w_pass rfl rfl ?_)
          refine oX (w_pass rfl rfl ?_)
          refine oX (w_pass rfl rfl ?_)
          refine oX (w_pickF rfl rfl rfl rfl ?_)
          refine oX (w_not rfl rfl rfl ?_)
          refine oX (w_pickT rfl rfl rfl rfl ?_)
          exact ⟨rfl, rfl, rfl, leafB rfl (by rw [Bool.eq_iff_iff]; simp [nameB, ]; omega), ⟨rfl, rfl, rfl, trivial⟩⟩
    refine wKp [(0, _), (3, _), (7, _), (33, _)] ⟨rfl, rfl, rfl, rfl, trivial⟩ ?_
    refine wCd rfl (fun g9 => ?_) (fun g9 => ?_)
    · try simp only [sQ1, sQ2, sQ3, sQ4, sQ5, sQ6, sQ7, sQ8, ne_eq] at g9
      refine wSR ?_
      refine xAs ?_
      refine wKp [(0, _), (2, _), (3, _), (7, _), (33, _)] ⟨rfl, rfl, rfl, rfl, rfl, trivial⟩ ?_
      refine w_ret (inB_r (thn_r (rnd_r (inB_r (thn_r ?_)))))
      exact end0 .ret (.inl rfl) [_] ⟨rfl, trivial⟩ ⟨bool_eq (by simp [nameOk, all_stop hc g9]), rfl, rfl⟩
    · try simp only [sQ1, sQ2, sQ3, sQ4, sQ5, sQ6, sQ7, sQ8, ne_eq] at g9
      refine w_skip ?_
      refine inB_n (thn_n ?_)
      refine w_region ?_
      refine xMv ?_
      refine oX (w_add rfl rfl rfl rfl (by first | exact wrI64 (by omega) (by omega) | rfl) ?_)
      refine xAs ?_
      exact rnd_n (k + 1) (by omega) ⟨rfl, by omega, all_step hc g9 ha⟩ ⟨rfl, rfl, trivial⟩ rfl
  · try simp only [sQ1, sQ2, sQ3, sQ4, sQ5, sQ6, sQ7, sQ8, ne_eq] at g1
    refine w_exit (thn_x (rnd_x (inB_hit (thn_n ?_))))
    refine wSR ?_
    refine xMv ?_
    refine oX (w_lenS rfl rfl Try.underlying9 rfl ?_)
    refine oX (w_retB rfl rfl en39 rfl (l6In_c _ _ _ _) ?_)
    refine xAs ?_
    refine wKp [(0, _), (2, _), (3, _), (7, _)] ⟨rfl, rfl, rfl, rfl, trivial⟩ ?_
    refine w_ret ?_
    exact end0 .ret (.inl rfl) [_] ⟨rfl, trivial⟩ ⟨bool_eq (by (obtain rfl : k = l.length := by omega); rw [List.take_length] at ha; rw [Bool.eq_iff_iff]; simp [nameOk, ha]; omega), rfl, rfl⟩

set_option maxRecDepth 4000 in
set_option maxHeartbeats 400000 in
theorem done_c (b : Nat) (l : List UInt8) (i : Nat) (hi : i ≤ l.length) (hl : l.length ≤ 2000000) (B : Kn) : Upd1 (pj J) 19 [ptr ⟨b, 0, none⟩] B (cur b l i) (.bool (decide (i = l.length))) (cur b l i) := by
  refine cBB 13 Try.func19 rfl rfl rfl (Nat.le_of_ble_eq_true rfl) ?_
  refine wSR ?_
  refine xAs ?_
  refine wKp [(0, _), (2, _)] ⟨rfl, rfl, trivial⟩ ?_
  refine w_seq ?_
  refine w_draw (same _ _) mo (by kernel_rfl) ⟨rfl, rfl⟩ (fun _ _ => ?_)
  refine aTP 0 rfl (by kernel_rfl) rfl (fun D B L => w_move rfl rfl rfl ⟨rfl, rfl, rfl, rfl⟩) ?_
  refine aTk 1 rfl (by kernel_rfl) rfl (q_of fun D => w_nilCheck rfl rfl rfl ⟨rfl, rfl, rfl, rfl⟩) ?_
  refine aTk 2 rfl (by kernel_rfl) rfl (q_of fun D => wFA rfl rfl fo56x1 rfl ⟨rfl, rfl, rfl, rfl⟩) ?_
  refine aTk 3 rfl (by kernel_rfl) rfl (q_of fun D => w_load1 rfl rfl lk3 rfl (atL 0 rfl rfl rfl) ⟨rfl, rfl, rfl, rfl⟩) ?_
  refine aTP 4 rfl (by kernel_rfl) rfl (fun D B L => w_move rfl rfl rfl ⟨rfl, rfl, rfl, rfl⟩) ?_
  refine aTk 5 rfl (by kernel_rfl) rfl (q_of fun D => w_nilCheck rfl rfl rfl ⟨rfl, rfl, rfl, rfl⟩) ?_
  refine aTk 6 rfl (by kernel_rfl) rfl (q_of fun D => wFA rfl rfl fo56x0 rfl ⟨rfl, rfl, rfl, rfl⟩) ?_
  refine aTk 7 rfl (by kernel_rfl) rfl (q_of fun D => w_load1 rfl rfl lk9 rfl (atL 0 rfl rfl rfl) ⟨rfl, rfl, rfl, rfl⟩) ?_
  refine aTk 8 rfl (by kernel_rfl) rfl (q_of fun D => w_lenS rfl rfl Try.underlying9 rfl ⟨rfl, rfl, rfl, rfl⟩) ?_
  refine aTk 9 rfl (by kernel_rfl) rfl (q_of fun D => w_eqlI rfl rfl rfl rfl ⟨rfl, rfl, rfl, rfl⟩) ?_
  refine aTP 10 rfl (by kernel_rfl) rfl (fun D B L => w_assign rfl rfl rfl ⟨rfl, rfl, rfl, rfl⟩) ?_
  refine any_done (by kernel_rfl) (by kernel_rfl) ?_
  refine thn_n ?_
  refine wKp [(0, _), (2, _)] ⟨rfl, rfl, trivial⟩ ?_
  refine w_ret ?_
  exact end1 .ret (.inl rfl) [_] 0 rfl ⟨rfl, trivial⟩ ⟨bool_eq (by rw [Bool.eq_iff_iff]; simp; omega), rfl, rfl⟩

set_option maxRecDepth 4000 in
set_option maxHeartbeats 400000 in
theorem take_c (b : Nat) (l : List UInt8) (i : Nat) (hi : i ≤ l.length) (hl : l.length ≤ 2000000) (x : UInt8) (B : Kn) : Upd1 (pj J) 35 [ptr ⟨b, 0, none⟩, .int .u8 x.toNat] B (cur b l i) (.bool (decide (l[i]? = some x))) (cur b l (if l[i]? = some x then i + 1 else i)) := by
  refine cBB 27 Try.func35 rfl rfl rfl (Nat.le_of_ble_eq_true rfl) ?_
  refine wSR ?_
  refine xAs ?_
  refine wKp [(0, _), (1, _), (4, _)] ⟨rfl, rfl, rfl, trivial⟩ ?_
  refine w_seq ?_
  refine w_seq_boolD 19 (decide (l[i]? ≠ some x)) [0, 1, 4] (same _ _) mo (by kernel_rfl) ⟨rfl, rfl⟩ (fun _ _ => ?_) ?_
  · skip
    refine aTP 0 rfl (by kernel_rfl) rfl (fun D B L => w_move rfl rfl rfl ⟨rfl, rfl, rfl, rfl⟩) ?_
    refine aTk 1 rfl (by kernel_rfl) rfl (q_of fun D => w_ret1 0 rfl rfl rfl en19 rfl (done_c _ _ _ (by omega) (by omega) _) ⟨rfl, rfl, rfl, rfl⟩) ?_
    refine aTP 2 rfl (by kernel_rfl) rfl (fun D B L => w_move rfl rfl rfl ⟨rfl, rfl, rfl, rfl⟩) ?_
    refine a_split (d := 7) rfl (fun g1 => ?_) (fun g1 => ?_)
    · try simp only [sQ1, sQ2, sQ3, sQ4, sQ5, sQ6, sQ7, sQ8, ne_eq] at g1
      refine aTP 3 rfl (by kernel_rfl) rfl (fun D B L => w_pass rfl rfl ⟨rfl, rfl, rfl, rfl⟩) ?_
      refine aTk 4 rfl (by kernel_rfl) rfl (q_of fun D => w_pass rfl rfl ⟨rfl, rfl, rfl, rfl⟩) ?_
      refine aTk 5 rfl (by kernel_rfl) rfl (q_of fun D => w_pass rfl rfl ⟨rfl, rfl, rfl, rfl⟩) ?_
      refine aTk 6 rfl (by kernel_rfl) rfl (q_of fun D => w_pass rfl rfl ⟨rfl, rfl, rfl, rfl⟩) ?_
      refine aTP 7 rfl (by kernel_rfl) rfl (fun D B L => w_pass rfl rfl ⟨rfl, rfl, rfl, rfl⟩) ?_
      refine aTk 8 rfl (by kernel_rfl) rfl (q_of fun D => w_pass rfl rfl ⟨rfl, rfl, rfl, rfl⟩) ?_
      refine aTk 9 rfl (by kernel_rfl) rfl (q_of fun D => w_pass rfl rfl ⟨rfl, rfl, rfl, rfl⟩) ?_
      refine aTk 10 rfl (by kernel_rfl) rfl (q_of fun D => w_pass rfl rfl ⟨rfl, rfl, rfl, rfl⟩) ?_
      refine aTk 11 rfl (by kernel_rfl) rfl (q_of fun D => w_pass rfl rfl ⟨rfl, rfl, rfl, rfl⟩) ?_
      refine aTP 12 rfl (by kernel_rfl) rfl (fun D B L => w_pass rfl rfl ⟨rfl, rfl, rfl, rfl⟩) ?_
      refine aTk 13 rfl (by kernel_rfl) rfl (q_of fun D => w_pass rfl rfl ⟨rfl, rfl, rfl, rfl⟩) ?_
      refine aTk 14 rfl (by kernel_rfl) rfl (q_of fun D => w_pickT rfl rfl rfl rfl ⟨rfl, rfl, rfl, rfl⟩) ?_
      refine any_done (by kernel_rfl) (by kernel_rfl) ?_
      exact ⟨rfl, rfl, rfl, leafB rfl (by first | (simp [g1]; done) | (rw [Bool.eq_iff_iff]; simp [hc, ← UInt8.toNat_inj]; omega)), ⟨rfl, rfl, rfl, trivial⟩⟩
    · try simp only [sQ1, sQ2, sQ3, sQ4, sQ5, sQ6, sQ7, sQ8, ne_eq] at g1
      obtain ⟨c, hc⟩ : ∃ c, l[i]? = some c := ⟨_, List.getElem?_eq_getElem (by omega)⟩
      refine aTP 3 rfl (by kernel_rfl) rfl (fun D B L => w_move rfl rfl rfl ⟨rfl, rfl, rfl, rfl⟩) ?_
      refine aTk 4 rfl (by kernel_rfl) rfl (q_of fun D => w_nilCheck rfl rfl rfl ⟨rfl, rfl, rfl, rfl⟩) ?_
      refine aTk 5 rfl (by kernel_rfl) rfl (q_of fun D => wFA rfl rfl fo56x0 rfl ⟨rfl, rfl, rfl, rfl⟩) ?_
      refine aTk 6 rfl (by kernel_rfl) rfl (q_of fun D => w_load1 rfl rfl lk9 rfl (atL 0 rfl rfl rfl) ⟨rfl, rfl, rfl, rfl⟩) ?_
      refine aTP 7 rfl (by kernel_rfl) rfl (fun D B L => w_move rfl rfl rfl ⟨rfl, rfl, rfl, rfl⟩) ?_
      refine aTk 8 rfl (by kernel_rfl) rfl (q_of fun D => w_nilCheck rfl rfl rfl ⟨rfl, rfl, rfl, rfl⟩) ?_
      refine aTk 9 rfl (by kernel_rfl) rfl (q_of fun D => wFA rfl rfl fo56x1 rfl ⟨rfl, rfl, rfl, rfl⟩) ?_
      refine aTk 10 rfl (by kernel_rfl) rfl (q_of fun D => w_load1 rfl rfl lk3 rfl (atL 0 rfl rfl rfl) ⟨rfl, rfl, rfl, rfl⟩) ?_
      refine aTk 11 rfl (by kernel_rfl) rfl (q_of fun D => w_index rfl rfl Try.underlying9 rfl rfl (by omega) (by simpa using hc) ⟨rfl, rfl, rfl, rfl⟩) ?_
      refine aTP 12 rfl (by kernel_rfl) rfl (fun D B L => w_move rfl rfl rfl ⟨rfl, rfl, rfl, rfl⟩) ?_
      refine aTk 13 rfl (by kernel_rfl) rfl (q_of fun D => w_neqI rfl rfl rfl rfl ⟨rfl, rfl, rfl, rfl⟩) ?_
      refine aTk 14 rfl (by kernel_rfl) rfl (q_of fun D => w_pickF rfl rfl rfl rfl ⟨rfl, rfl, rfl, rfl⟩) ?_
      refine any_done (by kernel_rfl) (by kernel_rfl) ?_
      exact ⟨rfl, rfl, rfl, leafB rfl (by first | (simp [g1]; done) | (rw [Bool.eq_iff_iff]; simp [hc, ← UInt8.toNat_inj]; omega)), ⟨rfl, rfl, rfl, trivial⟩⟩
  refine wKp [(0, _), (1, _), (4, _), (19, _)] ⟨rfl, rfl, rfl, rfl, trivial⟩ ?_
  refine wCd rfl (fun g2 => ?_) (fun g2 => ?_)
  · try simp only [sQ1, sQ2, sQ3, sQ4, sQ5, sQ6, sQ7, sQ8, ne_eq] at g2
    refine wSR ?_
    refine xAs ?_
    refine wKp [(0, _), (1, _), (4, _), (19, _)] ⟨rfl, rfl, rfl, rfl, trivial⟩ ?_
    refine w_ret (thn_r ?_)
    exact end1 .ret (.inl rfl) [_] 0 rfl ⟨rfl, trivial⟩ ⟨bool_eq (by simp [g2]), rfl, by rw [if_neg g2]⟩
  · try simp only [sQ1, sQ2, sQ3, sQ4, sQ5, sQ6, sQ7, sQ8, ne_eq] at g2
    refine w_skip ?_
    refine thn_n ?_
    refine wSR ?_
    refine xMv ?_
    refine oX (w_nilCheck rfl rfl rfl ?_)
    refine oX (wFA rfl rfl fo56x1 rfl ?_)
    refine oX (w_load1 rfl rfl lk3 rfl (atL 0 rfl rfl rfl) ?_)
    refine oX (w_add rfl rfl rfl rfl (by first | exact wrI64 (by omega) (by omega) | rfl) ?_)
    refine oX (w_nilCheck rfl rfl rfl ?_)
    refine oX (wFA rfl rfl fo56x1 rfl ?_)
    refine oX (w_store [_] 0 [_, _] rfl rfl sz3 rfl rfl rfl rfl rfl rfl rfl rfl ?_)
    refine wTd [(0, _), (1, _), (4, _), (19, _)] [_] ⟨rfl, rfl, rfl, rfl, trivial⟩ rfl ?_
    refine wSR ?_
    refine xAs ?_
    refine wKp [(0, _), (1, _), (4, _), (19, _)] ⟨rfl, rfl, rfl, rfl, trivial⟩ ?_
    refine w_ret ?_
    exact end1 .ret (.inl rfl) [_] 0 rfl ⟨rfl, trivial⟩ ⟨bool_eq (by simp [g2]), rfl, by rw [if_pos g2]; rfl⟩

set_option maxRecDepth 4000 in
set_option maxHeartbeats 400000 in
theorem name_c (b : Nat) (l : List UInt8) (i : Nat) (hi : i ≤ l.length) (hl : l.length ≤ 2000000) (B : Kn) : Upd1 (pj J) 34 [ptr ⟨b, 0, none⟩] B (cur b l i) (.tuple #[str (word l i), .bool (wordOk (word l i))]) (cur b l (i + (word l i).length)) := by
  refine cBB 54 Try.func34 rfl rfl rfl (Nat.le_of_ble_eq_true rfl) ?_
  refine wSR ?_
  refine xAs ?_
  refine xAs ?_
  refine wKp [(0, _), (2, _), (3, _)] ⟨rfl, rfl, rfl, trivial⟩ ?_
  refine wSR ?_
  refine xMv ?_
  refine oX (w_nilCheck rfl rfl rfl ?_)
  refine oX (wFA rfl rfl fo56x1 rfl ?_)
  refine oX (w_load1 rfl rfl lk3 rfl (atL 0 rfl rfl rfl) ?_)
  refine xAs ?_
  refine wKp [(0, _), (2, _), (3, _), (4, _)] ⟨rfl, rfl, rfl, rfl, trivial⟩ ?_
  refine w_seq ?_
  refine w_block ?_
  refine w_loop (α := Nat) (fun k => [(0, ptr ⟨b, 0, none⟩), (4, .int .i64 i)]) (fun k => [cur b l (i + k)]) (fun k Bx => Bx = B ∧ i + k ≤ l.length ∧ ((l.drop i).take k).all nameB = true) (fun k => l.length - i - k) 0 ⟨rfl, rfl, trivial⟩ rfl (⟨rfl, by omega, by simp⟩) (fun k B1 hle1 hI => ?_)
  obtain ⟨rfl, hk, ha⟩ := hI
  refine w_seq ?_
  refine w_seq_boolD 24 (match l[i + k]? with | some c => nameB c | none => false) [0, 4] (same _ _) mo (by kernel_rfl) ⟨rfl, rfl⟩ (fun _ _ => ?_) ?_
  · skip
    refine aTP 0 rfl (by kernel_rfl) rfl (fun D B L => w_move rfl rfl rfl ⟨rfl, rfl, rfl, rfl⟩) ?_
    refine aTk 1 rfl (by kernel_rfl) rfl (q_of fun D => w_ret1 0 rfl rfl rfl en19 rfl (done_c _ _ _ (by omega) (by omega) _) ⟨rfl, rfl, rfl, rfl⟩) ?_
    refine aTk 2 rfl (by kernel_rfl) rfl (q_of fun D => w_not rfl rfl rfl ⟨rfl, rfl, rfl, rfl⟩) ?_
    refine aTP 3 rfl (by kernel_rfl) rfl (fun D B L => w_move rfl rfl rfl ⟨rfl, rfl, rfl, rfl⟩) ?_
    refine a_split (d := 13) rfl (fun g1 => ?_) (fun g1 => ?_)
    · try simp only [sQ1, sQ2, sQ3, sQ4, sQ5, sQ6, sQ7, sQ8, ne_eq] at g1
      obtain ⟨c, hc⟩ : ∃ c, l[i + k]? = some c := ⟨_, List.getElem?_eq_getElem (by omega)⟩
      refine aTP 4 rfl (by kernel_rfl) rfl (fun D B L => w_move rfl rfl rfl ⟨rfl, rfl, rfl, rfl⟩) ?_
      refine aTk 5 rfl (by kernel_rfl) rfl (q_of fun D => w_nilCheck rfl rfl rfl ⟨rfl, rfl, rfl, rfl⟩) ?_
      refine aTk 6 rfl (by kernel_rfl) rfl (q_of fun D => wFA rfl rfl fo56x0 rfl ⟨rfl, rfl, rfl, rfl⟩) ?_
      refine aTk 7 rfl (by kernel_rfl) rfl (q_of fun D => w_load1 rfl rfl lk9 rfl (atL 0 rfl rfl rfl) ⟨rfl, rfl, rfl, rfl⟩) ?_
      refine aTP 8 rfl (by kernel_rfl) rfl (fun D B L => w_move rfl rfl rfl ⟨rfl, rfl, rfl, rfl⟩) ?_
      refine aTk 9 rfl (by kernel_rfl) rfl (q_of fun D => w_nilCheck rfl rfl rfl ⟨rfl, rfl, rfl, rfl⟩) ?_
      refine aTk 10 rfl (by kernel_rfl) rfl (q_of fun D => wFA rfl rfl fo56x1 rfl ⟨rfl, rfl, rfl, rfl⟩) ?_
      refine aTk 11 rfl (by kernel_rfl) rfl (q_of fun D => w_load1 rfl rfl lk3 rfl (atL 0 rfl rfl rfl) ⟨rfl, rfl, rfl, rfl⟩) ?_
      refine aTk 12 rfl (by kernel_rfl) rfl (q_of fun D => w_index rfl rfl Try.underlying9 rfl rfl (by omega) hc ⟨rfl, rfl, rfl, rfl⟩) ?_
      refine aTk 13 rfl (by kernel_rfl) rfl (q_of fun D => w_retB rfl rfl en47 rfl (nameByte_c _ _) ⟨rfl, rfl, rfl, rfl⟩) ?_
      refine aTk 14 rfl (by kernel_rfl) rfl (q_of fun D => w_pickT rfl rfl rfl rfl ⟨rfl, rfl, rfl, rfl⟩) ?_
      refine any_done (by kernel_rfl) (by kernel_rfl) ?_
      exact ⟨rfl, rfl, rfl, leafB rfl (by first | (rw [hc]; done) | (rw [List.getElem?_eq_none (by omega)])), ⟨rfl, rfl, trivial⟩⟩
    · try simp only [sQ1, sQ2, sQ3, sQ4, sQ5, sQ6, sQ7, sQ8, ne_eq] at g1
      refine aTP 4 rfl (by kernel_rfl) rfl (fun D B L => w_pass rfl rfl ⟨rfl, rfl, rfl, rfl⟩) ?_
      refine aTk 5 rfl (by kernel_rfl) rfl (q_of fun D => w_pass rfl rfl ⟨rfl, rfl, rfl, rfl⟩) ?_
      refine aTk 6 rfl (by kernel_rfl) rfl (q_of fun D => w_pass rfl rfl ⟨rfl, rfl, rfl, rfl⟩) ?_
      refine aTk 7 rfl (by kernel_rfl) rfl (q_of fun D => w_pass rfl rfl ⟨rfl, rfl, rfl, rfl⟩) ?_
      refine aTP 8 rfl (by kernel_rfl) rfl (fun D B L => w_pass rfl rfl ⟨rfl, rfl, rfl, rfl⟩) ?_
      refine aTk 9 rfl (by kernel_rfl) rfl (q_of fun D => w_pass rfl rfl ⟨rfl, rfl, rfl, rfl⟩) ?_
      refine aTk 10 rfl (by kernel_rfl) rfl (q_of fun D => w_pass rfl rfl ⟨rfl, rfl, rfl, rfl⟩) ?_
      refine aTk 11 rfl (by kernel_rfl) rfl (q_of fun D => w_pass rfl rfl ⟨rfl, rfl, rfl, rfl⟩) ?_
      refine aTk 12 rfl (by kernel_rfl) rfl (q_of fun D => w_pass rfl rfl ⟨rfl, rfl, rfl, rfl⟩) ?_
      refine aTk 13 rfl (by kernel_rfl) rfl (q_of fun D => w_pass rfl rfl ⟨rfl, rfl, rfl, rfl⟩) ?_
      refine aTk 14 rfl (by kernel_rfl) rfl (q_of fun D => w_pickF rfl rfl rfl rfl ⟨rfl, rfl, rfl, rfl⟩) ?_
      refine any_done (by kernel_rfl) (by kernel_rfl) ?_
      exact ⟨rfl, rfl, rfl, leafB rfl (by first | (rw [hc]; done) | (rw [List.getElem?_eq_none (by omega)])), ⟨rfl, rfl, trivial⟩⟩
  refine wKp [(0, _), (4, _), (24, _)] ⟨rfl, rfl, rfl, trivial⟩ ?_
  refine wCd rfl (fun g2 => ?_) (fun g2 => ?_)
  · try simp only [sQ1, sQ2, sQ3, sQ4, sQ5, sQ6, sQ7, sQ8, ne_eq] at g2
    refine w_skip ?_
    refine thn_n ?_
    refine w_block ?_
    refine w_region ?_
    refine xMv ?_
    refine oX (w_nilCheck rfl rfl rfl ?_)
    refine oX (wFA rfl rfl fo56x1 rfl ?_)
    refine oX (w_load1 rfl rfl lk3 rfl (atL 0 rfl rfl rfl) ?_)
    refine oX (w_add rfl rfl rfl rfl (by first | exact wrI64 (by omega) (by omega) | rfl) ?_)
    refine oX (w_nilCheck rfl rfl rfl ?_)
    refine oX (wFA rfl rfl fo56x1 rfl ?_)
    refine oX (w_store [_] 0 [_, _] rfl rfl sz3 rfl rfl rfl rfl rfl rfl rfl rfl ?_)
    refine inB_n ?_
    obtain ⟨c, hc, hn⟩ := some_true g2
    exact rnd_n (k + 1) (by have := lt_of_get hc; omega) ⟨rfl, by have := lt_of_get hc; omega, all_step (by simpa using hc) hn ha⟩ ⟨rfl, rfl, trivial⟩ rfl
  · try simp only [sQ1, sQ2, sQ3, sQ4, sQ5, sQ6, sQ7, sQ8, ne_eq] at g2
    have hw : word l i = (l.drop i).take k := word_end ha (fun c hc => by rw [hc] at g2; exact g2)
    have hwl : (word l i).length = k := by rw [hw, List.length_take, List.length_drop]; omega
    refine w_exit (thn_x (rnd_x (inB_hit (thn_n ?_))))
    refine wSR ?_
    refine xMv ?_
    refine oX (w_nilCheck rfl rfl rfl ?_)
    refine oX (wFA rfl rfl fo56x1 rfl ?_)
    refine oX (w_load1 rfl rfl lk3 rfl (atL 0 rfl rfl rfl) ?_)
    refine xMv ?_
    refine oX (w_sub rfl rfl rfl rfl (by first | exact wrI64 (by omega) (by omega) | rfl) ?_)
    refine xAs ?_
    refine wKp [(0, _), (4, _), (5, _), (24, _)] ⟨rfl, rfl, rfl, rfl, trivial⟩ ?_
    refine w_seq ?_
    refine w_draw (same _ _) mo (by kernel_rfl) ⟨rfl, rfl⟩ (fun _ _ => ?_)
    refine aTP 0 rfl (by kernel_rfl) rfl (fun D B L => w_move rfl rfl rfl ⟨rfl, rfl, rfl, rfl⟩) ?_
    refine aTk 1 rfl (by kernel_rfl) rfl (q_of fun D => w_nilCheck rfl rfl rfl ⟨rfl, rfl, rfl, rfl⟩) ?_
    refine aTk 2 rfl (by kernel_rfl) rfl (q_of fun D => wFA rfl rfl fo56x0 rfl ⟨rfl, rfl, rfl, rfl⟩) ?_
    refine aTk 3 rfl (by kernel_rfl) rfl (q_of fun D => w_load1 rfl rfl lk9 rfl (atL 0 rfl rfl rfl) ⟨rfl, rfl, rfl, rfl⟩) ?_
    refine aTP 4 rfl (by kernel_rfl) rfl (fun D B L => w_move rfl rfl rfl ⟨rfl, rfl, rfl, rfl⟩) ?_
    refine aTP 5 rfl (by kernel_rfl) rfl (fun D B L => w_move rfl rfl rfl ⟨rfl, rfl, rfl, rfl⟩) ?_
    refine aTk 6 rfl (by kernel_rfl) rfl (q_of fun D => w_nilCheck rfl rfl rfl ⟨rfl, rfl, rfl, rfl⟩) ?_
    refine aTk 7 rfl (by kernel_rfl) rfl (q_of fun D => wFA rfl rfl fo56x1 rfl ⟨rfl, rfl, rfl, rfl⟩) ?_
    refine aTk 8 rfl (by kernel_rfl) rfl (q_of fun D => w_load1 rfl rfl lk3 rfl (atL 0 rfl rfl rfl) ⟨rfl, rfl, rfl, rfl⟩) ?_
    refine aTk 9 rfl (by kernel_rfl) rfl (q_of fun D => w_sliceS rfl rfl Try.underlying9 rfl (a := i) (b := i + k) ⟨_, _, rfl, rfl⟩ ⟨_, _, rfl, by omega⟩ (by omega) (by omega) ⟨rfl, rfl, rfl, rfl⟩) ?_
    refine aTP 10 rfl (by kernel_rfl) rfl (fun D B L => w_move rfl rfl rfl ⟨rfl, rfl, rfl, rfl⟩) ?_
    refine aTk 11 rfl (by kernel_rfl) rfl (q_of fun D => w_geq rfl rfl rfl rfl ⟨rfl, rfl, rfl, rfl⟩) ?_
    refine aTP 12 rfl (by kernel_rfl) rfl (fun D B L => w_move rfl rfl rfl ⟨rfl, rfl, rfl, rfl⟩) ?_
    refine a_split (d := 50) rfl (fun g1 => ?_) (fun g1 => ?_)
    · try simp only [sQ1, sQ2, sQ3, sQ4, sQ5, sQ6, sQ7, sQ8, ne_eq] at g1
      refine aTP 13 rfl (by kernel_rfl) rfl (fun D B L => w_move rfl rfl rfl ⟨rfl, rfl, rfl, rfl⟩) ?_
      refine aTk 14 rfl (by kernel_rfl) rfl (q_of fun D => w_leq rfl rfl rfl rfl ⟨rfl, rfl, rfl, rfl⟩) ?_
      refine aTk 15 rfl (by kernel_rfl) rfl (q_of fun D => w_pickT rfl rfl rfl rfl ⟨rfl, rfl, rfl, rfl⟩) ?_
      refine aTP 16 rfl (by kernel_rfl) rfl (fun D B L => w_assign rfl rfl rfl ⟨rfl, rfl, rfl, rfl⟩) ?_
      refine aTP 17 rfl (by kernel_rfl) rfl (fun D B L => w_assign rfl rfl rfl ⟨rfl, rfl, rfl, rfl⟩) ?_
      refine any_done (by kernel_rfl) (by kernel_rfl) ?_
      refine thn_n ?_
      refine wKp [(0, _), (2, _), (3, _), (4, _), (5, _), (24, _)] ⟨rfl, rfl, rfl, rfl, rfl, rfl, trivial⟩ ?_
      refine w_ret ?_
      exact end1 .ret (.inl rfl) [_, _] 0 rfl ⟨rfl, rfl, trivial⟩ ⟨two_eq (by rw [drop_take_word, hw]) (bool_eq (by rw [Bool.eq_iff_iff]; simp [wordOk, hwl]; omega)), rfl, by rw [hwl]⟩
    · try simp only [sQ1, sQ2, sQ3, sQ4, sQ5, sQ6, sQ7, sQ8, ne_eq] at g1
      refine aTP 13 rfl (by kernel_rfl) rfl (fun D B L => w_pass rfl rfl ⟨rfl, rfl, rfl, rfl⟩) ?_
      refine aTk 14 rfl (by kernel_rfl) rfl (q_of fun D => w_pass rfl rfl ⟨rfl, rfl, rfl, rfl⟩) ?_
      refine aTk 15 rfl (by kernel_rfl) rfl (q_of fun D => w_pickF rfl rfl rfl rfl ⟨rfl, rfl, rfl, rfl⟩) ?_
      refine aTP 16 rfl (by kernel_rfl) rfl (fun D B L => w_assign rfl rfl rfl ⟨rfl, rfl, rfl, rfl⟩) ?_
      refine aTP 17 rfl (by kernel_rfl) rfl (fun D B L => w_assign rfl rfl rfl ⟨rfl, rfl, rfl, rfl⟩) ?_
      refine any_done (by kernel_rfl) (by kernel_rfl) ?_
      refine thn_n ?_
      refine wKp [(0, _), (2, _), (3, _), (4, _), (5, _), (24, _)] ⟨rfl, rfl, rfl, rfl, rfl, rfl, trivial⟩ ?_
      refine w_ret ?_
      exact end1 .ret (.inl rfl) [_, _] 0 rfl ⟨rfl, rfl, trivial⟩ ⟨two_eq (by rw [drop_take_word, hw]) (bool_eq (by rw [Bool.eq_iff_iff]; simp [wordOk, hwl]; omega)), rfl, by rw [hwl]⟩

set_option maxRecDepth 4000 in
set_option maxHeartbeats 400000 in
theorem domain_c (b : Nat) (l : List UInt8) (i : Nat) (hi : i ≤ l.length) (hl : l.length ≤ 2000000) (B : Kn) : Upd1 (pj J) 18 [ptr ⟨b, 0, none⟩] B (cur b l i) (.tuple #[str (domText l i), .bool (domOk l i)]) (cur b l (dom l i).2) := by
  refine cBB 53 Try.func18 rfl rfl rfl (Nat.le_of_ble_eq_true rfl) ?_
  refine wSR ?_
  refine xAs ?_
  refine xAs ?_
  refine wKp [(0, _), (2, _), (3, _)] ⟨rfl, rfl, rfl, trivial⟩ ?_
  refine wSR ?_
  refine xMv ?_
  refine oX (w_nilCheck rfl rfl rfl ?_)
  refine oX (wFA rfl rfl fo56x1 rfl ?_)
  refine oX (w_load1 rfl rfl lk3 rfl (atL 0 rfl rfl rfl) ?_)
  refine xAs ?_
  refine wKp [(0, _), (2, _), (3, _), (4, _)] ⟨rfl, rfl, rfl, rfl, trivial⟩ ?_
  refine w_seq ?_
  refine wSR ?_
  refine xMv ?_
  refine oX (w_upd1 0 rfl rfl rfl en34 rfl (name_c _ _ _ (by omega) (by omega) _) ?_)
  refine xMv ?_
  refine oX (w_extract rfl rfl rfl rfl ?_)
  refine oX (w_extract rfl rfl rfl rfl ?_)
  refine xAs ?_
  refine xAs ?_
  refine wTd [(0, _), (2, _), (3, _), (4, _), (6, _)] [_] ⟨rfl, rfl, rfl, rfl, rfl, trivial⟩ rfl ?_
  refine wSR ?_
  refine xMv ?_
  refine oX (w_not rfl rfl rfl ?_)
  refine wKp [(0, _), (2, _), (3, _), (4, _), (6, _), (20, _)] ⟨rfl, rfl, rfl, rfl, rfl, rfl, trivial⟩ ?_
  refine wCd rfl (fun g1 => ?_) (fun g1 => ?_)
  · try simp only [sQ1, sQ2, sQ3, sQ4, sQ5, sQ6, sQ7, sQ8, ne_eq] at g1
    refine wSR ?_
    refine xAs ?_
    refine xAs ?_
    refine wKp [(0, _), (2, _), (3, _), (4, _), (6, _), (20, _)] ⟨rfl, rfl, rfl, rfl, rfl, rfl, trivial⟩ ?_
    refine w_ret (thn_r ?_)
    exact end1 .ret (.inl rfl) [_, _] 0 rfl ⟨rfl, rfl, trivial⟩ ⟨two_eq (by simp [domText, dom_bad g1]) (bool_eq (by simp [domOk, dom_bad g1])), rfl, by rw [dom_bad g1]⟩
  · try simp only [sQ1, sQ2, sQ3, sQ4, sQ5, sQ6, sQ7, sQ8, ne_eq] at g1
    refine w_skip ?_
    refine thn_n ?_
    refine w_seq ?_
    refine wSR ?_
    refine xAs ?_
    refine wKp [(0, _), (2, _), (3, _), (4, _), (6, _), (7, _), (20, _)] ⟨rfl, rfl, rfl, rfl, rfl, rfl, rfl, trivial⟩ ?_
    refine w_block ?_
    refine w_loop (α := Nat × Nat) (fun x => [(0, ptr ⟨b, 0, none⟩), (4, .int .i64 i), (7, .int .i64 x.1)]) (fun x => [cur b l x.2]) (fun x Bx => Bx = B ∧ 1 ≤ x.1 ∧ x.1 ≤ 3 ∧ i ≤ x.2 ∧ x.2 ≤ l.length ∧ dom l i = more (3 - x.1) l x.2) (fun x => 3 - x.1) (1, i + (word l i).length) ⟨rfl, rfl, rfl, trivial⟩ rfl (⟨rfl, by omega, by omega, by omega, word_le hi, dom_good g1⟩) (fun x B1 hle1 hI => ?_)
    obtain ⟨rfl, hk1, hk3, hix, hxl, hd⟩ := hI
    refine w_seq ?_
    refine wSR ?_
    refine xMv ?_
    refine oX (w_lss rfl rfl rfl rfl ?_)
    refine xMv ?_
    refine r_split (d := 23) rfl (fun g2 => ?_) (fun g2 => ?_)
    · try simp only [sQ1, sQ2, sQ3, sQ4, sQ5, sQ6, sQ7, sQ8, ne_eq] at g2
      refine xMv ?_
      refine oX (w_upd1 0 rfl rfl rfl en35 rfl (take_c _ _ _ (by omega) (by omega) 46 _) ?_)
      refine oX (w_pickT rfl rfl rfl rfl ?_)
      refine wTd [(0, _), (4, _), (7, _), (26, _)] [_] ⟨rfl, rfl, rfl, rfl, trivial⟩ rfl ?_
      refine wCd rfl (fun g3 => ?_) (fun g3 => ?_)
      · try simp only [sQ1, sQ2, sQ3, sQ4, sQ5, sQ6, sQ7, sQ8, ne_eq] at g3
        rw [if_pos g3]
        have hx2 := lt_of_get g3
        refine w_skip ?_
        refine thn_n ?_
        refine w_seq ?_
        refine w_block ?_
        refine wSR ?_
        refine xMv ?_
        refine oX (w_upd1 0 rfl rfl rfl en34 rfl (name_c _ _ _ (by omega) (by omega) _) ?_)
        refine xMv ?_
        refine oX (w_extract rfl rfl rfl rfl ?_)
        refine oX (w_extract rfl rfl rfl rfl ?_)
        refine xAs ?_
        refine xAs ?_
        refine wTd [(0, _), (4, _), (7, _), (9, _), (26, _)] [_] ⟨rfl, rfl, rfl, rfl, rfl, trivial⟩ rfl ?_
        refine wSR ?_
        refine xMv ?_
        refine oX (w_not rfl rfl rfl ?_)
        refine wKp [(0, _), (4, _), (7, _), (9, _), (26, _), (35, _)] ⟨rfl, rfl, rfl, rfl, rfl, rfl, trivial⟩ ?_
        refine wCd rfl (fun g4 => ?_) (fun g4 => ?_)
        · try simp only [sQ1, sQ2, sQ3, sQ4, sQ5, sQ6, sQ7, sQ8, ne_eq] at g4
          refine wSR ?_
          refine xAs ?_
          refine xAs ?_
          refine wKp [(0, _), (2, _), (3, _), (4, _), (7, _), (9, _), (26, _), (35, _)] ⟨rfl, rfl, rfl, rfl, rfl, rfl, rfl, rfl, trivial⟩ ?_
          refine w_ret (inB_r (thn_r (rnd_r (inB_r (thn_r ?_)))))
          have hdd := hd.trans (more_bad (by omega) g3 g4)
          exact end1 .ret (.inl rfl) [_, _] 0 rfl ⟨rfl, rfl, trivial⟩ ⟨two_eq (by simp [domText, hdd]) (bool_eq (by simp [domOk, hdd])), rfl, by rw [hdd]⟩
        · try simp only [sQ1, sQ2, sQ3, sQ4, sQ5, sQ6, sQ7, sQ8, ne_eq] at g4
          refine w_skip ?_
          refine inB_n (thn_n ?_)
          refine w_region ?_
          refine xMv ?_
          refine oX (w_add rfl rfl rfl rfl (by first | exact wrI64 (by omega) (by omega) | rfl) ?_)
          refine xAs ?_
          exact rnd_n (x.1 + 1, x.2 + 1 + (word l (x.2 + 1)).length) (by simp only []; omega) ⟨rfl, by simp only []; omega, by simp only []; omega, by simp only []; omega, word_le (by omega), by rw [hd, more_good (by omega) g3 g4]; rw [show 3 - (x.1 + 1) = 3 - x.1 - 1 from by omega]⟩ ⟨rfl, rfl, rfl, trivial⟩ rfl
      · try simp only [sQ1, sQ2, sQ3, sQ4, sQ5, sQ6, sQ7, sQ8, ne_eq] at g3
        rw [if_neg g3]
        replace hd := hd.trans (more_stop g3)
        refine w_exit (thn_x (rnd_x (inB_hit (thn_n ?_))))
        refine w_seq ?_
        refine w_draw (same _ _) mo (by kernel_rfl) ⟨rfl, rfl⟩ (fun _ _ => ?_)
        refine aTP 0 rfl (by kernel_rfl) rfl (fun D B L => w_move rfl rfl rfl ⟨rfl, rfl, rfl, rfl⟩) ?_
        refine aTk 1 rfl (by kernel_rfl) rfl (q_of fun D => w_nilCheck rfl rfl rfl ⟨rfl, rfl, rfl, rfl⟩) ?_
        refine aTk 2 rfl (by kernel_rfl) rfl (q_of fun D => wFA rfl rfl fo56x0 rfl ⟨rfl, rfl, rfl, rfl⟩) ?_
        refine aTk 3 rfl (by kernel_rfl) rfl (q_of fun D => w_load1 rfl rfl lk9 rfl (atL 0 rfl rfl rfl) ⟨rfl, rfl, rfl, rfl⟩) ?_
        refine aTP 4 rfl (by kernel_rfl) rfl (fun D B L => w_move rfl rfl rfl ⟨rfl, rfl, rfl, rfl⟩) ?_
        refine aTP 5 rfl (by kernel_rfl) rfl (fun D B L => w_move rfl rfl rfl ⟨rfl, rfl, rfl, rfl⟩) ?_
        refine aTk 6 rfl (by kernel_rfl) rfl (q_of fun D => w_nilCheck rfl rfl rfl ⟨rfl, rfl, rfl, rfl⟩) ?_
        refine aTk 7 rfl (by kernel_rfl) rfl (q_of fun D => wFA rfl rfl fo56x1 rfl ⟨rfl, rfl, rfl, rfl⟩) ?_
        refine aTk 8 rfl (by kernel_rfl) rfl (q_of fun D => w_load1 rfl rfl lk3 rfl (atL 0 rfl rfl rfl) ⟨rfl, rfl, rfl, rfl⟩) ?_
        refine aTk 9 rfl (by kernel_rfl) rfl (q_of fun D => w_sliceS rfl rfl Try.underlying9 rfl (a := i) (b := x.2) ⟨_, _, rfl, rfl⟩ ⟨_, _, rfl, rfl⟩ (by omega) (by omega) ⟨rfl, rfl, rfl, rfl⟩) ?_
        refine aTP 10 rfl (by kernel_rfl) rfl (fun D B L => w_move rfl rfl rfl ⟨rfl, rfl, rfl, rfl⟩) ?_
        refine aTk 11 rfl (by kernel_rfl) rfl (q_of fun D => w_nilCheck rfl rfl rfl ⟨rfl, rfl, rfl, rfl⟩) ?_
        refine aTk 12 rfl (by kernel_rfl) rfl (q_of fun D => wFA rfl rfl fo56x1 rfl ⟨rfl, rfl, rfl, rfl⟩) ?_
        refine aTk 13 rfl (by kernel_rfl) rfl (q_of fun D => w_load1 rfl rfl lk3 rfl (atL 0 rfl rfl rfl) ⟨rfl, rfl, rfl, rfl⟩) ?_
        refine aTP 14 rfl (by kernel_rfl) rfl (fun D B L => w_move rfl rfl rfl ⟨rfl, rfl, rfl, rfl⟩) ?_
        refine aTk 15 rfl (by kernel_rfl) rfl (q_of fun D => w_sub rfl rfl rfl rfl (by first | exact wrI64 (by omega) (by omega) | rfl) ⟨rfl, rfl, rfl, rfl⟩) ?_
        refine aTk 16 rfl (by kernel_rfl) rfl (q_of fun D => w_leq rfl rfl rfl rfl ⟨rfl, rfl, rfl, rfl⟩) ?_
        refine aTP 17 rfl (by kernel_rfl) rfl (fun D B L => w_assign rfl rfl rfl ⟨rfl, rfl, rfl, rfl⟩) ?_
        refine aTP 18 rfl (by kernel_rfl) rfl (fun D B L => w_assign rfl rfl rfl ⟨rfl, rfl, rfl, rfl⟩) ?_
        refine any_done (by kernel_rfl) (by kernel_rfl) ?_
        refine thn_n ?_
        refine wKp [(0, _), (2, _), (3, _), (4, _), (7, _), (26, _)] ⟨rfl, rfl, rfl, rfl, rfl, rfl, trivial⟩ ?_
        refine w_ret ?_
        exact end1 .ret (.inl rfl) [_, _] 0 rfl ⟨rfl, rfl, trivial⟩ ⟨two_eq (by simp [domText, hd]) (bool_eq (by rw [Bool.eq_iff_iff]; simp [domOk, hd]; omega)), rfl, by rw [hd]⟩
    · try simp only [sQ1, sQ2, sQ3, sQ4, sQ5, sQ6, sQ7, sQ8, ne_eq] at g2
      replace hd : dom l i = (true, x.2) := hd.trans (by rw [show 3 - x.1 = 0 from by omega]; rfl)
      refine oX (w_pass rfl rfl ?_)
      refine oX (w_pass rfl rfl ?_)
      refine oX (w_pickF rfl rfl rfl rfl ?_)
      refine wKp [(0, _), (4, _), (7, _), (26, _)] ⟨rfl, rfl, rfl, rfl, trivial⟩ ?_
      refine wCd (t := false) rfl (fun h => Bool.noConfusion h) (fun _ => ?_)
      refine w_exit (thn_x (rnd_x (inB_hit (thn_n ?_))))
      refine w_seq ?_
      refine w_draw (same _ _) mo (by kernel_rfl) ⟨rfl, rfl⟩ (fun _ _ => ?_)
      refine aTP 0 rfl (by kernel_rfl) rfl (fun D B L => w_move rfl rfl rfl ⟨rfl, rfl, rfl, rfl⟩) ?_
      refine aTk 1 rfl (by kernel_rfl) rfl (q_of fun D => w_nilCheck rfl rfl rfl ⟨rfl, rfl, rfl, rfl⟩) ?_
      refine aTk 2 rfl (by kernel_rfl) rfl (q_of fun D => wFA rfl rfl fo56x0 rfl ⟨rfl, rfl, rfl, rfl⟩) ?_
      refine aTk 3 rfl (by kernel_rfl) rfl (q_of fun D => w_load1 rfl rfl lk9 rfl (atL 0 rfl rfl rfl) ⟨rfl, rfl, rfl, rfl⟩) ?_
      refine aTP 4 rfl (by kernel_rfl) rfl (fun D B L => w_move rfl rfl rfl ⟨rfl, rfl, rfl, rfl⟩) ?_
      refine aTP 5 rfl (by kernel_rfl) rfl (fun D B L => w_move rfl rfl rfl ⟨rfl, rfl, rfl, rfl⟩) ?_
      refine aTk 6 rfl (by kernel_rfl) rfl (q_of fun D => w_nilCheck rfl rfl rfl ⟨rfl, rfl, rfl, rfl⟩) ?_
      refine aTk 7 rfl (by kernel_rfl) rfl (q_of fun D => wFA rfl rfl fo56x1 rfl ⟨rfl, rfl, rfl, rfl⟩) ?_
      refine aTk 8 rfl (by kernel_rfl) rfl (q_of fun D => w_load1 rfl rfl lk3 rfl (atL 0 rfl rfl rfl) ⟨rfl, rfl, rfl, rfl⟩) ?_
      refine aTk 9 rfl (by kernel_rfl) rfl (q_of fun D => w_sliceS rfl rfl Try.underlying9 rfl (a := i) (b := x.2) ⟨_, _, rfl, rfl⟩ ⟨_, _, rfl, rfl⟩ (by omega) (by omega) ⟨rfl, rfl, rfl, rfl⟩) ?_
      refine aTP 10 rfl (by kernel_rfl) rfl (fun D B L => w_move rfl rfl rfl ⟨rfl, rfl, rfl, rfl⟩) ?_
      refine aTk 11 rfl (by kernel_rfl) rfl (q_of fun D => w_nilCheck rfl rfl rfl ⟨rfl, rfl, rfl, rfl⟩) ?_
      refine aTk 12 rfl (by kernel_rfl) rfl (q_of fun D => wFA rfl rfl fo56x1 rfl ⟨rfl, rfl, rfl, rfl⟩) ?_
      refine aTk 13 rfl (by kernel_rfl) rfl (q_of fun D => w_load1 rfl rfl lk3 rfl (atL 0 rfl rfl rfl) ⟨rfl, rfl, rfl, rfl⟩) ?_
      refine aTP 14 rfl (by kernel_rfl) rfl (fun D B L => w_move rfl rfl rfl ⟨rfl, rfl, rfl, rfl⟩) ?_
      refine aTk 15 rfl (by kernel_rfl) rfl (q_of fun D => w_sub rfl rfl rfl rfl (by first | exact wrI64 (by omega) (by omega) | rfl) ⟨rfl, rfl, rfl, rfl⟩) ?_
      refine aTk 16 rfl (by kernel_rfl) rfl (q_of fun D => w_leq rfl rfl rfl rfl ⟨rfl, rfl, rfl, rfl⟩) ?_
      refine aTP 17 rfl (by kernel_rfl) rfl (fun D B L => w_assign rfl rfl rfl ⟨rfl, rfl, rfl, rfl⟩) ?_
      refine aTP 18 rfl (by kernel_rfl) rfl (fun D B L => w_assign rfl rfl rfl ⟨rfl, rfl, rfl, rfl⟩) ?_
      refine any_done (by kernel_rfl) (by kernel_rfl) ?_
      refine thn_n ?_
      refine wKp [(0, _), (2, _), (3, _), (4, _), (7, _), (26, _)] ⟨rfl, rfl, rfl, rfl, rfl, rfl, trivial⟩ ?_
      refine w_ret ?_
      exact end1 .ret (.inl rfl) [_, _] 0 rfl ⟨rfl, rfl, trivial⟩ ⟨two_eq (by simp [domText, hd]) (bool_eq (by rw [Bool.eq_iff_iff]; simp [domOk, hd]; omega)), rfl, by rw [hd]⟩

set_option maxRecDepth 4000 in
set_option maxHeartbeats 400000 in
theorem implName_c (l : List UInt8) (hl : l.length ≤ 2000000) (B : Kn) : RetB (pj J) 36 [str l] B (.bool (nameOk l)) := by
  refine cBB 16 Try.func36 rfl rfl rfl (Nat.le_of_ble_eq_true rfl) ?_
  refine wSR ?_
  refine xAs ?_
  refine wKp [(0, _), (2, _)] ⟨rfl, rfl, trivial⟩ ?_
  refine wSR ?_
  refine xMv ?_
  refine oX (w_build (parts := [(0, _)]) [_, _] [_, _] rfl rfl pl56 zo56 rfl rfl rfl ?_)
  refine oX (w_alloc (l := [_, _]) rfl rfl zo56 rfl (fun b0 => ?_))
  refine oX (w_store [_, _] 0 [_, _] rfl rfl sz56 rfl rfl rfl rfl rfl rfl rfl rfl ?_)
  refine wTd [(0, _), (2, _), (3, _)] [_] ⟨rfl, rfl, rfl, trivial⟩ rfl ?_
  refine wSR ?_
  refine oX (w_upd1 0 rfl rfl rfl en34 rfl (name_c _ _ 0 (by omega) hl _) ?_)
  refine xMv ?_
  refine oX (w_extract rfl rfl rfl rfl ?_)
  refine oX (w_extract rfl rfl rfl rfl ?_)
  refine xAs ?_
  refine xAs ?_
  refine wTd [(0, _), (2, _), (3, _), (5, _)] [_] ⟨rfl, rfl, rfl, rfl, trivial⟩ rfl ?_
  refine wSR ?_
  refine xMv ?_
  refine xMv ?_
  refine r_split (d := 13) rfl (fun g1 => ?_) (fun g1 => ?_)
  · try simp only [sQ1, sQ2, sQ3, sQ4, sQ5, sQ6, sQ7, sQ8, ne_eq] at g1
    refine oX (w_ret1 0 rfl rfl rfl en19 rfl (done_c _ _ (0 + (word l 0).length) (word_le (Nat.zero_le _)) (by omega) _) ?_)
    refine oX (w_pickT rfl rfl rfl rfl ?_)
    refine xAs ?_
    refine wKp [(0, _), (2, _), (3, _), (5, _)] ⟨rfl, rfl, rfl, rfl, trivial⟩ ?_
    refine w_ret ?_
    exact end0 .ret (.inl rfl) [_] ⟨rfl, trivial⟩ ⟨bool_eq (by rw [nameOk_word]; simp [g1]; try omega), rfl, rfl⟩
  · try simp only [sQ1, sQ2, sQ3, sQ4, sQ5, sQ6, sQ7, sQ8, ne_eq] at g1
    refine oX (w_pass rfl rfl ?_)
    refine oX (w_pickF rfl rfl rfl rfl ?_)
    refine xAs ?_
    refine wKp [(0, _), (2, _), (3, _), (5, _)] ⟨rfl, rfl, rfl, rfl, trivial⟩ ?_
    refine w_ret ?_
    exact end0 .ret (.inl rfl) [_] ⟨rfl, trivial⟩ ⟨bool_eq (by rw [nameOk_word]; simp [g1]; try omega), rfl, rfl⟩

abbrev rd (b : Nat) (q : Option Addr) (m cp p : Nat) : Cells := box1 b [.slice q m cp, .int .i64 p] 62
set_option maxRecDepth 4000 in
set_option maxHeartbeats 400000 in
theorem l6Open_c (q : Option Addr) (m cp : Nat) (hmc : m ≤ cp) (B : Kn) (hb : BytesAt B q m) : New1 (pj J) 10 [.slice q m cp] B (fun v s => ∃ b q m cp, v = ptr ⟨b, 0, none⟩ ∧ s = rd b q m cp 0 ∧ m ≤ 2000 ∧ BytesAt B q m) := by
  refine cBB 11 Try.func10 rfl rfl rfl (Nat.le_of_ble_eq_true rfl) ?_
  refine wSR ?_
  refine xAs ?_
  refine wKp [(0, _), (2, _)] ⟨rfl, rfl, trivial⟩ ?_
  refine w_seq ?_
  refine wSR ?_
  refine xMv ?_
  refine oX (w_lenV rfl rfl Try.underlying22 rfl ?_)
  refine oX (w_gtr rfl rfl rfl rfl ?_)
  refine wKp [(0, _), (2, _), (5, _)] ⟨rfl, rfl, rfl, trivial⟩ ?_
  refine wCd rfl (fun g1 => ?_) (fun g1 => ?_)
  · try simp only [sQ1, sQ2, sQ3, sQ4, sQ5, sQ6, sQ7, sQ8, ne_eq] at g1
    refine w_region ?_
    refine xMv ?_
    refine oX (w_sliceV rfl rfl Try.underlying22 sz5 rfl (a := 0) (b := 2000) rfl ⟨_, _, rfl, rfl⟩ (by omega) (by omega) ?_)
    refine xAs ?_
    refine thn_n ?_
    refine wSR ?_
    refine xMv ?_
    refine oX (w_build (parts := [(0, _)]) [_, _] [_, _] rfl rfl pl62 zo62 rfl rfl rfl ?_)
    refine oX (w_box (l := [_, _]) rfl rfl rfl rfl (fun b0 => ?_))
    refine xAs ?_
    refine wTd [(0, _), (2, _), (5, _)] [_] ⟨rfl, rfl, rfl, trivial⟩ rfl ?_
    refine w_ret ?_
    exact end1 .ret (.inl rfl) [_] 0 rfl ⟨rfl, trivial⟩ ⟨rfl, _, rfl, _, _, _, _, rfl, rfl, by omega, hb.take (by omega)⟩
  · try simp only [sQ1, sQ2, sQ3, sQ4, sQ5, sQ6, sQ7, sQ8, ne_eq] at g1
    refine w_skip ?_
    refine thn_n ?_
    refine wSR ?_
    refine xMv ?_
    refine oX (w_build (parts := [(0, _)]) [_, _] [_, _] rfl rfl pl62 zo62 rfl rfl rfl ?_)
    refine oX (w_box (l := [_, _]) rfl rfl rfl rfl (fun b0 => ?_))
    refine xAs ?_
    refine wTd [(0, _), (2, _), (5, _)] [_] ⟨rfl, rfl, rfl, trivial⟩ rfl ?_
    refine w_ret ?_
    exact end1 .ret (.inl rfl) [_] 0 rfl ⟨rfl, trivial⟩ ⟨rfl, _, rfl, _, _, _, _, rfl, rfl, by omega, hb⟩

set_option maxRecDepth 4000 in
set_option maxHeartbeats 400000 in
theorem pick_c (b : Nat) (q : Option Addr) (m cp p : Nat) (n : Int) (hp : p ≤ 1000000000000) (hn : 1 ≤ n) (hn2 : n ≤ 1000000000000) (hm : m ≤ 2000) (B : Kn) (hb : BytesAt B q m) : Ex1 (pj J) 21 [ptr ⟨b, 0, none⟩, .int .i64 n] B (rd b q m cp p) (fun v s => ∃ r : Int, v = .int .i64 r ∧ 0 ≤ r ∧ r < n ∧ s = rd b q m cp (p + 1)) := by
  refine cBB 99 Try.func21 rfl rfl rfl (Nat.le_of_ble_eq_true rfl) ?_
  refine wSR ?_
  refine xAs ?_
  refine wKp [(0, _), (1, _), (4, _)] ⟨rfl, rfl, rfl, trivial⟩ ?_
  refine wSR ?_
  refine xMv ?_
  refine xMv ?_
  refine oX (w_nilCheck rfl rfl rfl ?_)
  refine oX (wFA rfl rfl fo62x1 rfl ?_)
  refine oX (w_load1 rfl rfl lk3 rfl (atL 0 rfl rfl rfl) ?_)
  refine oX (w_add rfl rfl rfl rfl (by first | exact wrI64 (by omega) (by omega) | rfl) ?_)
  refine oX (w_nilCheck rfl rfl rfl ?_)
  refine oX (wFA rfl rfl fo62x1 rfl ?_)
  refine oX (w_store [_] 0 [_, _] rfl rfl sz3 rfl rfl rfl rfl rfl rfl rfl rfl ?_)
  refine wTd [(0, _), (1, _), (4, _)] [_] ⟨rfl, rfl, rfl, trivial⟩ rfl ?_
  refine w_seq ?_
  refine wSR ?_
  refine xMv ?_
  refine oX (w_lss rfl rfl rfl rfl ?_)
  refine xMv ?_
  refine r_split (d := 17) rfl (fun g1 => by have := of_decide_eq_true g1; omega) (fun g1 => ?_)
  try simp only [sQ1, sQ2, sQ3, sQ4, sQ5, sQ6, sQ7, sQ8, ne_eq] at g1
  refine xMv ?_
  refine oX (w_nilCheck rfl rfl rfl ?_)
  refine oX (wFA rfl rfl fo62x0 rfl ?_)
  refine oX (w_load1 rfl rfl lk22 rfl (atL 0 rfl rfl rfl) ?_)
  refine oX (w_lenV rfl rfl Try.underlying22 rfl ?_)
  refine oX (w_eqlI rfl rfl rfl rfl ?_)
  refine oX (w_pickF rfl rfl rfl rfl ?_)
  refine wKp [(0, _), (1, _), (4, _), (24, _)] ⟨rfl, rfl, rfl, rfl, trivial⟩ ?_
  refine wCd rfl (fun g2 => ?_) (fun g2 => ?_)
  · try simp only [sQ1, sQ2, sQ3, sQ4, sQ5, sQ6, sQ7, sQ8, ne_eq] at g2
    refine wSR ?_
    refine xAs ?_
    refine wKp [(0, _), (1, _), (4, _), (24, _)] ⟨rfl, rfl, rfl, rfl, trivial⟩ ?_
    refine w_ret (thn_r ?_)
    exact end1 .ret (.inl rfl) [_] 0 rfl ⟨rfl, trivial⟩ ⟨rfl, _, rfl, 0, rfl, by omega, by omega, rfl⟩
  · try simp only [sQ1, sQ2, sQ3, sQ4, sQ5, sQ6, sQ7, sQ8, ne_eq] at g2
    have hm0 : 0 < m := by omega
    obtain ⟨a, rfl, hc⟩ := hb.at hm0
    refine w_skip ?_
    refine thn_n ?_
    refine wSR ?_
    refine xMv ?_
    refine oX (w_nilCheck rfl rfl rfl ?_)
    refine oX (wFA rfl rfl fo62x1 rfl ?_)
    refine oX (w_load1 rfl rfl lk3 rfl (atL 0 rfl rfl rfl) ?_)
    refine oX (w_sub rfl rfl rfl rfl (by first | exact wrI64 (by omega) (by omega) | rfl) ?_)
    refine xAs ?_
    refine wKp [(0, _), (1, _), (4, _), (5, _), (24, _)] ⟨rfl, rfl, rfl, rfl, rfl, trivial⟩ ?_
    refine w_seq ?_
    refine wSR ?_
    refine xMv ?_
    refine xMv ?_
    refine oX (w_nilCheck rfl rfl rfl ?_)
    refine oX (wFA rfl rfl fo62x0 rfl ?_)
    refine oX (w_load1 rfl rfl lk22 rfl (atL 0 rfl rfl rfl) ?_)
    refine oX (w_lenV rfl rfl Try.underlying22 rfl ?_)
    refine oX (w_lss rfl rfl rfl rfl ?_)
    refine wKp [(0, _), (1, _), (4, _), (5, _), (24, _), (36, _)] ⟨rfl, rfl, rfl, rfl, rfl, rfl, trivial⟩ ?_
    refine wCd rfl (fun g3 => ?_) (fun g3 => ?_)
    · try simp only [sQ1, sQ2, sQ3, sQ4, sQ5, sQ6, sQ7, sQ8, ne_eq] at g3
      obtain ⟨z, hz, h1⟩ := hc (↑p + 1 - 1) (by omega) (by omega)
      refine wSR ?_
      refine xMv ?_
      refine oX (w_nilCheck rfl rfl rfl ?_)
      refine oX (wFA rfl rfl fo62x0 rfl ?_)
      refine oX (w_load1 rfl rfl lk22 rfl (atL 0 rfl rfl rfl) ?_)
      refine xMv ?_
      refine oX (w_indexAddr rfl rfl Try.underlying22 sz5 rfl rfl (by omega) (by omega) ?_)
      refine oX (w_load1 rfl rfl lk5 rfl (h1 _) ?_)
      refine oX (w_convI rfl rfl Try.underlying5 Try.underlying3 rfl (by first | exact wrI64 (by omega) (by omega) | rfl) ?_)
      refine xMv ?_
      refine oX (w_rem rfl rfl rfl rfl (by omega) (by first | exact wrI64 (by omega) (by omega) | rfl) ?_)
      refine xAs ?_
      refine wKp [(0, _), (1, _), (4, _), (5, _), (24, _), (36, _)] ⟨rfl, rfl, rfl, rfl, rfl, rfl, trivial⟩ ?_
      refine w_ret (thn_r ?_)
      exact end1 .ret (.inl rfl) [_] 0 rfl ⟨rfl, trivial⟩ ⟨rfl, _, rfl, _, rfl, Int.tmod_nonneg _ (by omega), Int.tmod_lt_of_pos _ (by omega), rfl⟩
    · try simp only [sQ1, sQ2, sQ3, sQ4, sQ5, sQ6, sQ7, sQ8, ne_eq] at g3
      obtain ⟨z, hz, h1⟩ := hc (Int.tmod (↑p + 1 - 1) ↑m) (Int.tmod_nonneg _ (by omega)) (Int.tmod_lt_of_pos _ (by omega))
      obtain ⟨z2, hz2, h2⟩ := hc (Int.tmod ((↑p + 1 - 1) * 7 + 3) ↑m) (Int.tmod_nonneg _ (by omega)) (Int.tmod_lt_of_pos _ (by omega))
      have ht0 : 0 ≤ Int.tdiv (↑p + 1 - 1) ↑m := Int.tdiv_nonneg (by omega) (by omega)
      have ht1 : Int.tdiv (↑p + 1 - 1) ↑m ≤ ↑p + 1 - 1 := Int.tdiv_le_self _ (by omega)
      refine w_skip ?_
      refine thn_n ?_
      refine w_seq ?_
      refine w_draw (same _ _) mo (by kernel_rfl) ⟨rfl, rfl⟩ (fun _ _ => ?_)
      refine aTP 0 rfl (by kernel_rfl) rfl (fun D B L => w_move rfl rfl rfl ⟨rfl, rfl, rfl, rfl⟩) ?_
      refine aTk 1 rfl (by kernel_rfl) rfl (q_of fun D => w_nilCheck rfl rfl rfl ⟨rfl, rfl, rfl, rfl⟩) ?_
      refine aTk 2 rfl (by kernel_rfl) rfl (q_of fun D => wFA rfl rfl fo62x0 rfl ⟨rfl, rfl, rfl, rfl⟩) ?_
      refine aTk 3 rfl (by kernel_rfl) rfl (q_of fun D => w_load1 rfl rfl lk22 rfl (atL 0 rfl rfl rfl) ⟨rfl, rfl, rfl, rfl⟩) ?_
      refine aTP 4 rfl (by kernel_rfl) rfl (fun D B L => w_move rfl rfl rfl ⟨rfl, rfl, rfl, rfl⟩) ?_
      refine aTP 5 rfl (by kernel_rfl) rfl (fun D B L => w_move rfl rfl rfl ⟨rfl, rfl, rfl, rfl⟩) ?_
      refine aTk 6 rfl (by kernel_rfl) rfl (q_of fun D => w_nilCheck rfl rfl rfl ⟨rfl, rfl, rfl, rfl⟩) ?_
      refine aTk 7 rfl (by kernel_rfl) rfl (q_of fun D => wFA rfl rfl fo62x0 rfl ⟨rfl, rfl, rfl, rfl⟩) ?_
      refine aTk 8 rfl (by kernel_rfl) rfl (q_of fun D => w_load1 rfl rfl lk22 rfl (atL 0 rfl rfl rfl) ⟨rfl, rfl, rfl, rfl⟩) ?_
      refine aTk 9 rfl (by kernel_rfl) rfl (q_of fun D => w_lenV rfl rfl Try.underlying22 rfl ⟨rfl, rfl, rfl, rfl⟩) ?_
      refine aTk 10 rfl (by kernel_rfl) rfl (q_of fun D => w_rem rfl rfl rfl rfl (by omega) (by first | exact wrI64 (by omega) (by omega) | rfl) ⟨rfl, rfl, rfl, rfl⟩) ?_
      refine aTk 11 rfl (by kernel_rfl) rfl (q_of fun D => w_indexAddr rfl rfl Try.underlying22 sz5 rfl rfl (Int.tmod_nonneg _ (by omega)) (Int.tmod_lt_of_pos _ (by omega)) ⟨rfl, rfl, rfl, rfl⟩) ?_
      refine aTk 12 rfl (by kernel_rfl) rfl (q_of fun D => w_load1 rfl rfl lk5 rfl (h1 _) ⟨rfl, rfl, rfl, rfl⟩) ?_
      refine aTk 13 rfl (by kernel_rfl) rfl (q_of fun D => w_convI rfl rfl Try.underlying5 Try.underlying3 rfl (by first | exact wrI64 (by omega) (by omega) | rfl) ⟨rfl, rfl, rfl, rfl⟩) ?_
      refine aTk 14 rfl (by kernel_rfl) rfl (q_of fun D => w_mul rfl rfl rfl rfl (by first | exact wrI64 (by omega) (by omega) | rfl) ⟨rfl, rfl, rfl, rfl⟩) ?_
      refine aTP 15 rfl (by kernel_rfl) rfl (fun D B L => w_move rfl rfl rfl ⟨rfl, rfl, rfl, rfl⟩) ?_
      refine aTk 16 rfl (by kernel_rfl) rfl (q_of fun D => w_nilCheck rfl rfl rfl ⟨rfl, rfl, rfl, rfl⟩) ?_
      refine aTk 17 rfl (by kernel_rfl) rfl (q_of fun D => wFA rfl rfl fo62x0 rfl ⟨rfl, rfl, rfl, rfl⟩) ?_
      refine aTk 18 rfl (by kernel_rfl) rfl (q_of fun D => w_load1 rfl rfl lk22 rfl (atL 0 rfl rfl rfl) ⟨rfl, rfl, rfl, rfl⟩) ?_
      refine aTP 19 rfl (by kernel_rfl) rfl (fun D B L => w_move rfl rfl rfl ⟨rfl, rfl, rfl, rfl⟩) ?_
      refine aTk 20 rfl (by kernel_rfl) rfl (q_of fun D => w_mul rfl rfl rfl rfl (by first | exact wrI64 (by omega) (by omega) | rfl) ⟨rfl, rfl, rfl, rfl⟩) ?_
      refine aTk 21 rfl (by kernel_rfl) rfl (q_of fun D => w_add rfl rfl rfl rfl (by first | exact wrI64 (by omega) (by omega) | rfl) ⟨rfl, rfl, rfl, rfl⟩) ?_
      refine aTP 22 rfl (by kernel_rfl) rfl (fun D B L => w_move rfl rfl rfl ⟨rfl, rfl, rfl, rfl⟩) ?_
      refine aTk 23 rfl (by kernel_rfl) rfl (q_of fun D => w_nilCheck rfl rfl rfl ⟨rfl, rfl, rfl, rfl⟩) ?_
      refine aTk 24 rfl (by kernel_rfl) rfl (q_of fun D => wFA rfl rfl fo62x0 rfl ⟨rfl, rfl, rfl, rfl⟩) ?_
      refine aTk 25 rfl (by kernel_rfl) rfl (q_of fun D => w_load1 rfl rfl lk22 rfl (atL 0 rfl rfl rfl) ⟨rfl, rfl, rfl, rfl⟩) ?_
      refine aTk 26 rfl (by kernel_rfl) rfl (q_of fun D => w_lenV rfl rfl Try.underlying22 rfl ⟨rfl, rfl, rfl, rfl⟩) ?_
      refine aTk 27 rfl (by kernel_rfl) rfl (q_of fun D => w_rem rfl rfl rfl rfl (by omega) (by first | exact wrI64 (by omega) (by omega) | rfl) ⟨rfl, rfl, rfl, rfl⟩) ?_
      refine aTk 28 rfl (by kernel_rfl) rfl (q_of fun D => w_indexAddr rfl rfl Try.underlying22 sz5 rfl rfl (Int.tmod_nonneg _ (by omega)) (Int.tmod_lt_of_pos _ (by omega)) ⟨rfl, rfl, rfl, rfl⟩) ?_
      refine aTk 29 rfl (by kernel_rfl) rfl (q_of fun D => w_load1 rfl rfl lk5 rfl (h2 _) ⟨rfl, rfl, rfl, rfl⟩) ?_
      refine aTk 30 rfl (by kernel_rfl) rfl (q_of fun D => w_convI rfl rfl Try.underlying5 Try.underlying3 rfl (by first | exact wrI64 (by omega) (by omega) | rfl) ⟨rfl, rfl, rfl, rfl⟩) ?_
      refine aTk 31 rfl (by kernel_rfl) rfl (q_of fun D => w_mul rfl rfl rfl rfl (by first | exact wrI64 (by omega) (by omega) | rfl) ⟨rfl, rfl, rfl, rfl⟩) ?_
      refine aTk 32 rfl (by kernel_rfl) rfl (q_of fun D => w_add rfl rfl rfl rfl (by first | exact wrI64 (by omega) (by omega) | rfl) ⟨rfl, rfl, rfl, rfl⟩) ?_
      refine aTP 33 rfl (by kernel_rfl) rfl (fun D B L => w_move rfl rfl rfl ⟨rfl, rfl, rfl, rfl⟩) ?_
      refine aTk 34 rfl (by kernel_rfl) rfl (q_of fun D => w_mul rfl rfl rfl rfl (by first | exact wrI64 (by omega) (by omega) | rfl) ⟨rfl, rfl, rfl, rfl⟩) ?_
      refine aTk 35 rfl (by kernel_rfl) rfl (q_of fun D => w_add rfl rfl rfl rfl (by first | exact wrI64 (by omega) (by omega) | rfl) ⟨rfl, rfl, rfl, rfl⟩) ?_
      refine aTP 36 rfl (by kernel_rfl) rfl (fun D B L => w_move rfl rfl rfl ⟨rfl, rfl, rfl, rfl⟩) ?_
      refine aTP 37 rfl (by kernel_rfl) rfl (fun D B L => w_move rfl rfl rfl ⟨rfl, rfl, rfl, rfl⟩) ?_
      refine aTk 38 rfl (by kernel_rfl) rfl (q_of fun D => w_nilCheck rfl rfl rfl ⟨rfl, rfl, rfl, rfl⟩) ?_
      refine aTk 39 rfl (by kernel_rfl) rfl (q_of fun D => wFA rfl rfl fo62x0 rfl ⟨rfl, rfl, rfl, rfl⟩) ?_
      refine aTk 40 rfl (by kernel_rfl) rfl (q_of fun D => w_load1 rfl rfl lk22 rfl (atL 0 rfl rfl rfl) ⟨rfl, rfl, rfl, rfl⟩) ?_
      refine aTk 41 rfl (by kernel_rfl) rfl (q_of fun D => w_lenV rfl rfl Try.underlying22 rfl ⟨rfl, rfl, rfl, rfl⟩) ?_
      refine aTk 42 rfl (by kernel_rfl) rfl (q_of fun D => w_quo rfl rfl rfl rfl (by omega) (by first | exact wrI64 (by omega) (by omega) | rfl) ⟨rfl, rfl, rfl, rfl⟩) ?_
      refine aTk 43 rfl (by kernel_rfl) rfl (q_of fun D => w_mul rfl rfl rfl rfl (by first | exact wrI64 (by omega) (by omega) | rfl) ⟨rfl, rfl, rfl, rfl⟩) ?_
      refine aTk 44 rfl (by kernel_rfl) rfl (q_of fun D => w_add rfl rfl rfl rfl (by first | exact wrI64 (by omega) (by omega) | rfl) ⟨rfl, rfl, rfl, rfl⟩) ?_
      refine aTP 45 rfl (by kernel_rfl) rfl (fun D B L => w_assign rfl rfl rfl ⟨rfl, rfl, rfl, rfl⟩) ?_
      refine any_done (by kernel_rfl) (by kernel_rfl) ?_
      refine thn_n ?_
      refine wKp [(0, _), (1, _), (4, _), (5, _), (6, _), (24, _), (36, _)] ⟨rfl, rfl, rfl, rfl, rfl, rfl, rfl, trivial⟩ ?_
      generalize hx : (↑z * 131 + ↑z2 * 1117 + (↑p + 1 - 1) * 29 + (↑p + 1 - 1 : Int).tdiv ↑m * 53 : Int) = x
      have hx0 : 0 ≤ x := by omega
      have hx1 : x < 1000000000000000 := by omega
      have hy0 : 0 ≤ Int.tdiv x 64 := Int.tdiv_nonneg (by omega) (by omega)
      have hy1 : Int.tdiv x 64 ≤ x := Int.tdiv_le_self _ (by omega)
      refine wSR ?_
      refine xMv ?_
      refine xMv ?_
      refine oX (w_quo rfl rfl rfl rfl (by omega) (by first | exact wrI64 (by omega) (by omega) | rfl) ?_)
      refine oX (w_xor rfl rfl rfl rfl (by omega) (by omega) (by omega) (by omega) (fun y hy2 hy3 => ?_))
      refine xAs ?_
      refine wKp [(0, _), (1, _), (4, _), (5, _), (6, _), (24, _), (36, _)] ⟨rfl, rfl, rfl, rfl, rfl, rfl, rfl, trivial⟩ ?_
      refine wSR ?_
      refine xMv ?_
      refine xMv ?_
      refine oX (w_rem rfl rfl rfl rfl (by omega) (by first | exact wrI64 (by omega) (by omega) | rfl) ?_)
      refine xAs ?_
      refine wKp [(0, _), (1, _), (4, _), (5, _), (6, _), (24, _), (36, _)] ⟨rfl, rfl, rfl, rfl, rfl, rfl, rfl, trivial⟩ ?_
      refine w_ret ?_
      exact end1 .ret (.inl rfl) [_] 0 rfl ⟨rfl, trivial⟩ ⟨rfl, _, rfl, _, rfl, Int.tmod_nonneg _ (by omega), Int.tmod_lt_of_pos _ (by omega), rfl⟩

set_option maxRecDepth 4000 in
set_option maxHeartbeats 400000 in
theorem of_c (b : Nat) (q : Option Addr) (m cp p : Nat) (b1 : Nat) (ls : List (List UInt8)) (hp : p ≤ 1000000000000) (hn : 1 ≤ ls.length) (hn2 : ls.length ≤ 1000000000000) (hm : m ≤ 2000) (B : Kn) (hbm : BytesAt B q m) : CallsB (pj J) 22 [ptr ⟨b, 0, none⟩, .slice (some ⟨b1, 0, none⟩) ls.length ls.length] B [rd b q m cp p, box1 b1 (ls.map str) 9] (fun v B' Ls => B' = B ∧ ∃ x, x ∈ ls ∧ v = str x ∧ Ls = [rd b q m cp (p + 1)]) := by
  refine cBB 12 Try.func22 rfl rfl rfl (Nat.le_of_ble_eq_true rfl) ?_
  skip
  refine wSR ?_
  refine xAs ?_
  refine wKp [(0, _), (1, _), (4, _)] ⟨rfl, rfl, rfl, trivial⟩ ?_
  refine wSR ?_
  refine xMv ?_
  refine xMv ?_
  refine xMv ?_
  refine oX (w_lenV rfl rfl Try.underlying65 rfl ?_)
  refine oX (w_ex1 0 rfl rfl rfl en21 rfl (pick_c _ _ _ _ _ _ (by omega) (by omega) (by omega) hm _ hbm) ?_)
  rintro _ _ ⟨r1, rfl, r1a, r1b, rfl⟩
  refine oX (w_indexAddr rfl rfl Try.underlying65 sz9 rfl rfl (by omega) (by omega) ?_)
  obtain ⟨x, hx⟩ : ∃ x, ls[r1.toNat]? = some x := ⟨_, List.getElem?_eq_getElem (by omega)⟩
  refine oX (w_load1 rfl rfl lk9 rfl (atElem 1 rfl (v := str x) (by rw [Nat.mul_one, List.getElem?_map, hx]; rfl)) ?_)
  refine xAs ?_
  refine wTd [(0, _), (1, _), (4, _)] [_, _] ⟨rfl, rfl, rfl, trivial⟩ rfl ?_
  refine w_ret ?_
  exact endN .ret (.inl rfl) [_] [0] rfl ⟨rfl, trivial⟩ ⟨rfl, x, List.mem_of_getElem? hx, rfl, rfl⟩

set_option maxRecDepth 4000 in
set_option maxHeartbeats 400000 in
theorem l91Name_c (b : Nat) (q : Option Addr) (m cp p : Nat) (hp : p ≤ 900000000000) (hm : m ≤ 2000) (B : Kn) (hbm : BytesAt B q m) : Ex1 (pj J) 23 [ptr ⟨b, 0, none⟩] B (rd b q m cp p) (fun v s => ∃ x : List UInt8, v = str x ∧ x.length ≤ 9 ∧ s = rd b q m cp (p + 2)) := by
  refine cBB 12 Try.func23 rfl rfl rfl (Nat.le_of_ble_eq_true rfl) ?_
  refine wSR ?_
  refine xAs ?_
  refine wKp [(0, _), (2, _)] ⟨rfl, rfl, trivial⟩ ?_
  refine w_seq ?_
  refine wSR ?_
  refine xMv ?_
  refine oX (w_ex1 0 rfl rfl rfl en21 rfl (pick_c _ _ _ _ _ _ (by omega) (by omega) (by omega) hm _ hbm) ?_)
  rintro _ _ ⟨r1, rfl, r1a, r1b, rfl⟩
  refine oX (w_eqlI rfl rfl rfl rfl ?_)
  refine wTd [(0, _), (2, _), (5, _)] [_] ⟨rfl, rfl, rfl, trivial⟩ rfl ?_
  refine wCd rfl (fun g1 => ?_) (fun g1 => ?_)
  · try simp only [sQ1, sQ2, sQ3, sQ4, sQ5, sQ6, sQ7, sQ8, ne_eq] at g1
    refine wSR ?_
    refine xMv ?_
    refine oX (wBS (parts := [(0, _), (1, _), (2, _), (3, _), (4, _), (5, _), (6, _)]) [_, _, _, _, _, _, _] rfl rfl Try.underlying65 sz9 zo9 rfl rfl rfl rfl rfl (fun b1 => ?_))
    refine oX (w_callN [0, 1] rfl rfl rfl rfl en22 rfl (of_c _ _ _ _ _ _ [[], [65], [116, 111, 111, 108, 111, 110, 103, 49, 50], [97, 45, 98], [101, 105, 103, 104, 116, 56, 56, 56], [48], [97, 110, 121, 111, 110, 101]] (by omega) (by decide) (by decide) hm _ hbm) ?_)
    rintro _ _ _ hle2 ⟨rfl, x2, hx2, rfl, rfl⟩
    refine xAs ?_
    refine wTd [(0, _), (2, _), (5, _)] [_, _] ⟨rfl, rfl, rfl, trivial⟩ rfl ?_
    refine w_ret (thn_r ?_)
    exact end1 .ret (.inl rfl) [_] 0 rfl ⟨rfl, trivial⟩ ⟨rfl, _, rfl, x2, rfl, (show ∀ x ∈ _, x.length ≤ 9 from by decide) _ hx2, rfl⟩
  · try simp only [sQ1, sQ2, sQ3, sQ4, sQ5, sQ6, sQ7, sQ8, ne_eq] at g1
    refine w_skip ?_
    refine thn_n ?_
    refine wSR ?_
    refine xMv ?_
    refine oX (wBS (parts := [(0, _), (1, _), (2, _), (3, _), (4, _), (5, _)]) [_, _, _, _, _, _] rfl rfl Try.underlying65 sz9 zo9 rfl rfl rfl rfl rfl (fun b1 => ?_))
    refine oX (w_callN [0, 1] rfl rfl rfl rfl en22 rfl (of_c _ _ _ _ _ _ [[97, 109, 121], [98, 111, 98], [99, 121, 100], [100, 97, 110], [98, 111, 120, 49], [120]] (by omega) (by decide) (by decide) hm _ hbm) ?_)
    rintro _ _ _ hle3 ⟨rfl, x3, hx3, rfl, rfl⟩
    refine xAs ?_
    refine wTd [(0, _), (2, _), (5, _)] [_, _] ⟨rfl, rfl, rfl, trivial⟩ rfl ?_
    refine w_ret ?_
    exact end1 .ret (.inl rfl) [_] 0 rfl ⟨rfl, trivial⟩ ⟨rfl, _, rfl, x3, rfl, (show ∀ x ∈ _, x.length ≤ 9 from by decide) _ hx3, rfl⟩

abbrev VecS (s : Cells) (q : Option Addr) (m cp : Nat) (ls : List (List UInt8)) : Prop := VecL s q m cp 9 1 (ls.map str)
theorem vecS_snoc {s : Cells} {q : Option Addr} {m cp : Nat} {ls : List (List UInt8)} {a : List UInt8} (h : VecL s q m cp 9 1 (ls.map str ++ [str a])) : VecS s q m cp (ls ++ [a]) := by
  unfold VecS
  rw [List.map_append]
  exact h
set_option maxRecDepth 4000 in
set_option maxHeartbeats 400000 in
theorem l1Cut_c (l : List UInt8) (hl : l.length ≤ 2000000) (x0 : UInt8) (B : Kn) : New1 (pj J) 37 [str l, .int .u8 x0.toNat] B (fun v s => ∃ q cp, v = .slice q (cut x0 l).length cp ∧ VecS s q (cut x0 l).length cp (cut x0 l)) := by
  refine cBB 35 Try.func37 rfl rfl rfl (Nat.le_of_ble_eq_true rfl) ?_
  refine wSR ?_
  refine xAs ?_
  refine wKp [(0, _), (1, _), (4, _)] ⟨rfl, rfl, rfl, trivial⟩ ?_
  refine wSR ?_
  refine oX (wBS (parts := []) [] rfl rfl Try.underlying65 sz9 zo9 rfl rfl rfl rfl rfl (fun b0 => ?_))
  refine xAs ?_
  refine wTd [(0, _), (1, _), (4, _), (5, _)] [_] ⟨rfl, rfl, rfl, rfl, trivial⟩ rfl ?_
  refine wSR ?_
  refine xAs ?_
  refine wKp [(0, _), (1, _), (4, _), (5, _), (6, _)] ⟨rfl, rfl, rfl, rfl, rfl, trivial⟩ ?_
  refine w_seq ?_
  refine wSR ?_
  refine xAs ?_
  refine wKp [(0, _), (1, _), (4, _), (5, _), (6, _), (7, _)] ⟨rfl, rfl, rfl, rfl, rfl, rfl, trivial⟩ ?_
  refine w_block ?_
  refine w_loop (α := CutSt) (fun x => [(0, str l), (1, .int .u8 x0.toNat), (5, .slice x.q x.m x.cp), (6, .int .i64 x.f), (7, .int .i64 x.i)]) (fun x => [x.s]) (fun x Bx => Bx = B ∧ x.f ≤ x.i ∧ x.i ≤ l.length ∧ x.m ≤ x.i ∧ x.m = x.ps.length ∧ VecS x.s x.q x.m x.cp x.ps ∧ cut x0 l = x.ps ++ glue ((l.take x.i).drop x.f) (cut x0 (l.drop x.i))) (fun x => l.length - x.i) ⟨0, 0, 0, [], some ⟨b0, 0, none⟩, 0, box1 b0 [] 9⟩ ⟨rfl, rfl, rfl, rfl, rfl, trivial⟩ rfl (⟨rfl, Nat.le_refl _, Nat.zero_le _, Nat.le_refl _, rfl, VecL.lit rfl, by simp [glue_nil (cut_ne x0 l)]⟩) (fun x B1 hle1 hI => ?_)
  obtain ⟨rfl, hf, hi, hn, hm, hv, hc⟩ := hI
  refine w_seq ?_
  refine wSR ?_
  refine xMv ?_
  refine xMv ?_
  refine oX (w_lenS rfl rfl Try.underlying9 rfl ?_)
  refine oX (w_lss rfl rfl rfl rfl ?_)
  refine wKp [(0, _), (1, _), (5, _), (6, _), (7, _), (12, _)] ⟨rfl, rfl, rfl, rfl, rfl, rfl, trivial⟩ ?_
  refine wCd rfl (fun g1 => ?_) (fun g1 => ?_)
  · try simp only [sQ1, sQ2, sQ3, sQ4, sQ5, sQ6, sQ7, sQ8, ne_eq] at g1
    obtain ⟨c, hx⟩ : ∃ c, l[x.i]? = some c := ⟨_, List.getElem?_eq_getElem (by omega)⟩
    refine w_skip ?_
    refine thn_n ?_
    refine w_seq ?_
    refine w_block ?_
    refine wSR ?_
    refine xMv ?_
    refine xMv ?_
    refine oX (w_index rfl rfl Try.underlying9 rfl rfl (by omega) hx ?_)
    refine xMv ?_
    refine oX (w_eqlI rfl rfl rfl rfl ?_)
    refine wKp [(0, _), (1, _), (5, _), (6, _), (7, _), (12, _), (19, _)] ⟨rfl, rfl, rfl, rfl, rfl, rfl, rfl, trivial⟩ ?_
    refine wCd rfl (fun g2 => ?_) (fun g2 => ?_)
    · try simp only [sQ1, sQ2, sQ3, sQ4, sQ5, sQ6, sQ7, sQ8, ne_eq] at g2
      refine wSR ?_
      refine xMv ?_
      refine xMv ?_
      refine xMv ?_
      refine xMv ?_
      refine oX (w_sliceS rfl rfl Try.underlying9 rfl (a := x.f) (b := x.i) ⟨_, _, rfl, rfl⟩ ⟨_, _, rfl, rfl⟩ (by omega) (by omega) ?_)
      refine oX (wBS (parts := [(0, _)]) [_] rfl rfl Try.underlying65 sz9 zo9 rfl rfl rfl rfl rfl (fun b1 => ?_))
      refine oX (w_append 0 rfl (hv) rfl rfl eo65 su65 rfl rfl (SrcAt.box 1 rfl) rfl rfl (by omega) (fun l1 p1 c1 hv1 => ?_))
      refine xAs ?_
      refine wTd [(0, _), (1, _), (5, _), (6, _), (7, _), (12, _), (19, _)] [_, _] ⟨rfl, rfl, rfl, rfl, rfl, rfl, rfl, trivial⟩ rfl ?_
      refine w_sel [0] rfl ?_
      refine w_region ?_
      refine xMv ?_
      refine oX (w_add rfl rfl rfl rfl (by first | exact wrI64 (by omega) (by omega) | rfl) ?_)
      refine xAs ?_
      refine inB_n (thn_n ?_)
      refine w_region ?_
      refine xMv ?_
      refine oX (w_add rfl rfl rfl rfl (by first | exact wrI64 (by omega) (by omega) | rfl) ?_)
      refine xAs ?_
      exact rnd_n ⟨x.i + 1, x.i + 1, x.m + 1, x.ps ++ [(l.take x.i).drop x.f], p1, c1, l1⟩ (by simp only []; omega) ⟨rfl, Nat.le_refl _, by simp only []; omega, by simp only []; omega, by simp [hm], vecS_snoc hv1, by rw [hc, cut_hit hx (u8_eq g2), List.append_assoc]; simp [glue_hit, glue_nil (cut_ne x0 _)]⟩ ⟨rfl, rfl, rfl, rfl, rfl, trivial⟩ rfl
    · try simp only [sQ1, sQ2, sQ3, sQ4, sQ5, sQ6, sQ7, sQ8, ne_eq] at g2
      refine w_skip ?_
      refine inB_n (thn_n ?_)
      refine w_region ?_
      refine xMv ?_
      refine oX (w_add rfl rfl rfl rfl (by first | exact wrI64 (by omega) (by omega) | rfl) ?_)
      refine xAs ?_
      exact rnd_n ⟨x.i + 1, x.f, x.m, x.ps, x.q, x.cp, x.s⟩ (by simp only []; omega) ⟨rfl, by simp only []; omega, by simp only []; omega, by simp only []; omega, hm, hv, by rw [hc, cut_miss hx (u8_ne g2), glue_glue, take_more hx hf]⟩ ⟨rfl, rfl, rfl, rfl, rfl, trivial⟩ rfl
  · try simp only [sQ1, sQ2, sQ3, sQ4, sQ5, sQ6, sQ7, sQ8, ne_eq] at g1
    obtain hie : x.i = l.length := by omega
    rw [hie, List.take_length, List.drop_length] at hc
    refine w_exit (thn_x (rnd_x (inB_hit (thn_n ?_))))
    refine wSR ?_
    refine xMv ?_
    refine xMv ?_
    refine xMv ?_
    refine oX (w_sliceS rfl rfl Try.underlying9 rfl (a := x.f) (b := l.length) ⟨_, _, rfl, rfl⟩ rfl (by omega) (by omega) ?_)
    refine oX (wBS (parts := [(0, _)]) [_] rfl rfl Try.underlying65 sz9 zo9 rfl rfl rfl rfl rfl (fun b1 => ?_))
    refine oX (w_append 0 rfl (hv) rfl rfl eo65 su65 rfl rfl (SrcAt.box 1 rfl) rfl rfl (by omega) (fun l2 p2 c2 hv2 => ?_))
    refine xAs ?_
    refine wTd [(0, _), (1, _), (4, _), (5, _), (6, _), (7, _), (12, _)] [_, _] ⟨rfl, rfl, rfl, rfl, rfl, rfl, rfl, trivial⟩ rfl ?_
    refine w_ret ?_
    have he : cut x0 l = x.ps ++ [l.drop x.f] := by rw [hc]; simp [cut, glue]
    have hlen : (cut x0 l).length = x.m + 1 := by rw [he]; simp [hm]
    exact endN .ret (.inl rfl) [_] [0] rfl ⟨rfl, trivial⟩ ⟨rfl, _, rfl, p2, c2, by rw [hlen]; rfl, by rw [hlen, he]; rw [List.take_length] at hv2; exact vecS_snoc hv2⟩

set_option maxRecDepth 4000 in
set_option maxHeartbeats 400000 in
theorem specDomain_c (l : List UInt8) (hl : l.length ≤ 2000000) (B : Kn) : RetB (pj J) 24 [str l] B (.bool (specDom l)) := by
  refine cBB 27 Try.func24 rfl rfl rfl (Nat.le_of_ble_eq_true rfl) ?_
  refine wSR ?_
  refine xAs ?_
  refine wKp [(0, _), (2, _)] ⟨rfl, rfl, trivial⟩ ?_
  refine wSR ?_
  refine xMv ?_
  refine oX (w_new1 rfl rfl en37 rfl (l1Cut_c _ hl 46 _) ?_)
  rintro _ s ⟨q, cp, rfl, hv⟩
  refine xAs ?_
  refine wTd [(0, _), (2, _), (3, _)] [_] ⟨rfl, rfl, rfl, trivial⟩ rfl ?_
  refine w_seq ?_
  refine wSR ?_
  refine xAs ?_
  refine wKp [(0, _), (2, _), (3, _), (4, _)] ⟨rfl, rfl, rfl, rfl, trivial⟩ ?_
  refine w_block ?_
  refine w_loop (α := Nat) (fun k => [(0, str l), (3, .slice q (cut 46 l).length cp), (4, .int .i64 k)]) (fun k => [s]) (fun k Bx => Bx = B ∧ k ≤ (cut 46 l).length ∧ ((cut 46 l).take k).all nameOk = true) (fun k => (cut 46 l).length - k) 0 ⟨rfl, rfl, rfl, trivial⟩ rfl (⟨rfl, Nat.zero_le _, by simp⟩) (fun k B1 hle1 hI => ?_)
  obtain ⟨rfl, hk, ha⟩ := hI
  have hcc := cut_count 46 l
  refine w_seq ?_
  refine wSR ?_
  refine xMv ?_
  refine xMv ?_
  refine oX (w_lenV rfl rfl Try.underlying65 rfl ?_)
  refine oX (w_lss rfl rfl rfl rfl ?_)
  refine wKp [(0, _), (3, _), (4, _), (10, _)] ⟨rfl, rfl, rfl, rfl, trivial⟩ ?_
  refine wCd rfl (fun g1 => ?_) (fun g1 => ?_)
  · try simp only [sQ1, sQ2, sQ3, sQ4, sQ5, sQ6, sQ7, sQ8, ne_eq] at g1
    obtain ⟨y, hy⟩ : ∃ y, (cut 46 l)[k]? = some y := ⟨_, List.getElem?_eq_getElem (by omega)⟩
    have hyl := cut_len 46 l y (List.mem_of_getElem? hy)
    obtain ⟨a, rfl, hsp, hat⟩ := hv.at (B := B1) (L := [s]) (i := k) (v := str y) 0 rfl (by rw [List.getElem?_map, hy]; rfl)
    refine w_skip ?_
    refine thn_n ?_
    refine w_seq ?_
    refine w_block ?_
    refine wSR ?_
    refine xMv ?_
    refine xMv ?_
    refine oX (w_indexAddr rfl rfl Try.underlying65 sz9 rfl rfl (by omega) (by omega) ?_)
    refine oX (w_load1 rfl rfl lk9 rfl (atMul1 hat) ?_)
    refine oX (w_retB rfl rfl en38 rfl (specName_c _ (by omega) _) ?_)
    refine oX (w_not rfl rfl rfl ?_)
    refine wKp [(0, _), (3, _), (4, _), (10, _), (18, _)] ⟨rfl, rfl, rfl, rfl, rfl, trivial⟩ ?_
    refine wCd rfl (fun g2 => ?_) (fun g2 => ?_)
    · try simp only [sQ1, sQ2, sQ3, sQ4, sQ5, sQ6, sQ7, sQ8, ne_eq] at g2
      refine wSR ?_
      refine xAs ?_
      refine wKp [(0, _), (2, _), (3, _), (4, _), (10, _), (18, _)] ⟨rfl, rfl, rfl, rfl, rfl, rfl, trivial⟩ ?_
      refine w_ret (inB_r (thn_r (rnd_r (inB_r (thn_r ?_)))))
      exact end0 .ret (.inl rfl) [_] ⟨rfl, trivial⟩ ⟨bool_eq (by simp [specDom, all_stop2 hy g2]), rfl, rfl⟩
    · try simp only [sQ1, sQ2, sQ3, sQ4, sQ5, sQ6, sQ7, sQ8, ne_eq] at g2
      refine w_skip ?_
      refine inB_n (thn_n ?_)
      refine w_region ?_
      refine xMv ?_
      refine oX (w_add rfl rfl rfl rfl (by first | exact wrI64 (by omega) (by omega) | rfl) ?_)
      refine xAs ?_
      exact rnd_n (k + 1) (by omega) ⟨rfl, by omega, all_step2 hy g2 ha⟩ ⟨rfl, rfl, rfl, trivial⟩ rfl
  · try simp only [sQ1, sQ2, sQ3, sQ4, sQ5, sQ6, sQ7, sQ8, ne_eq] at g1
    obtain hke : k = (cut 46 l).length := by omega
    rw [hke, List.take_length] at ha
    refine w_exit (thn_x (rnd_x (inB_hit (thn_n ?_))))
    refine wSR ?_
    refine xMv ?_
    refine oX (w_lenV rfl rfl Try.underlying65 rfl ?_)
    refine oX (w_leq rfl rfl rfl rfl ?_)
    refine xMv ?_
    refine r_split (d := 22) rfl (fun g3 => ?_) (fun g3 => ?_)
    · try simp only [sQ1, sQ2, sQ3, sQ4, sQ5, sQ6, sQ7, sQ8, ne_eq] at g3
      refine xMv ?_
      refine oX (w_lenS rfl rfl Try.underlying9 rfl ?_)
      refine oX (w_leq rfl rfl rfl rfl ?_)
      refine oX (w_pickT rfl rfl rfl rfl ?_)
      refine xAs ?_
      refine wKp [(0, _), (2, _), (3, _), (4, _), (10, _)] ⟨rfl, rfl, rfl, rfl, rfl, trivial⟩ ?_
      refine w_ret ?_
      exact end0 .ret (.inl rfl) [_] ⟨rfl, trivial⟩ ⟨bool_eq (by rw [Bool.eq_iff_iff]; simp [specDom, ha]; omega), rfl, rfl⟩
    · try simp only [sQ1, sQ2, sQ3, sQ4, sQ5, sQ6, sQ7, sQ8, ne_eq] at g3
      refine oX (w_pass rfl rfl ?_)
      refine oX (w_pass rfl rfl ?_)
      refine oX (w_pass rfl rfl ?_)
      refine oX (w_pickF rfl rfl rfl rfl ?_)
      refine xAs ?_
      refine wKp [(0, _), (2, _), (3, _), (4, _), (10, _)] ⟨rfl, rfl, rfl, rfl, rfl, trivial⟩ ?_
      refine w_ret ?_
      exact end0 .ret (.inl rfl) [_] ⟨rfl, trivial⟩ ⟨bool_eq (by rw [Bool.eq_iff_iff]; simp [specDom, ha]; omega), rfl, rfl⟩

set_option maxRecDepth 4000 in
set_option maxHeartbeats 400000 in
theorem l14Find_c (q : Option Addr) (cp : Nat) (us : List DUser) (u : Str) (B : Kn) (hu : SlK B q cp 3 UserR us) : RetB (pj J) 30 [.slice q us.length cp, str u] B (.int .i64 (idxU us u)) := by
  refine cBB 20 Try.func30 rfl rfl rfl (Nat.le_of_ble_eq_true rfl) ?_
  have hun := hu.len
  refine wSR ?_
  refine xAs ?_
  refine wKp [(0, _), (1, _), (4, _)] ⟨rfl, rfl, rfl, trivial⟩ ?_
  refine w_seq ?_
  refine wSR ?_
  refine xAs ?_
  refine wKp [(0, _), (1, _), (4, _), (5, _)] ⟨rfl, rfl, rfl, rfl, trivial⟩ ?_
  refine w_block ?_
  refine w_loopE (α := Nat) [0, 1] (fun k => [(5, .int .i64 k)]) [] (fun k => []) (fun k Bx => Bx = B ∧ k ≤ us.length ∧ ∀ x, x ∈ us.take k → x.name ≠ u) (fun k => us.length - k) 0 ⟨rfl, trivial⟩ rfl (⟨rfl, Nat.zero_le _, by simp⟩) (fun k B1 hle1 hI => ?_)
  obtain ⟨rfl, hk, ha⟩ := hI
  refine wTd [(0, _), (1, _), (5, _)] [] ⟨rfl, rfl, rfl, trivial⟩ rfl ?_
  refine w_seq ?_
  refine wSR ?_
  refine xMv ?_
  refine xMv ?_
  refine oX (w_lenV rfl rfl Try.underlying23 rfl ?_)
  refine oX (w_lss rfl rfl rfl rfl ?_)
  refine wKp [(0, _), (1, _), (5, _), (9, _)] ⟨rfl, rfl, rfl, rfl, trivial⟩ ?_
  refine wCd rfl (fun g1 => ?_) (fun g1 => ?_)
  · try simp only [sQ1, sQ2, sQ3, sQ4, sQ5, sQ6, sQ7, sQ8, ne_eq] at g1
    refine w_skip ?_
    refine thn_n ?_
    refine w_seq ?_
    refine w_block ?_
    refine wSR ?_
    refine xMv ?_
    refine xMv ?_
    obtain ⟨x, hx⟩ := getLt (xs := us) (i := k) (by first | omega | (simp; done) | (simp; omega))
    obtain ⟨bb3, oo3, rfl⟩ := hu.base hx
    obtain ⟨_, ⟨rfl, hb4, hb4b⟩, hc4⟩ := hu.elem hx
    refine oX (w_ixB rfl rfl Try.underlying23 sz43 rfl rfl (by first | omega | (simp; done) | (simp; omega)) (by first | omega | (simp; done) | (simp; omega)) ?_)
    refine oX (wFA rfl rfl fo43x0 rfl ?_)
    refine oX (w_load1 rfl rfl lk9 rfl (hc4 _ 0 _ rfl) ?_)
    refine xMv ?_
    refine oX (w_eqlS rfl rfl rfl rfl ?_)
    refine wKp [(0, _), (1, _), (5, _), (9, _), (18, _)] ⟨rfl, rfl, rfl, rfl, rfl, trivial⟩ ?_
    refine wCd rfl (fun g2 => ?_) (fun g2 => ?_)
    · try simp only [sQ1, sQ2, sQ3, sQ4, sQ5, sQ6, sQ7, sQ8, ne_eq] at g2
      refine wSR ?_
      refine xMv ?_
      refine xAs ?_
      refine wKp [(0, _), (1, _), (4, _), (5, _), (9, _), (18, _)] ⟨rfl, rfl, rfl, rfl, rfl, rfl, trivial⟩ ?_
      refine w_ret (inB_r (thn_r (rndE_r (inB_r (thn_r ?_)))))
      exact end0 .ret (.inl rfl) [_] ⟨rfl, trivial⟩ ⟨int_eq (idxU_hit hx g2 ha).symm, rfl, rfl⟩
    · try simp only [sQ1, sQ2, sQ3, sQ4, sQ5, sQ6, sQ7, sQ8, ne_eq] at g2
      refine w_skip ?_
      refine inB_n (thn_n ?_)
      refine w_region ?_
      refine xMv ?_
      refine oX (w_add rfl rfl rfl rfl (by first | exact wrI64 (by first | omega | (simp; done) | (simp; omega)) (by first | omega | (simp; done) | (simp; omega)) | rfl) ?_)
      refine xAs ?_
      exact rndE_n (k + 1) [] (by first | omega | (simp only []; omega)) ⟨rfl, by omega, all_next hx ha g2⟩ ⟨rfl, rfl, rfl, trivial⟩ rfl
  · try simp only [sQ1, sQ2, sQ3, sQ4, sQ5, sQ6, sQ7, sQ8, ne_eq] at g1
    refine w_exit (thn_x (rndE_x (inB_hit (thn_n ?_))))
    refine wSR ?_
    refine xAs ?_
    refine wKp [(0, _), (1, _), (4, _), (5, _), (9, _)] ⟨rfl, rfl, rfl, rfl, rfl, trivial⟩ ?_
    refine w_ret ?_
    exact end0 .ret (.inl rfl) [_] ⟨rfl, trivial⟩ ⟨int_eq (idxU_none (take_end (by omega) ha)).symm, rfl, rfl⟩

set_option maxRecDepth 4000 in
set_option maxHeartbeats 400000 in
theorem sameNames_c (q q' : Option Addr) (cp cp' : Nat) (xs ys : List Str) (B : Kn) (ha : SlK B q cp 1 StrR xs) (hb : SlK B q' cp' 1 StrR ys) : RetB (pj J) 33 [.slice q xs.length cp, .slice q' ys.length cp'] B (.bool (decide (xs = ys))) := by
  refine cBB 26 Try.func33 rfl rfl rfl (Nat.le_of_ble_eq_true rfl) ?_
  have han := ha.len
  have hbn := hb.len
  refine wSR ?_
  refine xAs ?_
  refine wKp [(0, _), (1, _), (4, _)] ⟨rfl, rfl, rfl, trivial⟩ ?_
  refine w_seq ?_
  refine wSR ?_
  refine xMv ?_
  refine oX (w_lenV rfl rfl Try.underlying65 rfl ?_)
  refine xMv ?_
  refine oX (w_lenV rfl rfl Try.underlying65 rfl ?_)
  refine oX (w_neqI rfl rfl rfl rfl ?_)
  refine wKp [(0, _), (1, _), (4, _), (10, _)] ⟨rfl, rfl, rfl, rfl, trivial⟩ ?_
  refine wCd rfl (fun g1 => ?_) (fun g1 => ?_)
  · try simp only [sQ1, sQ2, sQ3, sQ4, sQ5, sQ6, sQ7, sQ8, ne_eq] at g1
    refine wSR ?_
    refine xAs ?_
    refine wKp [(0, _), (1, _), (4, _), (10, _)] ⟨rfl, rfl, rfl, rfl, trivial⟩ ?_
    refine w_ret (thn_r ?_)
    exact end0 .ret (.inl rfl) [_] ⟨rfl, trivial⟩ ⟨bool_eq (eqF_len g1), rfl, rfl⟩
  · try simp only [sQ1, sQ2, sQ3, sQ4, sQ5, sQ6, sQ7, sQ8, ne_eq] at g1
    refine w_skip ?_
    refine thn_n ?_
    refine w_seq ?_
    refine wSR ?_
    refine xAs ?_
    refine wKp [(0, _), (1, _), (4, _), (5, _), (10, _)] ⟨rfl, rfl, rfl, rfl, rfl, trivial⟩ ?_
    refine w_block ?_
    refine w_loopE (α := Nat) [0, 1, 10] (fun k => [(5, .int .i64 k)]) [] (fun k => []) (fun k Bx => Bx = B ∧ k ≤ xs.length ∧ xs.take k = ys.take k) (fun k => xs.length - k) 0 ⟨rfl, trivial⟩ rfl (⟨rfl, Nat.zero_le _, by simp⟩) (fun k B1 hle1 hI => ?_)
    obtain ⟨rfl, hk, he⟩ := hI
    refine wTd [(0, _), (1, _), (5, _), (10, _)] [] ⟨rfl, rfl, rfl, rfl, trivial⟩ rfl ?_
    refine w_seq ?_
    refine wSR ?_
    refine xMv ?_
    refine xMv ?_
    refine oX (w_lenV rfl rfl Try.underlying65 rfl ?_)
    refine oX (w_lss rfl rfl rfl rfl ?_)
    refine wKp [(0, _), (1, _), (5, _), (10, _), (14, _)] ⟨rfl, rfl, rfl, rfl, rfl, trivial⟩ ?_
    refine wCd rfl (fun g2 => ?_) (fun g2 => ?_)
    · try simp only [sQ1, sQ2, sQ3, sQ4, sQ5, sQ6, sQ7, sQ8, ne_eq] at g2
      refine w_skip ?_
      refine thn_n ?_
      refine w_seq ?_
      refine w_block ?_
      refine w_seq ?_
      refine w_draw (same _ _) mo (by kernel_rfl) ⟨rfl, rfl⟩ (fun _ _ => ?_)
      refine aTP 0 rfl (by kernel_rfl) rfl (fun D B L => w_move rfl rfl rfl ⟨rfl, rfl, rfl, rfl⟩) ?_
      refine aTP 1 rfl (by kernel_rfl) rfl (fun D B L => w_move rfl rfl rfl ⟨rfl, rfl, rfl, rfl⟩) ?_
      obtain ⟨x, hx⟩ := getLt (xs := xs) (i := k) (by first | omega | (simp; done) | (simp; omega))
      obtain ⟨bb3, oo3, rfl⟩ := ha.base hx
      obtain ⟨_, ⟨rfl, hb4⟩, hc4⟩ := ha.elem hx
      refine aTk 2 rfl (by kernel_rfl) rfl (q_of fun D => w_ixB rfl rfl Try.underlying65 sz9 rfl rfl (by first | omega | (simp; done) | (simp; omega)) (by first | omega | (simp; done) | (simp; omega)) ⟨rfl, rfl, rfl, rfl⟩) ?_
      refine aTk 3 rfl (by kernel_rfl) rfl (q_of fun D => w_load1 rfl rfl lk9 rfl (hc4 _ 0 _ rfl) ⟨rfl, rfl, rfl, rfl⟩) ?_
      refine aTP 4 rfl (by kernel_rfl) rfl (fun D B L => w_move rfl rfl rfl ⟨rfl, rfl, rfl, rfl⟩) ?_
      refine aTP 5 rfl (by kernel_rfl) rfl (fun D B L => w_move rfl rfl rfl ⟨rfl, rfl, rfl, rfl⟩) ?_
      obtain ⟨y, hy⟩ := getLt (xs := ys) (i := k) (by first | omega | (simp; done) | (simp; omega))
      obtain ⟨bb6, oo6, rfl⟩ := hb.base hy
      obtain ⟨_, ⟨rfl, hb7⟩, hc7⟩ := hb.elem hy
      refine aTk 6 rfl (by kernel_rfl) rfl (q_of fun D => w_ixB rfl rfl Try.underlying65 sz9 rfl rfl (by first | omega | (simp; done) | (simp; omega)) (by first | omega | (simp; done) | (simp; omega)) ⟨rfl, rfl, rfl, rfl⟩) ?_
      refine aTk 7 rfl (by kernel_rfl) rfl (q_of fun D => w_load1 rfl rfl lk9 rfl (hc7 _ 0 _ rfl) ⟨rfl, rfl, rfl, rfl⟩) ?_
      refine aTk 8 rfl (by kernel_rfl) rfl (q_of fun D => w_neqS rfl rfl rfl rfl ⟨rfl, rfl, rfl, rfl⟩) ?_
      refine any_done (by kernel_rfl) (by kernel_rfl) ?_
      refine thn_n ?_
      refine wKp [(0, _), (1, _), (5, _), (10, _), (14, _), (25, _)] ⟨rfl, rfl, rfl, rfl, rfl, rfl, trivial⟩ ?_
      refine wCd rfl (fun g3 => ?_) (fun g3 => ?_)
      · try simp only [sQ1, sQ2, sQ3, sQ4, sQ5, sQ6, sQ7, sQ8, ne_eq] at g3
        refine wSR ?_
        refine xAs ?_
        refine wKp [(0, _), (1, _), (4, _), (5, _), (10, _), (14, _), (25, _)] ⟨rfl, rfl, rfl, rfl, rfl, rfl, rfl, trivial⟩ ?_
        refine w_ret (inB_r (thn_r (rndE_r (inB_r (thn_r ?_)))))
        exact end0 .ret (.inl rfl) [_] ⟨rfl, trivial⟩ ⟨bool_eq (eqF_elem hx hy g3), rfl, rfl⟩
      · try simp only [sQ1, sQ2, sQ3, sQ4, sQ5, sQ6, sQ7, sQ8, ne_eq] at g3
        refine w_skip ?_
        refine inB_n (thn_n ?_)
        refine w_region ?_
        refine xMv ?_
        refine oX (w_add rfl rfl rfl rfl (by first | exact wrI64 (by first | omega | (simp; done) | (simp; omega)) (by first | omega | (simp; done) | (simp; omega)) | rfl) ?_)
        refine xAs ?_
        exact rndE_n (k + 1) [] (by first | omega | (simp only []; omega)) ⟨rfl, by omega, take_eq_next hx hy g3 he⟩ ⟨rfl, rfl, rfl, rfl, trivial⟩ rfl
    · try simp only [sQ1, sQ2, sQ3, sQ4, sQ5, sQ6, sQ7, sQ8, ne_eq] at g2
      refine w_exit (thn_x (rndE_x (inB_hit (thn_n ?_))))
      refine wSR ?_
      refine xAs ?_
      refine wKp [(0, _), (1, _), (4, _), (5, _), (10, _), (14, _)] ⟨rfl, rfl, rfl, rfl, rfl, rfl, trivial⟩ ?_
      refine w_ret ?_
      exact end0 .ret (.inl rfl) [_] ⟨rfl, trivial⟩ ⟨bool_eq (eqT (by omega) (by omega) he), rfl, rfl⟩

set_option maxRecDepth 4000 in
set_option maxHeartbeats 400000 in
theorem l21Has_c (q : Option Addr) (cp : Nat) (xs : List Str) (u : Str) (B : Kn) (ha : SlK B q cp 1 StrR xs) : RetB (pj J) 51 [.slice q xs.length cp, str u] B (.bool (decide (u ∈ xs))) := by
  refine cBB 18 Try.func51 rfl rfl rfl (Nat.le_of_ble_eq_true rfl) ?_
  have han := ha.len
  refine wSR ?_
  refine xAs ?_
  refine wKp [(0, _), (1, _), (4, _)] ⟨rfl, rfl, rfl, trivial⟩ ?_
  refine w_seq ?_
  refine wSR ?_
  refine xAs ?_
  refine wKp [(0, _), (1, _), (4, _), (5, _)] ⟨rfl, rfl, rfl, rfl, trivial⟩ ?_
  refine w_block ?_
  refine w_loopE (α := Nat) [0, 1] (fun k => [(5, .int .i64 k)]) [] (fun k => []) (fun k Bx => Bx = B ∧ k ≤ xs.length ∧ ∀ x, x ∈ xs.take k → x ≠ u) (fun k => xs.length - k) 0 ⟨rfl, trivial⟩ rfl (⟨rfl, Nat.zero_le _, by simp⟩) (fun k B1 hle1 hI => ?_)
  obtain ⟨rfl, hk, hn⟩ := hI
  refine wTd [(0, _), (1, _), (5, _)] [] ⟨rfl, rfl, rfl, trivial⟩ rfl ?_
  refine w_seq ?_
  refine wSR ?_
  refine xMv ?_
  refine xMv ?_
  refine oX (w_lenV rfl rfl Try.underlying65 rfl ?_)
  refine oX (w_lss rfl rfl rfl rfl ?_)
  refine wKp [(0, _), (1, _), (5, _), (9, _)] ⟨rfl, rfl, rfl, rfl, trivial⟩ ?_
  refine wCd rfl (fun g1 => ?_) (fun g1 => ?_)
  · try simp only [sQ1, sQ2, sQ3, sQ4, sQ5, sQ6, sQ7, sQ8, ne_eq] at g1
    refine w_skip ?_
    refine thn_n ?_
    refine w_seq ?_
    refine w_block ?_
    refine wSR ?_
    refine xMv ?_
    refine xMv ?_
    obtain ⟨x, hx⟩ := getLt (xs := xs) (i := k) (by first | omega | (simp; done) | (simp; omega))
    obtain ⟨bb3, oo3, rfl⟩ := ha.base hx
    obtain ⟨_, ⟨rfl, hb4⟩, hc4⟩ := ha.elem hx
    refine oX (w_ixB rfl rfl Try.underlying65 sz9 rfl rfl (by first | omega | (simp; done) | (simp; omega)) (by first | omega | (simp; done) | (simp; omega)) ?_)
    refine oX (w_load1 rfl rfl lk9 rfl (hc4 _ 0 _ rfl) ?_)
    refine xMv ?_
    refine oX (w_eqlS rfl rfl rfl rfl ?_)
    refine wKp [(0, _), (1, _), (5, _), (9, _), (17, _)] ⟨rfl, rfl, rfl, rfl, rfl, trivial⟩ ?_
    refine wCd rfl (fun g2 => ?_) (fun g2 => ?_)
    · try simp only [sQ1, sQ2, sQ3, sQ4, sQ5, sQ6, sQ7, sQ8, ne_eq] at g2
      refine wSR ?_
      refine xAs ?_
      refine wKp [(0, _), (1, _), (4, _), (5, _), (9, _), (17, _)] ⟨rfl, rfl, rfl, rfl, rfl, rfl, trivial⟩ ?_
      refine w_ret (inB_r (thn_r (rndE_r (inB_r (thn_r ?_)))))
      exact end0 .ret (.inl rfl) [_] ⟨rfl, trivial⟩ ⟨bool_eq (memT hx g2), rfl, rfl⟩
    · try simp only [sQ1, sQ2, sQ3, sQ4, sQ5, sQ6, sQ7, sQ8, ne_eq] at g2
      refine w_skip ?_
      refine inB_n (thn_n ?_)
      refine w_region ?_
      refine xMv ?_
      refine oX (w_add rfl rfl rfl rfl (by first | exact wrI64 (by first | omega | (simp; done) | (simp; omega)) (by first | omega | (simp; done) | (simp; omega)) | rfl) ?_)
      refine xAs ?_
      exact rndE_n (k + 1) [] (by first | omega | (simp only []; omega)) ⟨rfl, by omega, all_next hx hn g2⟩ ⟨rfl, rfl, rfl, trivial⟩ rfl
  · try simp only [sQ1, sQ2, sQ3, sQ4, sQ5, sQ6, sQ7, sQ8, ne_eq] at g1
    refine w_exit (thn_x (rndE_x (inB_hit (thn_n ?_))))
    refine wSR ?_
    refine xAs ?_
    refine wKp [(0, _), (1, _), (4, _), (5, _), (9, _)] ⟨rfl, rfl, rfl, rfl, rfl, trivial⟩ ?_
    refine w_ret ?_
    exact end0 .ret (.inl rfl) [_] ⟨rfl, trivial⟩ ⟨bool_eq (memF (take_end (by omega) hn)), rfl, rfl⟩

set_option maxRecDepth 4000 in
set_option maxHeartbeats 400000 in
theorem l21Names_c (q : Option Addr) (cp : Nat) (xs : List Str) (B : Kn) (ha : SlK B q cp 1 StrR xs) : RetB (pj J) 48 [.slice q xs.length cp] B (.bool (namesOk xs)) := by
  refine cBB 29 Try.func48 rfl rfl rfl (Nat.le_of_ble_eq_true rfl) ?_
  have han := ha.len
  refine wSR ?_
  refine xAs ?_
  refine wKp [(0, _), (2, _)] ⟨rfl, rfl, trivial⟩ ?_
  refine w_seq ?_
  refine wSR ?_
  refine xAs ?_
  refine wKp [(0, _), (2, _), (3, _)] ⟨rfl, rfl, rfl, trivial⟩ ?_
  refine w_block ?_
  refine w_loopE (α := Nat) [0] (fun k => [(3, .int .i64 k)]) [] (fun k => []) (fun k Bx => Bx = B ∧ k ≤ xs.length ∧ (xs.take k).all nameOk = true ∧ (xs.take k).Nodup) (fun k => xs.length - k) 0 ⟨rfl, trivial⟩ rfl (⟨rfl, Nat.zero_le _, by simp, by simp⟩) (fun k B1 hle1 hI => ?_)
  obtain ⟨rfl, hk, hv, hn⟩ := hI
  refine wTd [(0, _), (3, _)] [] ⟨rfl, rfl, trivial⟩ rfl ?_
  refine w_seq ?_
  refine wSR ?_
  refine xMv ?_
  refine xMv ?_
  refine oX (w_lenV rfl rfl Try.underlying65 rfl ?_)
  refine oX (w_lss rfl rfl rfl rfl ?_)
  refine wKp [(0, _), (3, _), (7, _)] ⟨rfl, rfl, rfl, trivial⟩ ?_
  refine wCd rfl (fun g1 => ?_) (fun g1 => ?_)
  · try simp only [sQ1, sQ2, sQ3, sQ4, sQ5, sQ6, sQ7, sQ8, ne_eq] at g1
    refine w_skip ?_
    refine thn_n ?_
    refine w_seq ?_
    refine w_block ?_
    refine w_seq ?_
    refine w_draw (same _ _) mo (by kernel_rfl) ⟨rfl, rfl⟩ (fun _ _ => ?_)
    refine aTP 0 rfl (by kernel_rfl) rfl (fun D B L => w_move rfl rfl rfl ⟨rfl, rfl, rfl, rfl⟩) ?_
    refine aTP 1 rfl (by kernel_rfl) rfl (fun D B L => w_move rfl rfl rfl ⟨rfl, rfl, rfl, rfl⟩) ?_
    obtain ⟨x, hx⟩ := getLt (xs := xs) (i := k) (by first | omega | (simp; done) | (simp; omega))
    obtain ⟨bb3, oo3, rfl⟩ := ha.base hx
    obtain ⟨_, ⟨rfl, hb4⟩, hc4⟩ := ha.elem hx
    refine aTk 2 rfl (by kernel_rfl) rfl (q_of fun D => w_ixB rfl rfl Try.underlying65 sz9 rfl rfl (by first | omega | (simp; done) | (simp; omega)) (by first | omega | (simp; done) | (simp; omega)) ⟨rfl, rfl, rfl, rfl⟩) ?_
    refine aTk 3 rfl (by kernel_rfl) rfl (q_of fun D => w_load1 rfl rfl lk9 rfl (hc4 _ 0 _ rfl) ⟨rfl, rfl, rfl, rfl⟩) ?_
    refine aTk 4 rfl (by kernel_rfl) rfl (q_of fun D => w_retB rfl rfl en38 rfl (specName_c _ (by first | assumption | omega | (simp; done) | (simp; omega)) _) ⟨rfl, rfl, rfl, rfl⟩) ?_
    refine aTk 5 rfl (by kernel_rfl) rfl (q_of fun D => w_not rfl rfl rfl ⟨rfl, rfl, rfl, rfl⟩) ?_
    refine aTP 6 rfl (by kernel_rfl) rfl (fun D B L => w_move rfl rfl rfl ⟨rfl, rfl, rfl, rfl⟩) ?_
    refine a_split (d := 16) rfl (fun g2 => ?_) (fun g2 => ?_)
    · try simp only [sQ1, sQ2, sQ3, sQ4, sQ5, sQ6, sQ7, sQ8, ne_eq] at g2
      refine aTP 7 rfl (by kernel_rfl) rfl (fun D B L => w_pass rfl rfl ⟨rfl, rfl, rfl, rfl⟩) ?_
      refine aTP 8 rfl (by kernel_rfl) rfl (fun D B L => w_pass rfl rfl ⟨rfl, rfl, rfl, rfl⟩) ?_
      refine aTk 9 rfl (by kernel_rfl) rfl (q_of fun D => w_pass rfl rfl ⟨rfl, rfl, rfl, rfl⟩) ?_
      refine aTP 10 rfl (by kernel_rfl) rfl (fun D B L => w_pass rfl rfl ⟨rfl, rfl, rfl, rfl⟩) ?_
      refine aTP 11 rfl (by kernel_rfl) rfl (fun D B L => w_pass rfl rfl ⟨rfl, rfl, rfl, rfl⟩) ?_
      refine aTk 12 rfl (by kernel_rfl) rfl (q_of fun D => w_pass rfl rfl ⟨rfl, rfl, rfl, rfl⟩) ?_
      refine aTk 13 rfl (by kernel_rfl) rfl (q_of fun D => w_pass rfl rfl ⟨rfl, rfl, rfl, rfl⟩) ?_
      refine aTk 14 rfl (by kernel_rfl) rfl (q_of fun D => w_pass rfl rfl ⟨rfl, rfl, rfl, rfl⟩) ?_
      refine aTk 15 rfl (by kernel_rfl) rfl (q_of fun D => w_pickT rfl rfl rfl rfl ⟨rfl, rfl, rfl, rfl⟩) ?_
      refine any_done (by kernel_rfl) (by kernel_rfl) ?_
      refine thn_n ?_
      refine wKp [(0, _), (3, _), (7, _), (25, _)] ⟨rfl, rfl, rfl, rfl, trivial⟩ ?_
      refine wCd (t := true) rfl (fun _ => ?_) (fun h => Bool.noConfusion h)
      refine wSR ?_
      refine xAs ?_
      refine wKp [(0, _), (2, _), (3, _), (7, _), (25, _)] ⟨rfl, rfl, rfl, rfl, rfl, trivial⟩ ?_
      refine w_ret (inB_r (thn_r (rndE_r (inB_r (thn_r ?_)))))
      exact end0 .ret (.inl rfl) [_] ⟨rfl, trivial⟩ ⟨bool_eq (namesOk_bad1 hx g2), rfl, rfl⟩
    · try simp only [sQ1, sQ2, sQ3, sQ4, sQ5, sQ6, sQ7, sQ8, ne_eq] at g2
      refine aTP 7 rfl (by kernel_rfl) rfl (fun D B L => w_move rfl rfl rfl ⟨rfl, rfl, rfl, rfl⟩) ?_
      refine aTP 8 rfl (by kernel_rfl) rfl (fun D B L => w_move rfl rfl rfl ⟨rfl, rfl, rfl, rfl⟩) ?_
      obtain ⟨hq6, q6, cp6, hv6, hr6⟩ := ha.cutE 0 k (by first | omega | (simp; done) | (simp; omega)) (by first | omega | (simp; done) | (simp; omega))
      have hr6n := hr6.len
      refine aTk 9 rfl (by kernel_rfl) rfl (q_of fun D => w_cutV (a := 0) (b := k) hv6 (by first | omega | (simp; done) | (simp; omega)) hq6 rfl rfl Try.underlying65 sz9 rfl rfl ⟨_, _, rfl, by first | omega | (simp; done) | (simp; omega)⟩ ⟨rfl, rfl, rfl, rfl⟩) ?_
      refine aTP 10 rfl (by kernel_rfl) rfl (fun D B L => w_move rfl rfl rfl ⟨rfl, rfl, rfl, rfl⟩) ?_
      refine aTP 11 rfl (by kernel_rfl) rfl (fun D B L => w_move rfl rfl rfl ⟨rfl, rfl, rfl, rfl⟩) ?_
      refine aTk 12 rfl (by kernel_rfl) rfl (q_of fun D => w_ixB rfl rfl Try.underlying65 sz9 rfl rfl (by first | omega | (simp; done) | (simp; omega)) (by first | omega | (simp; done) | (simp; omega)) ⟨rfl, rfl, rfl, rfl⟩) ?_
      refine aTk 13 rfl (by kernel_rfl) rfl (q_of fun D => w_load1 rfl rfl lk9 rfl (hc4 _ 0 _ rfl) ⟨rfl, rfl, rfl, rfl⟩) ?_
      refine aTk 14 rfl (by kernel_rfl) rfl (q_of fun D => w_retB rfl rfl en51 rfl (l21Has_c _ _ _ _ _ hr6) ⟨rfl, rfl, rfl, rfl⟩) ?_
      refine aTk 15 rfl (by kernel_rfl) rfl (q_of fun D => w_pickF rfl rfl rfl rfl ⟨rfl, rfl, rfl, rfl⟩) ?_
      refine any_done (by kernel_rfl) (by kernel_rfl) ?_
      refine thn_n ?_
      refine wKp [(0, _), (3, _), (7, _), (25, _)] ⟨rfl, rfl, rfl, rfl, trivial⟩ ?_
      refine wCd rfl (fun g3 => ?_) (fun g3 => ?_)
      · try simp only [sQ1, sQ2, sQ3, sQ4, sQ5, sQ6, sQ7, sQ8, ne_eq] at g3
        refine wSR ?_
        refine xAs ?_
        refine wKp [(0, _), (2, _), (3, _), (7, _), (25, _)] ⟨rfl, rfl, rfl, rfl, rfl, trivial⟩ ?_
        refine w_ret (inB_r (thn_r (rndE_r (inB_r (thn_r ?_)))))
        exact end0 .ret (.inl rfl) [_] ⟨rfl, trivial⟩ ⟨bool_eq (namesOk_bad2 hx (by simpa using g3)), rfl, rfl⟩
      · try simp only [sQ1, sQ2, sQ3, sQ4, sQ5, sQ6, sQ7, sQ8, ne_eq] at g3
        refine w_skip ?_
        refine inB_n (thn_n ?_)
        refine w_region ?_
        refine xMv ?_
        refine oX (w_add rfl rfl rfl rfl (by first | exact wrI64 (by first | omega | (simp; done) | (simp; omega)) (by first | omega | (simp; done) | (simp; omega)) | rfl) ?_)
        refine xAs ?_
        exact rndE_n (k + 1) [] (by first | omega | (simp only []; omega)) ⟨rfl, by omega, all_step2 hx g2 hv, nd_next hx hn (by simpa using g3)⟩ ⟨rfl, rfl, trivial⟩ rfl
  · try simp only [sQ1, sQ2, sQ3, sQ4, sQ5, sQ6, sQ7, sQ8, ne_eq] at g1
    refine w_exit (thn_x (rndE_x (inB_hit (thn_n ?_))))
    refine wSR ?_
    refine xMv ?_
    refine oX (w_lenV rfl rfl Try.underlying65 rfl ?_)
    refine oX (w_leq rfl rfl rfl rfl ?_)
    refine xAs ?_
    refine wKp [(0, _), (2, _), (3, _), (7, _)] ⟨rfl, rfl, rfl, rfl, trivial⟩ ?_
    refine w_ret ?_
    exact end0 .ret (.inl rfl) [_] ⟨rfl, trivial⟩ ⟨bool_eq (namesOk_end (by omega) hv hn), rfl, rfl⟩

set_option maxRecDepth 4000 in
set_option maxHeartbeats 400000 in
theorem specLetter_c (q : Option Addr) (cp : Nat) (x : DLetter) (B : Kn) (ha : SlK B q cp 1 StrR x.to_) (h1 : x.fr.length ≤ 2000000) (h2 : x.text.length ≤ 2000000) : RetB (pj J) 40 [.agg #[str x.fr, .slice q x.to_.length cp, str x.text]] B (.bool (letterOk x)) := by
  refine cBB 23 Try.func40 rfl rfl rfl (Nat.le_of_ble_eq_true rfl) ?_
  refine wSR ?_
  refine oX (w_box (l := [_, _, _]) rfl rfl rfl rfl (fun b1 => ?_))
  refine xAs ?_
  refine wTd [(0, _), (1, _), (2, _)] [_] ⟨rfl, rfl, rfl, trivial⟩ rfl ?_
  refine wSR ?_
  refine oX (wFA rfl rfl fo82x0 rfl ?_)
  refine oX (w_load1 rfl rfl lk9 rfl (atL 0 rfl rfl rfl) ?_)
  refine oX (w_retB rfl rfl en38 rfl (specName_c _ (by first | assumption | omega | (simp; done) | (simp; omega)) _) ?_)
  refine xMv ?_
  refine r_split (d := 6) rfl (fun g1 => ?_) (fun g1 => ?_)
  · try simp only [sQ1, sQ2, sQ3, sQ4, sQ5, sQ6, sQ7, sQ8, ne_eq] at g1
    refine oX (wFA rfl rfl fo82x1 rfl ?_)
    refine oX (w_load1 rfl rfl lk65 rfl (atL 0 rfl rfl rfl) ?_)
    refine oX (w_retB rfl rfl en48 rfl (l21Names_c _ _ _ _ ha) ?_)
    refine oX (w_pickT rfl rfl rfl rfl ?_)
    refine xMv ?_
    refine r_split (d := 11) rfl (fun g2 => ?_) (fun g2 => ?_)
    · try simp only [sQ1, sQ2, sQ3, sQ4, sQ5, sQ6, sQ7, sQ8, ne_eq] at g2
      refine oX (wFA rfl rfl fo82x1 rfl ?_)
      refine oX (w_load1 rfl rfl lk65 rfl (atL 0 rfl rfl rfl) ?_)
      refine oX (w_lenV rfl rfl Try.underlying65 rfl ?_)
      refine oX (w_gtr rfl rfl rfl rfl ?_)
      refine oX (w_pickT rfl rfl rfl rfl ?_)
      refine xMv ?_
      refine r_split (d := 17) rfl (fun g3 => ?_) (fun g3 => ?_)
      · try simp only [sQ1, sQ2, sQ3, sQ4, sQ5, sQ6, sQ7, sQ8, ne_eq] at g3
        refine oX (wFA rfl rfl fo82x2 rfl ?_)
        refine oX (w_load1 rfl rfl lk9 rfl (atL 0 rfl rfl rfl) ?_)
        refine oX (w_lenS rfl rfl Try.underlying9 rfl ?_)
        refine oX (w_leq rfl rfl rfl rfl ?_)
        refine oX (w_pickT rfl rfl rfl rfl ?_)
        refine xAs ?_
        refine wKp [(0, _), (1, _), (2, _)] ⟨rfl, rfl, rfl, trivial⟩ ?_
        refine w_ret ?_
        exact end0 .ret (.inl rfl) [_] ⟨rfl, trivial⟩ ⟨bool_eq (by rw [Bool.eq_iff_iff]; simp [letterOk, g1, g2, g3]; try omega), rfl, rfl⟩
      · try simp only [sQ1, sQ2, sQ3, sQ4, sQ5, sQ6, sQ7, sQ8, ne_eq] at g3
        refine oX (w_pass rfl rfl ?_)
        refine oX (w_pass rfl rfl ?_)
        refine oX (w_pass rfl rfl ?_)
        refine oX (w_pass rfl rfl ?_)
        refine oX (w_pickF rfl rfl rfl rfl ?_)
        refine xAs ?_
        refine wKp [(0, _), (1, _), (2, _)] ⟨rfl, rfl, rfl, trivial⟩ ?_
        refine w_ret ?_
        exact end0 .ret (.inl rfl) [_] ⟨rfl, trivial⟩ ⟨bool_eq (by rw [Bool.eq_iff_iff]; simp [letterOk, g1, g2, g3]; try omega), rfl, rfl⟩
    · try simp only [sQ1, sQ2, sQ3, sQ4, sQ5, sQ6, sQ7, sQ8, ne_eq] at g2
      refine oX (w_pass rfl rfl ?_)
      refine oX (w_pass rfl rfl ?_)
      refine oX (w_pass rfl rfl ?_)
      refine oX (w_pass rfl rfl ?_)
      refine oX (w_pickF rfl rfl rfl rfl ?_)
      refine xMv ?_
      refine oX (w_pass rfl rfl ?_)
      refine oX (w_pass rfl rfl ?_)
      refine oX (w_pass rfl rfl ?_)
      refine oX (w_pass rfl rfl ?_)
      refine oX (w_pickF rfl rfl rfl rfl ?_)
      refine xAs ?_
      refine wKp [(0, _), (1, _), (2, _)] ⟨rfl, rfl, rfl, trivial⟩ ?_
      refine w_ret ?_
      exact end0 .ret (.inl rfl) [_] ⟨rfl, trivial⟩ ⟨bool_eq (by rw [Bool.eq_iff_iff]; simp [letterOk, g1, g2]; try omega), rfl, rfl⟩
  · try simp only [sQ1, sQ2, sQ3, sQ4, sQ5, sQ6, sQ7, sQ8, ne_eq] at g1
    refine oX (w_pass rfl rfl ?_)
    refine oX (w_pass rfl rfl ?_)
    refine oX (w_pass rfl rfl ?_)
    refine oX (w_pickF rfl rfl rfl rfl ?_)
    refine xMv ?_
    refine oX (w_pass rfl rfl ?_)
    refine oX (w_pass rfl rfl ?_)
    refine oX (w_pass rfl rfl ?_)
    refine oX (w_pass rfl rfl ?_)
    refine oX (w_pickF rfl rfl rfl rfl ?_)
    refine xMv ?_
    refine oX (w_pass rfl rfl ?_)
    refine oX (w_pass rfl rfl ?_)
    refine oX (w_pass rfl rfl ?_)
    refine oX (w_pass rfl rfl ?_)
    refine oX (w_pickF rfl rfl rfl rfl ?_)
    refine xAs ?_
    refine wKp [(0, _), (1, _), (2, _)] ⟨rfl, rfl, rfl, trivial⟩ ?_
    refine w_ret ?_
    exact end0 .ret (.inl rfl) [_] ⟨rfl, trivial⟩ ⟨bool_eq (by rw [Bool.eq_iff_iff]; simp [letterOk, g1]; try omega), rfl, rfl⟩

set_option maxRecDepth 4000 in
set_option maxHeartbeats 400000 in
theorem l91Domain_c (b : Nat) (q : Option Addr) (m cp p : Nat) (hp : p ≤ 900000000000) (hm : m ≤ 2000) (B : Kn) (hbm : BytesAt B q m) : Ex1 (pj J) 11 [ptr ⟨b, 0, none⟩] B (rd b q m cp p) (fun v s => ∃ x : Str, v = str x ∧ x.length ≤ 40 ∧ s = rd b q m cp (p + 2)) := by
  refine cBB 12 Try.func11 rfl rfl rfl (Nat.le_of_ble_eq_true rfl) ?_
  refine wSR ?_
  refine xAs ?_
  refine wKp [(0, _), (2, _)] ⟨rfl, rfl, trivial⟩ ?_
  refine w_seq ?_
  refine wSR ?_
  refine xMv ?_
  refine oX (w_ex1 0 rfl rfl rfl en21 rfl (pick_c _ _ _ _ _ _ (by omega) (by omega) (by omega) hm _ hbm) ?_)
  rintro _ _ ⟨r1, rfl, r1a, r1b, rfl⟩
  refine oX (w_eqlI rfl rfl rfl rfl ?_)
  refine wTd [(0, _), (2, _), (5, _)] [_] ⟨rfl, rfl, rfl, trivial⟩ rfl ?_
  refine wCd rfl (fun g1 => ?_) (fun g1 => ?_)
  · try simp only [sQ1, sQ2, sQ3, sQ4, sQ5, sQ6, sQ7, sQ8, ne_eq] at g1
    refine wSR ?_
    refine xMv ?_
    refine oX (wBS (parts := [(0, _), (1, _), (2, _), (3, _), (4, _), (5, _), (6, _), (7, _), (8, _)]) [_, _, _, _, _, _, _, _, _] rfl rfl Try.underlying65 sz9 zo9 rfl rfl rfl rfl rfl (fun b2 => ?_))
    refine oX (w_callN [0, 1] rfl rfl rfl rfl en22 rfl (of_c _ _ _ _ _ _ ([[], [46], [97, 46, 46, 98], [97, 46, 98, 46, 99, 46, 100], [97, 46, 98, 46, 99], [97, 98, 99, 100, 101, 102, 103, 104, 46, 97, 98, 99, 100, 101, 102, 103, 104, 46, 97, 98, 99], [97, 98, 99, 100, 101, 102, 103, 104, 46, 97, 98, 99, 100, 101, 102, 103, 104, 46, 97, 98], [104, 111, 115, 116, 46], [72, 111, 115, 116, 46, 111, 114, 103]] : List Str) (by omega) (by decide) (by decide) hm _ hbm) ?_)
    rintro _ _ _ hle3 ⟨rfl, x3, hx3, rfl, rfl⟩
    replace hx3 := (show ∀ y ∈ ( ([[], [46], [97, 46, 46, 98], [97, 46, 98, 46, 99, 46, 100], [97, 46, 98, 46, 99], [97, 98, 99, 100, 101, 102, 103, 104, 46, 97, 98, 99, 100, 101, 102, 103, 104, 46, 97, 98, 99], [97, 98, 99, 100, 101, 102, 103, 104, 46, 97, 98, 99, 100, 101, 102, 103, 104, 46, 97, 98], [104, 111, 115, 116, 46], [72, 111, 115, 116, 46, 111, 114, 103]] : List Str) : List Str), y.length ≤ 40 from by decide) _ hx3
    refine xAs ?_
    refine wTd [(0, _), (2, _), (5, _)] [_, _] ⟨rfl, rfl, rfl, trivial⟩ rfl ?_
    refine w_ret (thn_r ?_)
    exact end1 .ret (.inl rfl) [_] 0 rfl ⟨rfl, trivial⟩ ⟨rfl, _, rfl, _, rfl, hx3, rfl⟩
  · try simp only [sQ1, sQ2, sQ3, sQ4, sQ5, sQ6, sQ7, sQ8, ne_eq] at g1
    refine w_skip ?_
    refine thn_n ?_
    refine wSR ?_
    refine xMv ?_
    refine oX (wBS (parts := [(0, _), (1, _), (2, _), (3, _)]) [_, _, _, _] rfl rfl Try.underlying65 sz9 zo9 rfl rfl rfl rfl rfl (fun b4 => ?_))
    refine oX (w_callN [0, 1] rfl rfl rfl rfl en22 rfl (of_c _ _ _ _ _ _ ([[104, 111, 115, 116, 46, 111, 114, 103], [104, 111, 115, 116], [97, 46, 98, 46, 99], [111, 116, 104, 101, 114, 46, 110, 101, 116]] : List Str) (by omega) (by decide) (by decide) hm _ hbm) ?_)
    rintro _ _ _ hle5 ⟨rfl, x5, hx5, rfl, rfl⟩
    replace hx5 := (show ∀ y ∈ ( ([[104, 111, 115, 116, 46, 111, 114, 103], [104, 111, 115, 116], [97, 46, 98, 46, 99], [111, 116, 104, 101, 114, 46, 110, 101, 116]] : List Str) : List Str), y.length ≤ 40 from by decide) _ hx5
    refine xAs ?_
    refine wTd [(0, _), (2, _), (5, _)] [_, _] ⟨rfl, rfl, rfl, trivial⟩ rfl ?_
    refine w_ret ?_
    exact end1 .ret (.inl rfl) [_] 0 rfl ⟨rfl, trivial⟩ ⟨rfl, _, rfl, _, rfl, hx5, rfl⟩

set_option maxRecDepth 4000 in
set_option maxHeartbeats 400000 in
theorem sameQueue_c (aa : Option Addr) (ca : Nat) (a : DQueue) (ab : Option Addr) (cb : Nat) (b : DQueue) (B : Kn) (ha : SlK B aa ca 4 ItemR a.items) (hb : SlK B ab cb 4 ItemR b.items) : RetB (pj J) 17 [.agg #[.int .i64 a.next, .slice aa a.items.length ca], .agg #[.int .i64 b.next, .slice ab b.items.length cb]] B (.bool (decide (a = b))) := by
  refine cBB 66 Try.func17 rfl rfl rfl (Nat.le_of_ble_eq_true rfl) ?_
  have han := ha.len
  have hbn := hb.len
  refine wSR ?_
  refine oX (w_box (l := [_, _]) rfl rfl rfl rfl (fun b1 => ?_))
  refine oX (w_box (l := [_, _]) rfl rfl rfl rfl (fun b2 => ?_))
  refine xAs ?_
  refine wTd [(0, _), (1, _), (2, _), (3, _), (4, _)] [_, _] ⟨rfl, rfl, rfl, rfl, rfl, trivial⟩ rfl ?_
  refine w_seq ?_
  refine wSR ?_
  refine oX (wFA rfl rfl fo29x0 rfl ?_)
  refine oX (w_load1 rfl rfl lk3 rfl (atL 0 rfl rfl rfl) ?_)
  refine oX (wFA rfl rfl fo29x0 rfl ?_)
  refine oX (w_load1 rfl rfl lk3 rfl (atL 1 rfl rfl rfl) ?_)
  refine oX (w_neqI rfl rfl rfl rfl ?_)
  refine xMv ?_
  refine r_split (d := 13) rfl (fun g1 => ?_) (fun g1 => ?_)
  · try simp only [sQ1, sQ2, sQ3, sQ4, sQ5, sQ6, sQ7, sQ8, ne_eq] at g1
    refine oX (w_pass rfl rfl ?_)
    refine oX (w_pass rfl rfl ?_)
    refine oX (w_pass rfl rfl ?_)
    refine oX (w_pass rfl rfl ?_)
    refine oX (w_pass rfl rfl ?_)
    refine oX (w_pass rfl rfl ?_)
    refine oX (w_pass rfl rfl ?_)
    refine oX (w_pickT rfl rfl rfl rfl ?_)
    refine wKp [(0, _), (1, _), (2, _), (3, _), (4, _), (21, _)] ⟨rfl, rfl, rfl, rfl, rfl, rfl, trivial⟩ ?_
    refine wCd (t := true) rfl (fun _ => ?_) (fun h => Bool.noConfusion h)
    refine wSR ?_
    refine xAs ?_
    refine wKp [(0, _), (1, _), (2, _), (3, _), (4, _), (21, _)] ⟨rfl, rfl, rfl, rfl, rfl, rfl, trivial⟩ ?_
    refine w_ret (thn_r ?_)
    exact end0 .ret (.inl rfl) [_] ⟨rfl, trivial⟩ ⟨bool_eq (by symm; rw [decide_eq_false_iff_not]; rintro rfl; exact g1 rfl), rfl, rfl⟩
  · try simp only [sQ1, sQ2, sQ3, sQ4, sQ5, sQ6, sQ7, sQ8, ne_eq] at g1
    refine oX (wFA rfl rfl fo29x1 rfl ?_)
    refine oX (w_load1 rfl rfl lk27 rfl (atL 0 rfl rfl rfl) ?_)
    refine oX (w_lenV rfl rfl Try.underlying27 rfl ?_)
    refine oX (wFA rfl rfl fo29x1 rfl ?_)
    refine oX (w_load1 rfl rfl lk27 rfl (atL 1 rfl rfl rfl) ?_)
    refine oX (w_lenV rfl rfl Try.underlying27 rfl ?_)
    refine oX (w_neqI rfl rfl rfl rfl ?_)
    refine oX (w_pickF rfl rfl rfl rfl ?_)
    refine wKp [(0, _), (1, _), (2, _), (3, _), (4, _), (21, _)] ⟨rfl, rfl, rfl, rfl, rfl, rfl, trivial⟩ ?_
    refine wCd rfl (fun g2 => ?_) (fun g2 => ?_)
    · try simp only [sQ1, sQ2, sQ3, sQ4, sQ5, sQ6, sQ7, sQ8, ne_eq] at g2
      refine wSR ?_
      refine xAs ?_
      refine wKp [(0, _), (1, _), (2, _), (3, _), (4, _), (21, _)] ⟨rfl, rfl, rfl, rfl, rfl, rfl, trivial⟩ ?_
      refine w_ret (thn_r ?_)
      exact end0 .ret (.inl rfl) [_] ⟨rfl, trivial⟩ ⟨bool_eq (by symm; rw [decide_eq_false_iff_not]; rintro rfl; exact g2 rfl), rfl, rfl⟩
    · try simp only [sQ1, sQ2, sQ3, sQ4, sQ5, sQ6, sQ7, sQ8, ne_eq] at g2
      refine w_skip ?_
      refine thn_n ?_
      refine w_seq ?_
      refine wSR ?_
      refine xAs ?_
      refine wKp [(0, _), (1, _), (2, _), (3, _), (4, _), (5, _), (21, _)] ⟨rfl, rfl, rfl, rfl, rfl, rfl, rfl, trivial⟩ ?_
      refine w_block ?_
      refine w_loopE (α := Nat) [0, 1, 2, 3, 21] (fun k => [(5, .int .i64 k)]) [] (fun k => []) (fun k Bx => Bx = B ∧ k ≤ a.items.length ∧ a.items.take k = b.items.take k) (fun k => a.items.length - k) 0 ⟨rfl, trivial⟩ rfl (⟨rfl, Nat.zero_le _, by simp⟩) (fun k B3 hle3 hI => ?_)
      obtain ⟨rfl, hk, he⟩ := hI
      refine wTd [(0, _), (1, _), (2, _), (3, _), (5, _), (21, _)] [_, _] ⟨rfl, rfl, rfl, rfl, rfl, rfl, trivial⟩ rfl ?_
      refine w_seq ?_
      refine wSR ?_
      refine xMv ?_
      refine oX (wFA rfl rfl fo29x1 rfl ?_)
      refine oX (w_load1 rfl rfl lk27 rfl (atL 0 rfl rfl rfl) ?_)
      refine oX (w_lenV rfl rfl Try.underlying27 rfl ?_)
      refine oX (w_lss rfl rfl rfl rfl ?_)
      refine wKp [(0, _), (1, _), (2, _), (3, _), (5, _), (21, _), (26, _)] ⟨rfl, rfl, rfl, rfl, rfl, rfl, rfl, trivial⟩ ?_
      refine wCd rfl (fun g3 => ?_) (fun g3 => ?_)
      · try simp only [sQ1, sQ2, sQ3, sQ4, sQ5, sQ6, sQ7, sQ8, ne_eq] at g3
        refine w_skip ?_
        refine thn_n ?_
        refine w_seq ?_
        refine w_block ?_
        refine wSR ?_
        refine oX (wFA rfl rfl fo29x1 rfl ?_)
        refine oX (w_load1 rfl rfl lk27 rfl (atL 0 rfl rfl rfl) ?_)
        refine xMv ?_
        obtain ⟨x, hx⟩ := getLt (xs := a.items) (i := k) (by first | omega | (simp; done) | (simp; omega))
        obtain ⟨bb5, oo5, rfl⟩ := ha.base hx
        obtain ⟨_, ⟨qi6, ci6, rfl, hi6, hb6, hb6b⟩, hc6⟩ := ha.elem hx
        have hi6n := hi6.len
        refine oX (w_ixB rfl rfl Try.underlying27 sz71 rfl rfl (by first | omega | (simp; done) | (simp; omega)) (by first | omega | (simp; done) | (simp; omega)) ?_)
        refine oX (w_loadN [_, _, _, _] rfl rfl lk71 rfl (rowK hc6 0 rfl rfl) ?_)
        refine oX (w_alloc (l := [_, _, _, _]) rfl rfl zo71 rfl (fun b7 => ?_))
        refine oX (w_store [_, _, _, _] 2 [_, _, _, _] rfl rfl sz71 rfl rfl rfl rfl rfl rfl rfl rfl ?_)
        refine wTd [(0, _), (1, _), (2, _), (3, _), (5, _), (6, _), (21, _), (26, _)] [_, _, _] ⟨rfl, rfl, rfl, rfl, rfl, rfl, rfl, rfl, trivial⟩ rfl ?_
        refine wSR ?_
        refine oX (wFA rfl rfl fo29x1 rfl ?_)
        refine oX (w_load1 rfl rfl lk27 rfl (atL 1 rfl rfl rfl) ?_)
        refine xMv ?_
        obtain ⟨y, hy⟩ := getLt (xs := b.items) (i := k) (by first | omega | (simp; done) | (simp; omega))
        obtain ⟨bb9, oo9, rfl⟩ := hb.base hy
        obtain ⟨_, ⟨qi10, ci10, rfl, hi10, hb10, hb10b⟩, hc10⟩ := hb.elem hy
        have hi10n := hi10.len
        refine oX (w_ixB rfl rfl Try.underlying27 sz71 rfl rfl (by first | omega | (simp; done) | (simp; omega)) (by first | omega | (simp; done) | (simp; omega)) ?_)
        refine oX (w_loadN [_, _, _, _] rfl rfl lk71 rfl (rowK hc10 0 rfl rfl) ?_)
        refine oX (w_alloc (l := [_, _, _, _]) rfl rfl zo71 rfl (fun b11 => ?_))
        refine oX (w_store [_, _, _, _] 3 [_, _, _, _] rfl rfl sz71 rfl rfl rfl rfl rfl rfl rfl rfl ?_)
        refine wTd [(0, _), (1, _), (2, _), (3, _), (5, _), (6, _), (7, _), (21, _), (26, _)] [_, _, _, _] ⟨rfl, rfl, rfl, rfl, rfl, rfl, rfl, rfl, rfl, trivial⟩ rfl ?_
        refine wSR ?_
        refine oX (wFA rfl rfl fo71x0 rfl ?_)
        refine oX (w_load1 rfl rfl lk3 rfl (atL 2 rfl rfl rfl) ?_)
        refine oX (wFA rfl rfl fo71x0 rfl ?_)
        refine oX (w_load1 rfl rfl lk3 rfl (atL 3 rfl rfl rfl) ?_)
        refine oX (w_neqI rfl rfl rfl rfl ?_)
        refine xMv ?_
        refine r_split (d := 44) rfl (fun g4 => ?_) (fun g4 => ?_)
        · try simp only [sQ1, sQ2, sQ3, sQ4, sQ5, sQ6, sQ7, sQ8, ne_eq] at g4
          refine oX (w_pass rfl rfl ?_)
          refine oX (w_pass rfl rfl ?_)
          refine oX (w_pass rfl rfl ?_)
          refine oX (w_pass rfl rfl ?_)
          refine oX (w_pass rfl rfl ?_)
          refine oX (w_pickT rfl rfl rfl rfl ?_)
          refine xMv ?_
          refine oX (w_pass rfl rfl ?_)
          refine oX (w_pass rfl rfl ?_)
          refine oX (w_pass rfl rfl ?_)
          refine oX (w_pass rfl rfl ?_)
          refine oX (w_pass rfl rfl ?_)
          refine oX (w_pickT rfl rfl rfl rfl ?_)
          refine xMv ?_
          refine oX (w_pass rfl rfl ?_)
          refine oX (w_pass rfl rfl ?_)
          refine oX (w_pass rfl rfl ?_)
          refine oX (w_pass rfl rfl ?_)
          refine oX (w_pass rfl rfl ?_)
          refine oX (w_pass rfl rfl ?_)
          refine oX (w_pickT rfl rfl rfl rfl ?_)
          refine wKp [(0, _), (1, _), (2, _), (3, _), (5, _), (6, _), (7, _), (21, _), (26, _), (65, _)] ⟨rfl, rfl, rfl, rfl, rfl, rfl, rfl, rfl, rfl, rfl, trivial⟩ ?_
          refine wCd (t := true) rfl (fun _ => ?_) (fun h => Bool.noConfusion h)
          refine wSR ?_
          refine xAs ?_
          refine wKp [(0, _), (1, _), (2, _), (3, _), (4, _), (5, _), (6, _), (7, _), (21, _), (26, _), (65, _)] ⟨rfl, rfl, rfl, rfl, rfl, rfl, rfl, rfl, rfl, rfl, rfl, trivial⟩ ?_
          refine w_ret (inB_r (thn_r (rndE_r (inB_r (thn_r ?_)))))
          exact end0 .ret (.inl rfl) [_] ⟨rfl, trivial⟩ ⟨bool_eq (sameQ_no hx hy (fun e => g4 (by rw [e]))), rfl, rfl⟩
        · try simp only [sQ1, sQ2, sQ3, sQ4, sQ5, sQ6, sQ7, sQ8, ne_eq] at g4
          refine oX (wFA rfl rfl fo71x1 rfl ?_)
          refine oX (w_load1 rfl rfl lk9 rfl (atL 2 rfl rfl rfl) ?_)
          refine oX (wFA rfl rfl fo71x1 rfl ?_)
          refine oX (w_load1 rfl rfl lk9 rfl (atL 3 rfl rfl rfl) ?_)
          refine oX (w_neqS rfl rfl rfl rfl ?_)
          refine oX (w_pickF rfl rfl rfl rfl ?_)
          refine xMv ?_
          refine r_split (d := 51) rfl (fun g5 => ?_) (fun g5 => ?_)
          · try simp only [sQ1, sQ2, sQ3, sQ4, sQ5, sQ6, sQ7, sQ8, ne_eq] at g5
            refine oX (w_pass rfl rfl ?_)
            refine oX (w_pass rfl rfl ?_)
            refine oX (w_pass rfl rfl ?_)
            refine oX (w_pass rfl rfl ?_)
            refine oX (w_pass rfl rfl ?_)
            refine oX (w_pickT rfl rfl rfl rfl ?_)
            refine xMv ?_
            refine oX (w_pass rfl rfl ?_)
            refine oX (w_pass rfl rfl ?_)
            refine oX (w_pass rfl rfl ?_)
            refine oX (w_pass rfl rfl ?_)
            refine oX (w_pass rfl rfl ?_)
            refine oX (w_pass rfl rfl ?_)
            refine oX (w_pickT rfl rfl rfl rfl ?_)
            refine wKp [(0, _), (1, _), (2, _), (3, _), (5, _), (6, _), (7, _), (21, _), (26, _), (65, _)] ⟨rfl, rfl, rfl, rfl, rfl, rfl, rfl, rfl, rfl, rfl, trivial⟩ ?_
            refine wCd (t := true) rfl (fun _ => ?_) (fun h => Bool.noConfusion h)
            refine wSR ?_
            refine xAs ?_
            refine wKp [(0, _), (1, _), (2, _), (3, _), (4, _), (5, _), (6, _), (7, _), (21, _), (26, _), (65, _)] ⟨rfl, rfl, rfl, rfl, rfl, rfl, rfl, rfl, rfl, rfl, rfl, trivial⟩ ?_
            refine w_ret (inB_r (thn_r (rndE_r (inB_r (thn_r ?_)))))
            exact end0 .ret (.inl rfl) [_] ⟨rfl, trivial⟩ ⟨bool_eq (sameQ_no hx hy (fun e => g5 (by rw [e]))), rfl, rfl⟩
          · try simp only [sQ1, sQ2, sQ3, sQ4, sQ5, sQ6, sQ7, sQ8, ne_eq] at g5
            refine oX (wFA rfl rfl fo71x2 rfl ?_)
            refine oX (w_load1 rfl rfl lk9 rfl (atL 2 rfl rfl rfl) ?_)
            refine oX (wFA rfl rfl fo71x2 rfl ?_)
            refine oX (w_load1 rfl rfl lk9 rfl (atL 3 rfl rfl rfl) ?_)
            refine oX (w_neqS rfl rfl rfl rfl ?_)
            refine oX (w_pickF rfl rfl rfl rfl ?_)
            refine xMv ?_
            refine r_split (d := 58) rfl (fun g6 => ?_) (fun g6 => ?_)
            · try simp only [sQ1, sQ2, sQ3, sQ4, sQ5, sQ6, sQ7, sQ8, ne_eq] at g6
              refine oX (w_pass rfl rfl ?_)
              refine oX (w_pass rfl rfl ?_)
              refine oX (w_pass rfl rfl ?_)
              refine oX (w_pass rfl rfl ?_)
              refine oX (w_pass rfl rfl ?_)
              refine oX (w_pass rfl rfl ?_)
              refine oX (w_pickT rfl rfl rfl rfl ?_)
              refine wKp [(0, _), (1, _), (2, _), (3, _), (5, _), (6, _), (7, _), (21, _), (26, _), (65, _)] ⟨rfl, rfl, rfl, rfl, rfl, rfl, rfl, rfl, rfl, rfl, trivial⟩ ?_
              refine wCd (t := true) rfl (fun _ => ?_) (fun h => Bool.noConfusion h)
              refine wSR ?_
              refine xAs ?_
              refine wKp [(0, _), (1, _), (2, _), (3, _), (4, _), (5, _), (6, _), (7, _), (21, _), (26, _), (65, _)] ⟨rfl, rfl, rfl, rfl, rfl, rfl, rfl, rfl, rfl, rfl, rfl, trivial⟩ ?_
              refine w_ret (inB_r (thn_r (rndE_r (inB_r (thn_r ?_)))))
              exact end0 .ret (.inl rfl) [_] ⟨rfl, trivial⟩ ⟨bool_eq (sameQ_no hx hy (fun e => g6 (by rw [e]))), rfl, rfl⟩
            · try simp only [sQ1, sQ2, sQ3, sQ4, sQ5, sQ6, sQ7, sQ8, ne_eq] at g6
              refine oX (wFA rfl rfl fo71x3 rfl ?_)
              refine oX (w_load1 rfl rfl lk65 rfl (atL 2 rfl rfl rfl) ?_)
              refine oX (wFA rfl rfl fo71x3 rfl ?_)
              refine oX (w_load1 rfl rfl lk65 rfl (atL 3 rfl rfl rfl) ?_)
              refine oX (w_retB rfl rfl en33 rfl (sameNames_c _ _ _ _ _ _ _ hi6 hi10) ?_)
              refine oX (w_not rfl rfl rfl ?_)
              refine oX (w_pickF rfl rfl rfl rfl ?_)
              refine wKp [(0, _), (1, _), (2, _), (3, _), (5, _), (6, _), (7, _), (21, _), (26, _), (65, _)] ⟨rfl, rfl, rfl, rfl, rfl, rfl, rfl, rfl, rfl, rfl, trivial⟩ ?_
              refine wCd rfl (fun g7 => ?_) (fun g7 => ?_)
              · try simp only [sQ1, sQ2, sQ3, sQ4, sQ5, sQ6, sQ7, sQ8, ne_eq] at g7
                refine wSR ?_
                refine xAs ?_
                refine wKp [(0, _), (1, _), (2, _), (3, _), (4, _), (5, _), (6, _), (7, _), (21, _), (26, _), (65, _)] ⟨rfl, rfl, rfl, rfl, rfl, rfl, rfl, rfl, rfl, rfl, rfl, trivial⟩ ?_
                refine w_ret (inB_r (thn_r (rndE_r (inB_r (thn_r ?_)))))
                exact end0 .ret (.inl rfl) [_] ⟨rfl, trivial⟩ ⟨bool_eq (sameQ_no hx hy (fun e => g7 (by rw [e]))), rfl, rfl⟩
              · try simp only [sQ1, sQ2, sQ3, sQ4, sQ5, sQ6, sQ7, sQ8, ne_eq] at g7
                refine w_skip ?_
                refine inB_n (thn_n ?_)
                refine w_region ?_
                refine xMv ?_
                refine oX (w_add rfl rfl rfl rfl (by first | exact wrI64 (by first | omega | (simp; done) | (simp; omega)) (by first | omega | (simp; done) | (simp; omega)) | rfl) ?_)
                refine xAs ?_
                exact rndE_n (k + 1) [0, 1] (by first | omega | (simp only []; omega)) ⟨rfl, by omega, take_eq_next hx hy (by cases x; cases y; simp_all) he⟩ ⟨rfl, rfl, rfl, rfl, rfl, rfl, trivial⟩ rfl
      · try simp only [sQ1, sQ2, sQ3, sQ4, sQ5, sQ6, sQ7, sQ8, ne_eq] at g3
        refine w_exit (thn_x (rndE_x (inB_hit (thn_n ?_))))
        refine wSR ?_
        refine xAs ?_
        refine wKp [(0, _), (1, _), (2, _), (3, _), (4, _), (5, _), (21, _), (26, _)] ⟨rfl, rfl, rfl, rfl, rfl, rfl, rfl, rfl, trivial⟩ ?_
        refine w_ret ?_
        exact end0 .ret (.inl rfl) [_] ⟨rfl, trivial⟩ ⟨bool_eq (by symm; rw [decide_eq_true_eq]; cases a; cases b; rw [DQueue.mk.injEq]; exact ⟨g1, by have := eqT (inst := Classical.propDecidable _) (by omega) (by omega) he; simpa using this.symm⟩), rfl, rfl⟩

set_option maxRecDepth 4000 in
set_option maxHeartbeats 400000 in
theorem specQueue_c (aq : Option Addr) (cq : Nat) (q : DQueue) (B : Kn) (hq : SlK B aq cq 4 ItemR q.items) : RetB (pj J) 26 [.agg #[.int .i64 q.next, .slice aq q.items.length cq]] B (.bool (queueOk q)) := by
  refine cBB 48 Try.func26 rfl rfl rfl (Nat.le_of_ble_eq_true rfl) ?_
  have hqn := hq.len
  refine wSR ?_
  refine oX (w_box (l := [_, _]) rfl rfl rfl rfl (fun b1 => ?_))
  refine xAs ?_
  refine wTd [(0, _), (1, _), (2, _)] [_] ⟨rfl, rfl, rfl, trivial⟩ rfl ?_
  refine wSR ?_
  refine xAs ?_
  refine wKp [(0, _), (1, _), (2, _), (3, _)] ⟨rfl, rfl, rfl, rfl, trivial⟩ ?_
  refine w_seq ?_
  refine wSR ?_
  refine xAs ?_
  refine wKp [(0, _), (1, _), (2, _), (3, _), (4, _)] ⟨rfl, rfl, rfl, rfl, rfl, trivial⟩ ?_
  refine w_block ?_
  refine w_loopE (α := Nat × Int) [0, 1] (fun p => [(3, .int .i64 p.2), (4, .int .i64 p.1)]) [] (fun p => []) (fun p Bx => Bx = B ∧ p.1 ≤ q.items.length ∧ scanQ 0 q.items = scanQ p.2 (q.items.drop p.1) ∧ 0 ≤ p.2 ∧ p.2 ≤ 99) (fun p => q.items.length - p.1) (0, 0) ⟨rfl, rfl, trivial⟩ rfl (⟨rfl, Nat.zero_le _, rfl, by decide, by decide⟩) (fun p B2 hle2 hI => ?_)
  obtain ⟨rfl, hk, hs, hl0, hl1⟩ := hI
  refine wTd [(0, _), (1, _), (3, _), (4, _)] [_] ⟨rfl, rfl, rfl, rfl, trivial⟩ rfl ?_
  refine w_seq ?_
  refine wSR ?_
  refine xMv ?_
  refine oX (wFA rfl rfl fo29x1 rfl ?_)
  refine oX (w_load1 rfl rfl lk27 rfl (atL 0 rfl rfl rfl) ?_)
  refine oX (w_lenV rfl rfl Try.underlying27 rfl ?_)
  refine oX (w_lss rfl rfl rfl rfl ?_)
  refine wKp [(0, _), (1, _), (3, _), (4, _), (10, _)] ⟨rfl, rfl, rfl, rfl, rfl, trivial⟩ ?_
  refine wCd rfl (fun g1 => ?_) (fun g1 => ?_)
  · try simp only [sQ1, sQ2, sQ3, sQ4, sQ5, sQ6, sQ7, sQ8, ne_eq] at g1
    refine w_skip ?_
    refine thn_n ?_
    refine w_seq ?_
    refine w_block ?_
    refine wSR ?_
    refine oX (wFA rfl rfl fo29x1 rfl ?_)
    refine oX (w_load1 rfl rfl lk27 rfl (atL 0 rfl rfl rfl) ?_)
    refine xMv ?_
    obtain ⟨x, hx⟩ := getLt (xs := q.items) (i := p.1) (by first | omega | (simp; done) | (simp; omega))
    obtain ⟨bb4, oo4, rfl⟩ := hq.base hx
    obtain ⟨_, ⟨qi5, ci5, rfl, hi5, hb5, hb5b⟩, hc5⟩ := hq.elem hx
    have hi5n := hi5.len
    refine oX (w_ixB rfl rfl Try.underlying27 sz71 rfl rfl (by first | omega | (simp; done) | (simp; omega)) (by first | omega | (simp; done) | (simp; omega)) ?_)
    replace hs := scan_step hs hx
    refine oX (w_loadN [_, _, _, _] rfl rfl lk71 rfl (rowK hc5 0 rfl rfl) ?_)
    refine oX (w_alloc (l := [_, _, _, _]) rfl rfl zo71 rfl (fun b6 => ?_))
    refine oX (w_store [_, _, _, _] 1 [_, _, _, _] rfl rfl sz71 rfl rfl rfl rfl rfl rfl rfl rfl ?_)
    refine wTd [(0, _), (1, _), (3, _), (4, _), (5, _), (10, _)] [_, _] ⟨rfl, rfl, rfl, rfl, rfl, rfl, trivial⟩ rfl ?_
    refine w_seq ?_
    refine wSR ?_
    refine oX (wFA rfl rfl fo71x0 rfl ?_)
    refine oX (w_load1 rfl rfl lk3 rfl (atL 1 rfl rfl rfl) ?_)
    refine xMv ?_
    refine oX (w_add rfl rfl rfl rfl (by first | exact wrI64 (by first | omega | (simp; done) | (simp; omega)) (by first | omega | (simp; done) | (simp; omega)) | rfl) ?_)
    refine oX (w_retB rfl rfl en39 rfl (l6In_c _ _ _ _) ?_)
    refine oX (w_not rfl rfl rfl ?_)
    refine xMv ?_
    refine r_split (d := 24) rfl (fun g2 => ?_) (fun g2 => ?_)
    · try simp only [sQ1, sQ2, sQ3, sQ4, sQ5, sQ6, sQ7, sQ8, ne_eq] at g2
      refine oX (w_pass rfl rfl ?_)
      refine oX (w_pass rfl rfl ?_)
      refine oX (w_pass rfl rfl ?_)
      refine oX (w_pass rfl rfl ?_)
      refine oX (w_pass rfl rfl ?_)
      refine oX (w_pass rfl rfl ?_)
      refine oX (w_pass rfl rfl ?_)
      refine oX (w_pass rfl rfl ?_)
      refine oX (w_pass rfl rfl ?_)
      refine oX (w_pickT rfl rfl rfl rfl ?_)
      refine wKp [(0, _), (1, _), (3, _), (4, _), (5, _), (10, _), (34, _)] ⟨rfl, rfl, rfl, rfl, rfl, rfl, rfl, trivial⟩ ?_
      refine wCd (t := true) rfl (fun _ => ?_) (fun h => Bool.noConfusion h)
      refine wSR ?_
      refine xAs ?_
      refine wKp [(0, _), (1, _), (2, _), (3, _), (4, _), (5, _), (10, _), (34, _)] ⟨rfl, rfl, rfl, rfl, rfl, rfl, rfl, rfl, trivial⟩ ?_
      refine w_ret (thn_r (inB_r (thn_r (rndE_r (inB_r (thn_r ?_))))))
      exact end0 .ret (.inl rfl) [_] ⟨rfl, trivial⟩ ⟨bool_eq (queueBad (by rw [hs, if_neg]; intro h; simp [h.1] at g2)), rfl, rfl⟩
    · try simp only [sQ1, sQ2, sQ3, sQ4, sQ5, sQ6, sQ7, sQ8, ne_eq] at g2
      simp only [Bool.and_eq_true, decide_eq_true_eq] at g2
      refine oX (wFA rfl rfl fo71x1 rfl ?_)
      refine oX (w_load1 rfl rfl lk9 rfl (atL 1 rfl rfl rfl) ?_)
      refine oX (wFA rfl rfl fo71x3 rfl ?_)
      refine oX (w_load1 rfl rfl lk65 rfl (atL 1 rfl rfl rfl) ?_)
      refine oX (wFA rfl rfl fo71x2 rfl ?_)
      refine oX (w_load1 rfl rfl lk9 rfl (atL 1 rfl rfl rfl) ?_)
      refine oX (w_build (parts := [(0, _), (1, _), (2, _)]) [_, _, _] [_, _, _] rfl rfl pl82 zo82 rfl rfl rfl ?_)
      refine oX (w_retB rfl rfl en40 rfl (specLetter_c _ _ ⟨x.fr, x.left, x.text⟩ _ hi5 (by first | assumption | omega) (by first | assumption | omega)) ?_)
      refine oX (w_not rfl rfl rfl ?_)
      refine oX (w_pickF rfl rfl rfl rfl ?_)
      refine wKp [(0, _), (1, _), (3, _), (4, _), (5, _), (10, _), (34, _)] ⟨rfl, rfl, rfl, rfl, rfl, rfl, rfl, trivial⟩ ?_
      refine wCd rfl (fun g3 => ?_) (fun g3 => ?_)
      · try simp only [sQ1, sQ2, sQ3, sQ4, sQ5, sQ6, sQ7, sQ8, ne_eq] at g3
        refine wSR ?_
        refine xAs ?_
        refine wKp [(0, _), (1, _), (2, _), (3, _), (4, _), (5, _), (10, _), (34, _)] ⟨rfl, rfl, rfl, rfl, rfl, rfl, rfl, rfl, trivial⟩ ?_
        refine w_ret (thn_r (inB_r (thn_r (rndE_r (inB_r (thn_r ?_))))))
        exact end0 .ret (.inl rfl) [_] ⟨rfl, trivial⟩ ⟨bool_eq (queueBad (by rw [hs, if_neg]; intro h; rw [itemOk, g3] at h; cases h.2)), rfl, rfl⟩
      · try simp only [sQ1, sQ2, sQ3, sQ4, sQ5, sQ6, sQ7, sQ8, ne_eq] at g3
        refine w_skip ?_
        refine thn_n ?_
        refine w_region ?_
        refine oX (wFA rfl rfl fo71x0 rfl ?_)
        refine oX (w_load1 rfl rfl lk3 rfl (atL 1 rfl rfl rfl) ?_)
        refine xAs ?_
        refine inB_n (thn_n ?_)
        refine w_region ?_
        refine xMv ?_
        refine oX (w_add rfl rfl rfl rfl (by first | exact wrI64 (by first | omega | (simp; done) | (simp; omega)) (by first | omega | (simp; done) | (simp; omega)) | rfl) ?_)
        refine xAs ?_
        exact rndE_n (p.1 + 1, x.id) [0] (by first | omega | (simp only []; omega)) ⟨rfl, by simp only []; omega, by rw [hs, if_pos ⟨g2, g3⟩], by simp only []; omega, by simp only []; omega⟩ ⟨rfl, rfl, rfl, rfl, trivial⟩ rfl
  · try simp only [sQ1, sQ2, sQ3, sQ4, sQ5, sQ6, sQ7, sQ8, ne_eq] at g1
    rw [dropEnd (by omega), scanQ] at hs
    refine w_exit (thn_x (rndE_x (inB_hit (thn_n ?_))))
    refine wSR ?_
    refine oX (wFA rfl rfl fo29x0 rfl ?_)
    refine oX (w_load1 rfl rfl lk3 rfl (atL 0 rfl rfl rfl) ?_)
    refine xMv ?_
    refine oX (w_add rfl rfl rfl rfl (by first | exact wrI64 (by first | omega | (simp; done) | (simp; omega)) (by first | omega | (simp; done) | (simp; omega)) | rfl) ?_)
    refine oX (w_retB rfl rfl en39 rfl (l6In_c _ _ _ _) ?_)
    refine xMv ?_
    refine r_split (d := 42) rfl (fun g1 => ?_) (fun g1 => ?_)
    · try simp only [sQ1, sQ2, sQ3, sQ4, sQ5, sQ6, sQ7, sQ8, ne_eq] at g1
      refine oX (wFA rfl rfl fo29x1 rfl ?_)
      refine oX (w_load1 rfl rfl lk27 rfl (atL 0 rfl rfl rfl) ?_)
      refine oX (w_lenV rfl rfl Try.underlying27 rfl ?_)
      refine oX (w_leq rfl rfl rfl rfl ?_)
      refine oX (w_pickT rfl rfl rfl rfl ?_)
      refine xAs ?_
      refine wKp [(0, _), (1, _), (2, _), (3, _), (4, _), (10, _)] ⟨rfl, rfl, rfl, rfl, rfl, rfl, trivial⟩ ?_
      refine w_ret ?_
      exact end0 .ret (.inl rfl) [_] ⟨rfl, trivial⟩ ⟨bool_eq (by rw [← queueEnd hs, Bool.eq_iff_iff]; simp [g1, g1]; try omega), rfl, rfl⟩
    · try simp only [sQ1, sQ2, sQ3, sQ4, sQ5, sQ6, sQ7, sQ8, ne_eq] at g1
      refine oX (w_pass rfl rfl ?_)
      refine oX (w_pass rfl rfl ?_)
      refine oX (w_pass rfl rfl ?_)
      refine oX (w_pass rfl rfl ?_)
      refine oX (w_pickF rfl rfl rfl rfl ?_)
      refine xAs ?_
      refine wKp [(0, _), (1, _), (2, _), (3, _), (4, _), (10, _)] ⟨rfl, rfl, rfl, rfl, rfl, rfl, trivial⟩ ?_
      refine w_ret ?_
      exact end0 .ret (.inl rfl) [_] ⟨rfl, trivial⟩ ⟨bool_eq (by rw [← queueEnd hs, Bool.eq_iff_iff]; simp [g1, g1]; try omega), rfl, rfl⟩

set_option maxRecDepth 4000 in
set_option maxHeartbeats 400000 in
theorem l4Flags_c (n : Int) (B : Kn) : RetB (pj J) 52 [.int .i64 n] B (.bool (decide (0 ≤ n) && decide (n ≤ 31))) := by
  refine cBB 5 Try.func52 rfl rfl rfl (Nat.le_of_ble_eq_true rfl) ?_
  refine wSR ?_
  refine xAs ?_
  refine wKp [(0, _), (2, _)] ⟨rfl, rfl, trivial⟩ ?_
  refine wSR ?_
  refine xMv ?_
  refine oX (w_retB rfl rfl en39 rfl (l6In_c _ _ _ _) ?_)
  refine xAs ?_
  refine wKp [(0, _), (2, _)] ⟨rfl, rfl, trivial⟩ ?_
  refine w_ret ?_
  exact end0 .ret (.inl rfl) [_] ⟨rfl, trivial⟩ ⟨rfl, rfl, rfl⟩

set_option maxRecDepth 4000 in
set_option maxHeartbeats 400000 in
theorem l11Mail_c (m : DMail) (hm : m.text.length ≤ 2000000) (B : Kn) : RetB (pj J) 49 [.agg #[.int .i64 m.uid, .int .i64 m.flags, str m.text]] B (.bool (mailOk m)) := by
  refine cBB 17 Try.func49 rfl rfl rfl (Nat.le_of_ble_eq_true rfl) ?_
  refine wSR ?_
  refine oX (w_box (l := [_, _, _]) rfl rfl rfl rfl (fun b1 => ?_))
  refine xAs ?_
  refine wTd [(0, _), (1, _), (2, _)] [_] ⟨rfl, rfl, rfl, trivial⟩ rfl ?_
  refine wSR ?_
  refine oX (wFA rfl rfl fo93x0 rfl ?_)
  refine oX (w_load1 rfl rfl lk3 rfl (atL 0 rfl rfl rfl) ?_)
  refine oX (w_retB rfl rfl en39 rfl (l6In_c _ _ _ _) ?_)
  refine xMv ?_
  refine r_split (d := 6) rfl (fun g1 => ?_) (fun g1 => ?_)
  · try simp only [sQ1, sQ2, sQ3, sQ4, sQ5, sQ6, sQ7, sQ8, ne_eq] at g1
    refine oX (wFA rfl rfl fo93x1 rfl ?_)
    refine oX (w_load1 rfl rfl lk3 rfl (atL 0 rfl rfl rfl) ?_)
    refine oX (w_retB rfl rfl en52 rfl (l4Flags_c _ _) ?_)
    refine oX (w_pickT rfl rfl rfl rfl ?_)
    refine xMv ?_
    refine r_split (d := 11) rfl (fun g2 => ?_) (fun g2 => ?_)
    · try simp only [sQ1, sQ2, sQ3, sQ4, sQ5, sQ6, sQ7, sQ8, ne_eq] at g2
      refine oX (wFA rfl rfl fo93x2 rfl ?_)
      refine oX (w_load1 rfl rfl lk9 rfl (atL 0 rfl rfl rfl) ?_)
      refine oX (w_lenS rfl rfl Try.underlying9 rfl ?_)
      refine oX (w_leq rfl rfl rfl rfl ?_)
      refine oX (w_pickT rfl rfl rfl rfl ?_)
      refine xAs ?_
      refine wKp [(0, _), (1, _), (2, _)] ⟨rfl, rfl, rfl, trivial⟩ ?_
      refine w_ret ?_
      exact end0 .ret (.inl rfl) [_] ⟨rfl, trivial⟩ ⟨bool_eq (by rw [Bool.eq_iff_iff]; simp [mailOk, g1, g2]; try omega), rfl, rfl⟩
    · try simp only [sQ1, sQ2, sQ3, sQ4, sQ5, sQ6, sQ7, sQ8, ne_eq] at g2
      refine oX (w_pass rfl rfl ?_)
      refine oX (w_pass rfl rfl ?_)
      refine oX (w_pass rfl rfl ?_)
      refine oX (w_pass rfl rfl ?_)
      refine oX (w_pickF rfl rfl rfl rfl ?_)
      refine xAs ?_
      refine wKp [(0, _), (1, _), (2, _)] ⟨rfl, rfl, rfl, trivial⟩ ?_
      refine w_ret ?_
      exact end0 .ret (.inl rfl) [_] ⟨rfl, trivial⟩ ⟨bool_eq (by rw [Bool.eq_iff_iff]; simp [mailOk, g1, g2]; try omega), rfl, rfl⟩
  · try simp only [sQ1, sQ2, sQ3, sQ4, sQ5, sQ6, sQ7, sQ8, ne_eq] at g1
    refine oX (w_pass rfl rfl ?_)
    refine oX (w_pass rfl rfl ?_)
    refine oX (w_pass rfl rfl ?_)
    refine oX (w_pickF rfl rfl rfl rfl ?_)
    refine xMv ?_
    refine oX (w_pass rfl rfl ?_)
    refine oX (w_pass rfl rfl ?_)
    refine oX (w_pass rfl rfl ?_)
    refine oX (w_pass rfl rfl ?_)
    refine oX (w_pickF rfl rfl rfl rfl ?_)
    refine xAs ?_
    refine wKp [(0, _), (1, _), (2, _)] ⟨rfl, rfl, rfl, trivial⟩ ?_
    refine w_ret ?_
    exact end0 .ret (.inl rfl) [_] ⟨rfl, trivial⟩ ⟨bool_eq (by rw [Bool.eq_iff_iff]; simp [mailOk, g1]; try omega), rfl, rfl⟩

set_option maxRecDepth 4000 in
set_option maxHeartbeats 400000 in
theorem specBox_c (q : Option Addr) (cp : Nat) (x : DBox) (B : Kn) (hx : SlK B q cp 3 MailR x.mail) : RetB (pj J) 42 [.agg #[.int .i64 x.next, .slice q x.mail.length cp]] B (.bool (boxOk x)) := by
  refine cBB 46 Try.func42 rfl rfl rfl (Nat.le_of_ble_eq_true rfl) ?_
  have hxn := hx.len
  refine wSR ?_
  refine oX (w_box (l := [_, _]) rfl rfl rfl rfl (fun b1 => ?_))
  refine xAs ?_
  refine wTd [(0, _), (1, _), (2, _)] [_] ⟨rfl, rfl, rfl, trivial⟩ rfl ?_
  refine wSR ?_
  refine xAs ?_
  refine wKp [(0, _), (1, _), (2, _), (3, _)] ⟨rfl, rfl, rfl, rfl, trivial⟩ ?_
  refine w_seq ?_
  refine wSR ?_
  refine xAs ?_
  refine wKp [(0, _), (1, _), (2, _), (3, _), (4, _)] ⟨rfl, rfl, rfl, rfl, rfl, trivial⟩ ?_
  refine w_block ?_
  refine w_loopE (α := Nat × Int) [0, 1] (fun g => [(3, .int .i64 g.2), (4, .int .i64 g.1)]) [] (fun g => []) (fun g Bx => Bx = B ∧ g.1 ≤ x.mail.length ∧ mailScan (x.mail.take g.1) = (true, g.2) ∧ 0 ≤ g.2 ∧ g.2 ≤ 99) (fun g => x.mail.length - g.1) (0, 0) ⟨rfl, rfl, trivial⟩ rfl (⟨rfl, Nat.zero_le _, scn_nil, by omega, by omega⟩) (fun g B2 hle2 hI => ?_)
  obtain ⟨rfl, hk, hs, hl0, hl1⟩ := hI
  refine wTd [(0, _), (1, _), (3, _), (4, _)] [_] ⟨rfl, rfl, rfl, rfl, trivial⟩ rfl ?_
  refine w_seq ?_
  refine wSR ?_
  refine xMv ?_
  refine oX (wFA rfl rfl fo47x1 rfl ?_)
  refine oX (w_load1 rfl rfl lk45 rfl (atL 0 rfl rfl rfl) ?_)
  refine oX (w_lenV rfl rfl Try.underlying45 rfl ?_)
  refine oX (w_lss rfl rfl rfl rfl ?_)
  refine wKp [(0, _), (1, _), (3, _), (4, _), (9, _)] ⟨rfl, rfl, rfl, rfl, rfl, trivial⟩ ?_
  refine wCd rfl (fun g1 => ?_) (fun g1 => ?_)
  · try simp only [sQ1, sQ2, sQ3, sQ4, sQ5, sQ6, sQ7, sQ8, ne_eq] at g1
    refine w_skip ?_
    refine thn_n ?_
    refine w_seq ?_
    refine w_block ?_
    refine w_seq ?_
    refine wSR ?_
    refine oX (wFA rfl rfl fo47x1 rfl ?_)
    refine oX (w_load1 rfl rfl lk45 rfl (atL 0 rfl rfl rfl) ?_)
    refine xMv ?_
    obtain ⟨m, hm⟩ := getLt (xs := x.mail) (i := g.1) (by first | omega | (simp; done) | (simp; omega))
    obtain ⟨bb4, oo4, rfl⟩ := hx.base hm
    obtain ⟨_, ⟨rfl, hb5⟩, hc5⟩ := hx.elem hm
    refine oX (w_ixB rfl rfl Try.underlying45 sz93 rfl rfl (by first | omega | (simp; done) | (simp; omega)) (by first | omega | (simp; done) | (simp; omega)) ?_)
    refine oX (w_loadN [_, _, _] rfl rfl lk93 rfl (rowK hc5 0 rfl rfl) ?_)
    refine oX (w_retB rfl rfl en49 rfl (l11Mail_c m (by first | assumption | omega | (simp; done) | (simp; omega)) _) ?_)
    refine oX (w_not rfl rfl rfl ?_)
    refine xMv ?_
    refine r_split (d := 19) rfl (fun g2 => ?_) (fun g2 => ?_)
    · try simp only [sQ1, sQ2, sQ3, sQ4, sQ5, sQ6, sQ7, sQ8, ne_eq] at g2
      refine oX (w_pass rfl rfl ?_)
      refine oX (w_pass rfl rfl ?_)
      refine oX (w_pass rfl rfl ?_)
      refine oX (w_pass rfl rfl ?_)
      refine oX (w_pass rfl rfl ?_)
      refine oX (w_pass rfl rfl ?_)
      refine oX (w_pass rfl rfl ?_)
      refine oX (w_pass rfl rfl ?_)
      refine oX (w_pickT rfl rfl rfl rfl ?_)
      refine wKp [(0, _), (1, _), (3, _), (4, _), (9, _), (28, _)] ⟨rfl, rfl, rfl, rfl, rfl, rfl, trivial⟩ ?_
      refine wCd (t := true) rfl (fun _ => ?_) (fun h => Bool.noConfusion h)
      refine wSR ?_
      refine xAs ?_
      refine wKp [(0, _), (1, _), (2, _), (3, _), (4, _), (9, _), (28, _)] ⟨rfl, rfl, rfl, rfl, rfl, rfl, rfl, trivial⟩ ?_
      refine w_ret (thn_r (inB_r (thn_r (rndE_r (inB_r (thn_r ?_))))))
      exact end0 .ret (.inl rfl) [_] ⟨rfl, trivial⟩ ⟨bool_eq (boxOk_bad (scn_hit hm (by rw [show (scn mailP (fun _ m => m.uid) 0 (x.mail.take g.1)).2 = g.2 from congrArg Prod.snd hs]; simp [mailP, g2]))).symm, rfl, rfl⟩
    · try simp only [sQ1, sQ2, sQ3, sQ4, sQ5, sQ6, sQ7, sQ8, ne_eq] at g2
      refine oX (wFA rfl rfl fo47x1 rfl ?_)
      refine oX (w_load1 rfl rfl lk45 rfl (atL 0 rfl rfl rfl) ?_)
      refine xMv ?_
      refine oX (w_ixB rfl rfl Try.underlying45 sz93 rfl rfl (by first | omega | (simp; done) | (simp; omega)) (by first | omega | (simp; done) | (simp; omega)) ?_)
      refine oX (wFA rfl rfl fo93x0 rfl ?_)
      refine oX (w_load1 rfl rfl lk3 rfl (hc5 _ 0 _ rfl) ?_)
      refine xMv ?_
      refine oX (w_leq rfl rfl rfl rfl ?_)
      refine oX (w_pickF rfl rfl rfl rfl ?_)
      refine wKp [(0, _), (1, _), (3, _), (4, _), (9, _), (28, _)] ⟨rfl, rfl, rfl, rfl, rfl, rfl, trivial⟩ ?_
      refine wCd rfl (fun g3 => ?_) (fun g3 => ?_)
      · try simp only [sQ1, sQ2, sQ3, sQ4, sQ5, sQ6, sQ7, sQ8, ne_eq] at g3
        refine wSR ?_
        refine xAs ?_
        refine wKp [(0, _), (1, _), (2, _), (3, _), (4, _), (9, _), (28, _)] ⟨rfl, rfl, rfl, rfl, rfl, rfl, rfl, trivial⟩ ?_
        refine w_ret (thn_r (inB_r (thn_r (rndE_r (inB_r (thn_r ?_))))))
        exact end0 .ret (.inl rfl) [_] ⟨rfl, trivial⟩ ⟨bool_eq (boxOk_bad (scn_hit hm (by rw [show (scn mailP (fun _ m => m.uid) 0 (x.mail.take g.1)).2 = g.2 from congrArg Prod.snd hs]; simp [mailP, g2]; omega))).symm, rfl, rfl⟩
      · try simp only [sQ1, sQ2, sQ3, sQ4, sQ5, sQ6, sQ7, sQ8, ne_eq] at g3
        refine w_skip ?_
        refine thn_n ?_
        refine w_region ?_
        refine oX (wFA rfl rfl fo47x1 rfl ?_)
        refine oX (w_load1 rfl rfl lk45 rfl (atL 0 rfl rfl rfl) ?_)
        refine xMv ?_
        refine oX (w_ixB rfl rfl Try.underlying45 sz93 rfl rfl (by first | omega | (simp; done) | (simp; omega)) (by first | omega | (simp; done) | (simp; omega)) ?_)
        refine oX (wFA rfl rfl fo93x0 rfl ?_)
        refine oX (w_load1 rfl rfl lk3 rfl (hc5 _ 0 _ rfl) ?_)
        refine xAs ?_
        refine inB_n (thn_n ?_)
        refine w_region ?_
        refine xMv ?_
        refine oX (w_add rfl rfl rfl rfl (by first | exact wrI64 (by first | omega | (simp; done) | (simp; omega)) (by first | omega | (simp; done) | (simp; omega)) | rfl) ?_)
        refine xAs ?_
        exact rndE_n (g.1 + 1, m.uid) [0] (by first | omega | (simp only []; omega)) ⟨rfl, by omega, scn_step hm hs (by simp [mailP, g2]; omega), mailOk_uid g2⟩ ⟨rfl, rfl, rfl, rfl, trivial⟩ rfl
  · try simp only [sQ1, sQ2, sQ3, sQ4, sQ5, sQ6, sQ7, sQ8, ne_eq] at g1
    refine w_exit (thn_x (rndE_x (inB_hit (thn_n ?_))))
    refine wSR ?_
    refine oX (wFA rfl rfl fo47x0 rfl ?_)
    refine oX (w_load1 rfl rfl lk3 rfl (atL 0 rfl rfl rfl) ?_)
    refine xMv ?_
    refine oX (w_add rfl rfl rfl rfl (by first | exact wrI64 (by first | omega | (simp; done) | (simp; omega)) (by first | omega | (simp; done) | (simp; omega)) | rfl) ?_)
    refine oX (w_retB rfl rfl en39 rfl (l6In_c _ _ _ _) ?_)
    refine xMv ?_
    refine r_split (d := 40) rfl (fun g4 => ?_) (fun g4 => ?_)
    · try simp only [sQ1, sQ2, sQ3, sQ4, sQ5, sQ6, sQ7, sQ8, ne_eq] at g4
      refine oX (wFA rfl rfl fo47x1 rfl ?_)
      refine oX (w_load1 rfl rfl lk45 rfl (atL 0 rfl rfl rfl) ?_)
      refine oX (w_lenV rfl rfl Try.underlying45 rfl ?_)
      refine oX (w_leq rfl rfl rfl rfl ?_)
      refine oX (w_pickT rfl rfl rfl rfl ?_)
      refine xAs ?_
      refine wKp [(0, _), (1, _), (2, _), (3, _), (4, _), (9, _)] ⟨rfl, rfl, rfl, rfl, rfl, rfl, trivial⟩ ?_
      refine w_ret ?_
      exact end0 .ret (.inl rfl) [_] ⟨rfl, trivial⟩ ⟨bool_eq (by rw [boxOk_end (scn_end hs (by omega)), g4, Bool.true_and, Bool.eq_iff_iff]; simp; omega), rfl, rfl⟩
    · try simp only [sQ1, sQ2, sQ3, sQ4, sQ5, sQ6, sQ7, sQ8, ne_eq] at g4
      refine oX (w_pass rfl rfl ?_)
      refine oX (w_pass rfl rfl ?_)
      refine oX (w_pass rfl rfl ?_)
      refine oX (w_pass rfl rfl ?_)
      refine oX (w_pickF rfl rfl rfl rfl ?_)
      refine xAs ?_
      refine wKp [(0, _), (1, _), (2, _), (3, _), (4, _), (9, _)] ⟨rfl, rfl, rfl, rfl, rfl, rfl, trivial⟩ ?_
      refine w_ret ?_
      exact end0 .ret (.inl rfl) [_] ⟨rfl, trivial⟩ ⟨bool_eq (by rw [boxOk_end (scn_end hs (by omega)), g4, Bool.false_and]), rfl, rfl⟩

set_option maxRecDepth 4000 in
set_option maxHeartbeats 400000 in
theorem l11Size_c (q : Option Addr) (cp : Nat) (x : DBox) (B : Kn) (hx : SlK B q cp 3 MailR x.mail) : RetB (pj J) 44 [.agg #[.int .i64 x.next, .slice q x.mail.length cp]] B (.int .i64 (sizeMs x.mail)) := by
  refine cBB 22 Try.func44 rfl rfl rfl (Nat.le_of_ble_eq_true rfl) ?_
  have hxn := hx.len
  refine wSR ?_
  refine oX (w_box (l := [_, _]) rfl rfl rfl rfl (fun b1 => ?_))
  refine xAs ?_
  refine wTd [(0, _), (1, _), (2, _)] [_] ⟨rfl, rfl, rfl, trivial⟩ rfl ?_
  refine wSR ?_
  refine xAs ?_
  refine wKp [(0, _), (1, _), (2, _), (3, _)] ⟨rfl, rfl, rfl, rfl, trivial⟩ ?_
  refine w_seq ?_
  refine wSR ?_
  refine xAs ?_
  refine wKp [(0, _), (1, _), (2, _), (3, _), (4, _)] ⟨rfl, rfl, rfl, rfl, rfl, trivial⟩ ?_
  refine w_block ?_
  refine w_loopE (α := Nat × Nat) [0, 1, 2] (fun g => [(3, .int .i64 g.2), (4, .int .i64 g.1)]) [] (fun g => []) (fun g Bx => Bx = B ∧ g.1 ≤ x.mail.length ∧ g.2 = sizeMs (x.mail.take g.1) ∧ g.2 ≤ g.1 * 2000000) (fun g => x.mail.length - g.1) (0, 0) ⟨rfl, rfl, trivial⟩ rfl (⟨rfl, Nat.zero_le _, by simp [sizeMs], by omega⟩) (fun g B2 hle2 hI => ?_)
  obtain ⟨rfl, hk, hs, hl⟩ := hI
  refine wTd [(0, _), (1, _), (2, _), (3, _), (4, _)] [_] ⟨rfl, rfl, rfl, rfl, rfl, trivial⟩ rfl ?_
  refine w_seq ?_
  refine wSR ?_
  refine xMv ?_
  refine oX (wFA rfl rfl fo47x1 rfl ?_)
  refine oX (w_load1 rfl rfl lk45 rfl (atL 0 rfl rfl rfl) ?_)
  refine oX (w_lenV rfl rfl Try.underlying45 rfl ?_)
  refine oX (w_lss rfl rfl rfl rfl ?_)
  refine wKp [(0, _), (1, _), (2, _), (3, _), (4, _), (9, _)] ⟨rfl, rfl, rfl, rfl, rfl, rfl, trivial⟩ ?_
  refine wCd rfl (fun g1 => ?_) (fun g1 => ?_)
  · try simp only [sQ1, sQ2, sQ3, sQ4, sQ5, sQ6, sQ7, sQ8, ne_eq] at g1
    refine w_skip ?_
    refine thn_n ?_
    refine w_seq ?_
    refine w_block ?_
    refine w_region ?_
    refine xMv ?_
    refine oX (wFA rfl rfl fo47x1 rfl ?_)
    refine oX (w_load1 rfl rfl lk45 rfl (atL 0 rfl rfl rfl) ?_)
    refine xMv ?_
    obtain ⟨m, hm⟩ := getLt (xs := x.mail) (i := g.1) (by first | omega | (simp; done) | (simp; omega))
    obtain ⟨bb4, oo4, rfl⟩ := hx.base hm
    obtain ⟨_, ⟨rfl, hb5⟩, hc5⟩ := hx.elem hm
    refine oX (w_ixB rfl rfl Try.underlying45 sz93 rfl rfl (by first | omega | (simp; done) | (simp; omega)) (by first | omega | (simp; done) | (simp; omega)) ?_)
    refine oX (wFA rfl rfl fo93x2 rfl ?_)
    refine oX (w_load1 rfl rfl lk9 rfl (hc5 _ 2 _ rfl) ?_)
    refine oX (w_lenS rfl rfl Try.underlying9 rfl ?_)
    refine oX (w_add rfl rfl rfl rfl (by first | exact wrI64 (by first | omega | (simp; done) | (simp; omega)) (by first | omega | (simp; done) | (simp; omega)) | rfl) ?_)
    refine xAs ?_
    refine inB_n (thn_n ?_)
    refine w_region ?_
    refine xMv ?_
    refine oX (w_add rfl rfl rfl rfl (by first | exact wrI64 (by first | omega | (simp; done) | (simp; omega)) (by first | omega | (simp; done) | (simp; omega)) | rfl) ?_)
    refine xAs ?_
    exact rndE_n (g.1 + 1, g.2 + m.text.length) [0] (by first | omega | (simp only []; omega)) ⟨rfl, by omega, by rw [sizeMs_next hm, ← hs], by omega⟩ ⟨rfl, rfl, rfl, rfl, rfl, trivial⟩ rfl
  · try simp only [sQ1, sQ2, sQ3, sQ4, sQ5, sQ6, sQ7, sQ8, ne_eq] at g1
    refine w_exit (thn_x (rndE_x (inB_hit (thn_n ?_))))
    refine wSR ?_
    refine xMv ?_
    refine xAs ?_
    refine wKp [(0, _), (1, _), (2, _), (3, _), (4, _), (9, _)] ⟨rfl, rfl, rfl, rfl, rfl, rfl, trivial⟩ ?_
    refine w_ret ?_
    exact end0 .ret (.inl rfl) [_] ⟨rfl, trivial⟩ ⟨int_eq (by rw [← sizeMs_end hs (by omega)]), rfl, rfl⟩

set_option maxRecDepth 4000 in
set_option maxHeartbeats 400000 in
theorem userValid_c (u : DUser) (h1 : u.name.length ≤ 2000000) (h2 : u.pass.length ≤ 2000000) (B : Kn) : RetB (pj J) 20 [.agg #[str u.name, str u.pass, .int .i64 u.quota]] B (.bool (userOk u)) := by
  refine cBB 26 Try.func20 rfl rfl rfl (Nat.le_of_ble_eq_true rfl) ?_
  refine wSR ?_
  refine oX (w_box (l := [_, _, _]) rfl rfl rfl rfl (fun b1 => ?_))
  refine xAs ?_
  refine wTd [(0, _), (1, _), (2, _)] [_] ⟨rfl, rfl, rfl, trivial⟩ rfl ?_
  refine wSR ?_
  refine oX (wFA rfl rfl fo43x0 rfl ?_)
  refine oX (w_load1 rfl rfl lk9 rfl (atL 0 rfl rfl rfl) ?_)
  refine oX (w_retB rfl rfl en36 rfl (implName_c _ (by first | assumption | omega | (simp; done) | (simp; omega)) _) ?_)
  refine xMv ?_
  refine r_split (d := 6) rfl (fun g1 => ?_) (fun g1 => ?_)
  · try simp only [sQ1, sQ2, sQ3, sQ4, sQ5, sQ6, sQ7, sQ8, ne_eq] at g1
    refine oX (wFA rfl rfl fo43x0 rfl ?_)
    refine oX (w_load1 rfl rfl lk9 rfl (atL 0 rfl rfl rfl) ?_)
    refine oX (w_neqS rfl rfl rfl rfl ?_)
    refine oX (w_pickT rfl rfl rfl rfl ?_)
    refine xMv ?_
    refine r_split (d := 11) rfl (fun g2 => ?_) (fun g2 => ?_)
    · try simp only [sQ1, sQ2, sQ3, sQ4, sQ5, sQ6, sQ7, sQ8, ne_eq] at g2
      refine oX (wFA rfl rfl fo43x1 rfl ?_)
      refine oX (w_load1 rfl rfl lk9 rfl (atL 0 rfl rfl rfl) ?_)
      refine oX (w_retB rfl rfl en36 rfl (implName_c _ (by first | assumption | omega | (simp; done) | (simp; omega)) _) ?_)
      refine oX (w_pickT rfl rfl rfl rfl ?_)
      refine xMv ?_
      refine r_split (d := 16) rfl (fun g3 => ?_) (fun g3 => ?_)
      · try simp only [sQ1, sQ2, sQ3, sQ4, sQ5, sQ6, sQ7, sQ8, ne_eq] at g3
        refine oX (wFA rfl rfl fo43x2 rfl ?_)
        refine oX (w_load1 rfl rfl lk3 rfl (atL 0 rfl rfl rfl) ?_)
        refine oX (w_geq rfl rfl rfl rfl ?_)
        refine oX (w_pickT rfl rfl rfl rfl ?_)
        refine xMv ?_
        refine r_split (d := 21) rfl (fun g4 => ?_) (fun g4 => ?_)
        · try simp only [sQ1, sQ2, sQ3, sQ4, sQ5, sQ6, sQ7, sQ8, ne_eq] at g4
          refine oX (wFA rfl rfl fo43x2 rfl ?_)
          refine oX (w_load1 rfl rfl lk3 rfl (atL 0 rfl rfl rfl) ?_)
          refine oX (w_leq rfl rfl rfl rfl ?_)
          refine oX (w_pickT rfl rfl rfl rfl ?_)
          refine xAs ?_
          refine wKp [(0, _), (1, _), (2, _)] ⟨rfl, rfl, rfl, trivial⟩ ?_
          refine w_ret ?_
          exact end0 .ret (.inl rfl) [_] ⟨rfl, trivial⟩ ⟨bool_eq (by rw [Bool.eq_iff_iff]; simp [userOk, anyone, g1, g2, g3, g4]; try omega), rfl, rfl⟩
        · try simp only [sQ1, sQ2, sQ3, sQ4, sQ5, sQ6, sQ7, sQ8, ne_eq] at g4
          refine oX (w_pass rfl rfl ?_)
          refine oX (w_pass rfl rfl ?_)
          refine oX (w_pass rfl rfl ?_)
          refine oX (w_pickF rfl rfl rfl rfl ?_)
          refine xAs ?_
          refine wKp [(0, _), (1, _), (2, _)] ⟨rfl, rfl, rfl, trivial⟩ ?_
          refine w_ret ?_
          exact end0 .ret (.inl rfl) [_] ⟨rfl, trivial⟩ ⟨bool_eq (by rw [Bool.eq_iff_iff]; simp [userOk, anyone, g1, g2, g3, g4]; try omega), rfl, rfl⟩
      · try simp only [sQ1, sQ2, sQ3, sQ4, sQ5, sQ6, sQ7, sQ8, ne_eq] at g3
        refine oX (w_pass rfl rfl ?_)
        refine oX (w_pass rfl rfl ?_)
        refine oX (w_pass rfl rfl ?_)
        refine oX (w_pickF rfl rfl rfl rfl ?_)
        refine xMv ?_
        refine oX (w_pass rfl rfl ?_)
        refine oX (w_pass rfl rfl ?_)
        refine oX (w_pass rfl rfl ?_)
        refine oX (w_pickF rfl rfl rfl rfl ?_)
        refine xAs ?_
        refine wKp [(0, _), (1, _), (2, _)] ⟨rfl, rfl, rfl, trivial⟩ ?_
        refine w_ret ?_
        exact end0 .ret (.inl rfl) [_] ⟨rfl, trivial⟩ ⟨bool_eq (by rw [Bool.eq_iff_iff]; simp [userOk, anyone, g1, g2, g3]; try omega), rfl, rfl⟩
    · try simp only [sQ1, sQ2, sQ3, sQ4, sQ5, sQ6, sQ7, sQ8, ne_eq] at g2
      refine oX (w_pass rfl rfl ?_)
      refine oX (w_pass rfl rfl ?_)
      refine oX (w_pass rfl rfl ?_)
      refine oX (w_pickF rfl rfl rfl rfl ?_)
      refine xMv ?_
      refine oX (w_pass rfl rfl ?_)
      refine oX (w_pass rfl rfl ?_)
      refine oX (w_pass rfl rfl ?_)
      refine oX (w_pickF rfl rfl rfl rfl ?_)
      refine xMv ?_
      refine oX (w_pass rfl rfl ?_)
      refine oX (w_pass rfl rfl ?_)
      refine oX (w_pass rfl rfl ?_)
      refine oX (w_pickF rfl rfl rfl rfl ?_)
      refine xAs ?_
      refine wKp [(0, _), (1, _), (2, _)] ⟨rfl, rfl, rfl, trivial⟩ ?_
      refine w_ret ?_
      exact end0 .ret (.inl rfl) [_] ⟨rfl, trivial⟩ ⟨bool_eq (by rw [Bool.eq_iff_iff]; simp [userOk, anyone, g1, g2]; try omega), rfl, rfl⟩
  · try simp only [sQ1, sQ2, sQ3, sQ4, sQ5, sQ6, sQ7, sQ8, ne_eq] at g1
    refine oX (w_pass rfl rfl ?_)
    refine oX (w_pass rfl rfl ?_)
    refine oX (w_pass rfl rfl ?_)
    refine oX (w_pickF rfl rfl rfl rfl ?_)
    refine xMv ?_
    refine oX (w_pass rfl rfl ?_)
    refine oX (w_pass rfl rfl ?_)
    refine oX (w_pass rfl rfl ?_)
    refine oX (w_pickF rfl rfl rfl rfl ?_)
    refine xMv ?_
    refine oX (w_pass rfl rfl ?_)
    refine oX (w_pass rfl rfl ?_)
    refine oX (w_pass rfl rfl ?_)
    refine oX (w_pickF rfl rfl rfl rfl ?_)
    refine xMv ?_
    refine oX (w_pass rfl rfl ?_)
    refine oX (w_pass rfl rfl ?_)
    refine oX (w_pass rfl rfl ?_)
    refine oX (w_pickF rfl rfl rfl rfl ?_)
    refine xAs ?_
    refine wKp [(0, _), (1, _), (2, _)] ⟨rfl, rfl, rfl, trivial⟩ ?_
    refine w_ret ?_
    exact end0 .ret (.inl rfl) [_] ⟨rfl, trivial⟩ ⟨bool_eq (by rw [Bool.eq_iff_iff]; simp [userOk, anyone, g1]; try omega), rfl, rfl⟩

set_option maxRecDepth 4000 in
set_option maxHeartbeats 400000 in
theorem implUsers_c (q : Option Addr) (cp : Nat) (us : List DUser) (B : Kn) (hu : SlK B q cp 3 UserR us) : RetB (pj J) 9 [.slice q us.length cp] B (.bool (usersOk us)) := by
  refine cBB 32 Try.func9 rfl rfl rfl (Nat.le_of_ble_eq_true rfl) ?_
  have hun := hu.len
  refine wSR ?_
  refine xAs ?_
  refine wKp [(0, _), (2, _)] ⟨rfl, rfl, trivial⟩ ?_
  refine w_seq ?_
  refine wSR ?_
  refine xMv ?_
  refine oX (w_lenV rfl rfl Try.underlying23 rfl ?_)
  refine oX (w_lss rfl rfl rfl rfl ?_)
  refine xMv ?_
  refine r_split (d := 9) rfl (fun g0 => ?_) (fun g0 => ?_)
  · try simp only [sQ1, sQ2, sQ3, sQ4, sQ5, sQ6, sQ7, sQ8, ne_eq] at g0
    refine oX (w_pass rfl rfl ?_)
    refine oX (w_pass rfl rfl ?_)
    refine oX (w_pass rfl rfl ?_)
    refine oX (w_pickT rfl rfl rfl rfl ?_)
    refine wKp [(0, _), (2, _), (13, _)] ⟨rfl, rfl, rfl, trivial⟩ ?_
    refine wCd (t := true) rfl (fun _ => ?_) (fun h => Bool.noConfusion h)
    refine wSR ?_
    refine xAs ?_
    refine wKp [(0, _), (2, _), (13, _)] ⟨rfl, rfl, rfl, trivial⟩ ?_
    refine w_ret (thn_r ?_)
    exact end0 .ret (.inl rfl) [_] ⟨rfl, trivial⟩ ⟨bool_eq (by rw [Bool.eq_iff_iff]; simp [usersOk]; omega), rfl, rfl⟩
  · try simp only [sQ1, sQ2, sQ3, sQ4, sQ5, sQ6, sQ7, sQ8, ne_eq] at g0
    refine xMv ?_
    refine oX (w_lenV rfl rfl Try.underlying23 rfl ?_)
    refine oX (w_gtr rfl rfl rfl rfl ?_)
    refine oX (w_pickF rfl rfl rfl rfl ?_)
    refine wKp [(0, _), (2, _), (13, _)] ⟨rfl, rfl, rfl, trivial⟩ ?_
    refine wCd rfl (fun g0b => ?_) (fun g0b => ?_)
    · try simp only [sQ1, sQ2, sQ3, sQ4, sQ5, sQ6, sQ7, sQ8, ne_eq] at g0b
      refine wSR ?_
      refine xAs ?_
      refine wKp [(0, _), (2, _), (13, _)] ⟨rfl, rfl, rfl, trivial⟩ ?_
      refine w_ret (thn_r ?_)
      exact end0 .ret (.inl rfl) [_] ⟨rfl, trivial⟩ ⟨bool_eq (by rw [Bool.eq_iff_iff]; simp [usersOk]; omega), rfl, rfl⟩
    · try simp only [sQ1, sQ2, sQ3, sQ4, sQ5, sQ6, sQ7, sQ8, ne_eq] at g0b
      refine w_skip ?_
      refine thn_n ?_
      refine wSR ?_
      refine xAs ?_
      refine wKp [(0, _), (2, _), (3, _), (13, _)] ⟨rfl, rfl, rfl, rfl, trivial⟩ ?_
      refine w_seq ?_
      refine wSR ?_
      refine xMv ?_
      refine oX (w_lenV rfl rfl Try.underlying23 rfl ?_)
      refine xMv ?_
      refine wKp [(0, _), (2, _), (3, _), (13, _), (14, _), (15, _), (16, _)] ⟨rfl, rfl, rfl, rfl, rfl, rfl, rfl, trivial⟩ ?_
      refine w_block ?_
      refine w_loopE (α := Nat × Str) [0, 13, 14, 15] (fun g => [(3, str g.2), (16, .int .i64 g.1)]) [] (fun g => []) (fun g Bx => Bx = B ∧ g.1 ≤ us.length ∧ userScan (us.take g.1) = (true, g.2) ∧ g.2.length ≤ 2000000) (fun g => us.length - g.1) (0, []) ⟨rfl, rfl, trivial⟩ rfl (⟨rfl, Nat.zero_le _, scn_nil, by simp⟩) (fun g B1 hle1 hI => ?_)
      obtain ⟨rfl, hk, hs, hl⟩ := hI
      refine wTd [(0, _), (3, _), (13, _), (14, _), (15, _), (16, _)] [] ⟨rfl, rfl, rfl, rfl, rfl, rfl, trivial⟩ rfl ?_
      refine wSR ?_
      refine oX (w_lss rfl rfl rfl rfl ?_)
      refine wKp [(0, _), (3, _), (13, _), (14, _), (15, _), (16, _), (17, _)] ⟨rfl, rfl, rfl, rfl, rfl, rfl, rfl, trivial⟩ ?_
      refine w_seq ?_
      refine wCd rfl (fun g1 => ?_) (fun g1 => ?_)
      · try simp only [sQ1, sQ2, sQ3, sQ4, sQ5, sQ6, sQ7, sQ8, ne_eq] at g1
        refine w_skip ?_
        refine thn_n ?_
        refine w_seq ?_
        refine w_block ?_
        refine wSR ?_
        obtain ⟨m, hm⟩ := getLt (xs := us) (i := g.1) (by first | omega | (simp; done) | (simp; omega))
        obtain ⟨bb3, oo3, rfl⟩ := hu.base hm
        obtain ⟨_, ⟨rfl, hb4, hb4b⟩, hc4⟩ := hu.elem hm
        refine oX (w_ixB rfl rfl Try.underlying23 sz43 rfl rfl (by first | omega | (simp; done) | (simp; omega)) (by first | omega | (simp; done) | (simp; omega)) ?_)
        refine oX (w_loadN [_, _, _] rfl rfl lk43 rfl (rowK hc4 0 rfl rfl) ?_)
        refine oX (w_alloc (l := [_, _, _]) rfl rfl zo43 rfl (fun b5 => ?_))
        refine oX (w_store [_, _, _] 0 [_, _, _] rfl rfl sz43 rfl rfl rfl rfl rfl rfl rfl rfl ?_)
        refine wTd [(0, _), (3, _), (5, _), (13, _), (14, _), (15, _), (16, _), (17, _)] [_] ⟨rfl, rfl, rfl, rfl, rfl, rfl, rfl, rfl, trivial⟩ rfl ?_
        refine w_seq ?_
        refine wSR ?_
        refine oX (w_loadN [_, _, _] rfl rfl lk43 rfl (rowL 0 rfl rfl rfl) ?_)
        refine oX (w_retB rfl rfl en20 rfl (userValid_c m (by first | assumption | omega | (simp; done) | (simp; omega)) (by first | assumption | omega | (simp; done) | (simp; omega)) _) ?_)
        refine oX (w_not rfl rfl rfl ?_)
        refine xMv ?_
        refine r_split (d := 23) rfl (fun g2 => ?_) (fun g2 => ?_)
        · try simp only [sQ1, sQ2, sQ3, sQ4, sQ5, sQ6, sQ7, sQ8, ne_eq] at g2
          refine oX (w_pass rfl rfl ?_)
          refine oX (w_pass rfl rfl ?_)
          refine oX (w_pass rfl rfl ?_)
          refine oX (w_pass rfl rfl ?_)
          refine oX (w_pickT rfl rfl rfl rfl ?_)
          refine wKp [(0, _), (3, _), (5, _), (13, _), (14, _), (15, _), (16, _), (17, _), (28, _)] ⟨rfl, rfl, rfl, rfl, rfl, rfl, rfl, rfl, rfl, trivial⟩ ?_
          refine wCd (t := true) rfl (fun _ => ?_) (fun h => Bool.noConfusion h)
          refine wSR ?_
          refine xAs ?_
          refine wKp [(0, _), (2, _), (3, _), (5, _), (13, _), (14, _), (15, _), (16, _), (17, _), (28, _)] ⟨rfl, rfl, rfl, rfl, rfl, rfl, rfl, rfl, rfl, rfl, trivial⟩ ?_
          refine w_ret (thn_r (inB_r (thn_r (rndE_r (inB_r (thn_r ?_))))))
          exact end0 .ret (.inl rfl) [_] ⟨rfl, trivial⟩ ⟨bool_eq (usersOk_bad (scn_hit hm (by rw [show (scn userP (fun _ u => u.name) [] (us.take g.1)).2 = g.2 from congrArg Prod.snd hs]; simp [userP, g2]))).symm, rfl, rfl⟩
        · try simp only [sQ1, sQ2, sQ3, sQ4, sQ5, sQ6, sQ7, sQ8, ne_eq] at g2
          refine oX (wFA rfl rfl fo43x0 rfl ?_)
          refine oX (w_load1 rfl rfl lk9 rfl (atL 0 rfl rfl rfl) ?_)
          refine xMv ?_
          refine oX (w_leqS rfl rfl rfl rfl ?_)
          refine oX (w_pickF rfl rfl rfl rfl ?_)
          refine wKp [(0, _), (3, _), (5, _), (13, _), (14, _), (15, _), (16, _), (17, _), (28, _)] ⟨rfl, rfl, rfl, rfl, rfl, rfl, rfl, rfl, rfl, trivial⟩ ?_
          refine wCd rfl (fun g3 => ?_) (fun g3 => ?_)
          · try simp only [sQ1, sQ2, sQ3, sQ4, sQ5, sQ6, sQ7, sQ8, ne_eq] at g3
            refine wSR ?_
            refine xAs ?_
            refine wKp [(0, _), (2, _), (3, _), (5, _), (13, _), (14, _), (15, _), (16, _), (17, _), (28, _)] ⟨rfl, rfl, rfl, rfl, rfl, rfl, rfl, rfl, rfl, rfl, trivial⟩ ?_
            refine w_ret (thn_r (inB_r (thn_r (rndE_r (inB_r (thn_r ?_))))))
            exact end0 .ret (.inl rfl) [_] ⟨rfl, trivial⟩ ⟨bool_eq (usersOk_bad (scn_hit hm (by rw [show (scn userP (fun _ u => u.name) [] (us.take g.1)).2 = g.2 from congrArg Prod.snd hs, userP, less_total g.2 m.name, g3]; simp))).symm, rfl, rfl⟩
          · try simp only [sQ1, sQ2, sQ3, sQ4, sQ5, sQ6, sQ7, sQ8, ne_eq] at g3
            refine w_skip ?_
            refine thn_n ?_
            refine w_region ?_
            refine oX (wFA rfl rfl fo43x0 rfl ?_)
            refine oX (w_load1 rfl rfl lk9 rfl (atL 0 rfl rfl rfl) ?_)
            refine xAs ?_
            refine inB_n (thn_n ?_)
            refine w_region ?_
            refine oX (w_add rfl rfl rfl rfl (by first | exact wrI64 (by first | omega | (simp; done) | (simp; omega)) (by first | omega | (simp; done) | (simp; omega)) | rfl) ?_)
            refine xMv ?_
            exact rndE_n (g.1 + 1, m.name) [] (by first | omega | (simp only []; omega)) ⟨rfl, by omega, scn_step hm hs (by rw [userP, less_total g.2 m.name, g2, g3]; rfl), by assumption⟩ ⟨rfl, rfl, rfl, rfl, rfl, rfl, trivial⟩ rfl
      · try simp only [sQ1, sQ2, sQ3, sQ4, sQ5, sQ6, sQ7, sQ8, ne_eq] at g1
        refine w_exit (thn_x (rndE_x (inB_hit (thn_n ?_))))
        refine wSR ?_
        refine xAs ?_
        refine wKp [(0, _), (2, _), (3, _), (13, _), (14, _), (15, _), (16, _), (17, _)] ⟨rfl, rfl, rfl, rfl, rfl, rfl, rfl, rfl, trivial⟩ ?_
        refine w_ret ?_
        exact end0 .ret (.inl rfl) [_] ⟨rfl, trivial⟩ ⟨bool_eq (by rw [usersOk_end (scn_end hs (by omega)), Bool.eq_iff_iff]; simp; omega), rfl, rfl⟩

set_option maxRecDepth 4000 in
set_option maxHeartbeats 400000 in
theorem l31Find_c (q1 q2 q3 : Option Addr) (c1 c2 c3 : Nat) (x : DHost) (ow nm : Str) (ho : ow.length ≤ 2000000) (hn : nm.length ≤ 2000000) (B : Kn) (hf : SlK B q2 c2 5 FolderR x.folders) : RetB (pj J) 28 [.agg #[str x.domain, .slice q1 x.users.length c1, .slice q2 x.folders.length c2, .int .i64 x.queue.next, .slice q3 x.queue.items.length c3], str ow, str nm] B (.int .i64 (idxP (inF ow nm) x.folders)) := by
  refine cBB 34 Try.func28 rfl rfl rfl (Nat.le_of_ble_eq_true rfl) ?_
  have hfn := hf.len
  refine wSR ?_
  refine oX (w_box (l := [_, _, _, _, _]) rfl rfl rfl rfl (fun b1 => ?_))
  refine xAs ?_
  refine wTd [(0, _), (1, _), (2, _), (3, _), (6, _)] [_] ⟨rfl, rfl, rfl, rfl, rfl, trivial⟩ rfl ?_
  refine w_seq ?_
  refine wSR ?_
  refine xAs ?_
  refine wKp [(0, _), (1, _), (2, _), (3, _), (6, _), (7, _)] ⟨rfl, rfl, rfl, rfl, rfl, rfl, trivial⟩ ?_
  refine w_block ?_
  refine w_loopE (α := Nat) [0, 1, 2, 3] (fun k => [(7, .int .i64 k)]) [] (fun k => []) (fun k Bx => Bx = B ∧ k ≤ x.folders.length ∧ ∀ y, y ∈ x.folders.take k → inF ow nm y = false) (fun k => x.folders.length - k) 0 ⟨rfl, trivial⟩ rfl (⟨rfl, Nat.zero_le _, by simp⟩) (fun k B2 hle2 hI => ?_)
  obtain ⟨rfl, hk, ha⟩ := hI
  refine wTd [(0, _), (1, _), (2, _), (3, _), (7, _)] [_] ⟨rfl, rfl, rfl, rfl, rfl, trivial⟩ rfl ?_
  refine w_seq ?_
  refine wSR ?_
  refine xMv ?_
  refine oX (wFA rfl rfl fo31x2 rfl ?_)
  refine oX (w_load1 rfl rfl lk26 rfl (atL 0 rfl rfl rfl) ?_)
  refine oX (w_lenV rfl rfl Try.underlying26 rfl ?_)
  refine oX (w_lss rfl rfl rfl rfl ?_)
  refine wKp [(0, _), (1, _), (2, _), (3, _), (7, _), (12, _)] ⟨rfl, rfl, rfl, rfl, rfl, rfl, trivial⟩ ?_
  refine wCd rfl (fun g1 => ?_) (fun g1 => ?_)
  · try simp only [sQ1, sQ2, sQ3, sQ4, sQ5, sQ6, sQ7, sQ8, ne_eq] at g1
    refine w_skip ?_
    refine thn_n ?_
    refine w_seq ?_
    refine w_block ?_
    refine wSR ?_
    refine oX (wFA rfl rfl fo31x2 rfl ?_)
    refine oX (w_load1 rfl rfl lk26 rfl (atL 0 rfl rfl rfl) ?_)
    refine xMv ?_
    obtain ⟨y, hy⟩ := getLt (xs := x.folders) (i := k) (by first | omega | (simp; done) | (simp; omega))
    obtain ⟨bb4, oo4, rfl⟩ := hf.base hy
    obtain ⟨_, ⟨qg5, cg5, qm5, cm5, rfl, hg5, hm5, hb5, hb5b⟩, hc5⟩ := hf.elem hy
    have hg5n := hg5.len
    have hm5n := hm5.len
    have hm5s := sizeMs_le hm5
    refine oX (w_ixB rfl rfl Try.underlying26 sz49 rfl rfl (by first | omega | (simp; done) | (simp; omega)) (by first | omega | (simp; done) | (simp; omega)) ?_)
    refine oX (wFA rfl rfl fo49x0 rfl ?_)
    refine oX (w_load1 rfl rfl lk9 rfl (hc5 _ 0 _ rfl) ?_)
    refine xMv ?_
    refine oX (w_eqlS rfl rfl rfl rfl ?_)
    refine xMv ?_
    refine r_split (d := 23) rfl (fun g2 => ?_) (fun g2 => ?_)
    · try simp only [sQ1, sQ2, sQ3, sQ4, sQ5, sQ6, sQ7, sQ8, ne_eq] at g2
      refine oX (wFA rfl rfl fo31x2 rfl ?_)
      refine oX (w_load1 rfl rfl lk26 rfl (atL 0 rfl rfl rfl) ?_)
      refine xMv ?_
      refine oX (w_ixB rfl rfl Try.underlying26 sz49 rfl rfl (by first | omega | (simp; done) | (simp; omega)) (by first | omega | (simp; done) | (simp; omega)) ?_)
      refine oX (wFA rfl rfl fo49x1 rfl ?_)
      refine oX (w_load1 rfl rfl lk9 rfl (hc5 _ 1 _ rfl) ?_)
      refine xMv ?_
      refine oX (w_eqlS rfl rfl rfl rfl ?_)
      refine oX (w_pickT rfl rfl rfl rfl ?_)
      refine wKp [(0, _), (1, _), (2, _), (3, _), (7, _), (12, _), (32, _)] ⟨rfl, rfl, rfl, rfl, rfl, rfl, rfl, trivial⟩ ?_
      refine wCd rfl (fun g3 => ?_) (fun g3 => ?_)
      · try simp only [sQ1, sQ2, sQ3, sQ4, sQ5, sQ6, sQ7, sQ8, ne_eq] at g3
        refine wSR ?_
        refine xMv ?_
        refine xAs ?_
        refine wKp [(0, _), (1, _), (2, _), (3, _), (6, _), (7, _), (12, _), (32, _)] ⟨rfl, rfl, rfl, rfl, rfl, rfl, rfl, rfl, trivial⟩ ?_
        refine w_ret (inB_r (thn_r (rndE_r (inB_r (thn_r ?_)))))
        exact end0 .ret (.inl rfl) [_] ⟨rfl, trivial⟩ ⟨int_eq (idxP_hit hy (by simp [inF, g2, g3]) ha).symm, rfl, rfl⟩
      · try simp only [sQ1, sQ2, sQ3, sQ4, sQ5, sQ6, sQ7, sQ8, ne_eq] at g3
        refine w_skip ?_
        refine inB_n (thn_n ?_)
        refine w_region ?_
        refine xMv ?_
        refine oX (w_add rfl rfl rfl rfl (by first | exact wrI64 (by first | omega | (simp; done) | (simp; omega)) (by first | omega | (simp; done) | (simp; omega)) | rfl) ?_)
        refine xAs ?_
        exact rndE_n (k + 1) [0] (by first | omega | (simp only []; omega)) ⟨rfl, by omega, all_next hy ha (by simp [inF, g2, g3])⟩ ⟨rfl, rfl, rfl, rfl, rfl, trivial⟩ rfl
    · try simp only [sQ1, sQ2, sQ3, sQ4, sQ5, sQ6, sQ7, sQ8, ne_eq] at g2
      refine oX (w_pass rfl rfl ?_)
      refine oX (w_pass rfl rfl ?_)
      refine oX (w_pass rfl rfl ?_)
      refine oX (w_pass rfl rfl ?_)
      refine oX (w_pass rfl rfl ?_)
      refine oX (w_pass rfl rfl ?_)
      refine oX (w_pass rfl rfl ?_)
      refine oX (w_pass rfl rfl ?_)
      refine oX (w_pickF rfl rfl rfl rfl ?_)
      refine wKp [(0, _), (1, _), (2, _), (3, _), (7, _), (12, _), (32, _)] ⟨rfl, rfl, rfl, rfl, rfl, rfl, rfl, trivial⟩ ?_
      refine wCd (t := false) rfl (fun h => Bool.noConfusion h) (fun _ => ?_)
      refine w_skip ?_
      refine inB_n (thn_n ?_)
      refine w_region ?_
      refine xMv ?_
      refine oX (w_add rfl rfl rfl rfl (by first | exact wrI64 (by first | omega | (simp; done) | (simp; omega)) (by first | omega | (simp; done) | (simp; omega)) | rfl) ?_)
      refine xAs ?_
      exact rndE_n (k + 1) [0] (by first | omega | (simp only []; omega)) ⟨rfl, by omega, all_next hy ha (by simp [inF, g2])⟩ ⟨rfl, rfl, rfl, rfl, rfl, trivial⟩ rfl
  · try simp only [sQ1, sQ2, sQ3, sQ4, sQ5, sQ6, sQ7, sQ8, ne_eq] at g1
    refine w_exit (thn_x (rndE_x (inB_hit (thn_n ?_))))
    refine wSR ?_
    refine xAs ?_
    refine wKp [(0, _), (1, _), (2, _), (3, _), (6, _), (7, _), (12, _)] ⟨rfl, rfl, rfl, rfl, rfl, rfl, rfl, trivial⟩ ?_
    refine w_ret ?_
    exact end0 .ret (.inl rfl) [_] ⟨rfl, trivial⟩ ⟨int_eq (idxP_none (take_end (by omega) ha)).symm, rfl, rfl⟩

set_option maxRecDepth 4000 in
set_option maxHeartbeats 400000 in
theorem l31Less_c (f g : DFolder) (qa qb qc qd : Option Addr) (ca cb cc cd : Nat) (B : Kn) : RetB (pj J) 43 [.agg #[str f.owner, str f.name, .slice qa f.grants.length ca, .int .i64 f.next, .slice qb f.mail.length cb], .agg #[str g.owner, str g.name, .slice qc g.grants.length cc, .int .i64 g.next, .slice qd g.mail.length cd]] B (.bool (lessF f g)) := by
  refine cBB 24 Try.func43 rfl rfl rfl (Nat.le_of_ble_eq_true rfl) ?_
  refine wSR ?_
  refine oX (w_box (l := [_, _, _, _, _]) rfl rfl rfl rfl (fun b1 => ?_))
  refine oX (w_box (l := [_, _, _, _, _]) rfl rfl rfl rfl (fun b2 => ?_))
  refine xAs ?_
  refine wTd [(0, _), (1, _), (2, _), (3, _), (4, _)] [_, _] ⟨rfl, rfl, rfl, rfl, rfl, trivial⟩ rfl ?_
  refine wSR ?_
  refine oX (wFA rfl rfl fo49x0 rfl ?_)
  refine oX (w_load1 rfl rfl lk9 rfl (atL 0 rfl rfl rfl) ?_)
  refine oX (wFA rfl rfl fo49x0 rfl ?_)
  refine oX (w_load1 rfl rfl lk9 rfl (atL 1 rfl rfl rfl) ?_)
  refine oX (w_lssS rfl rfl rfl rfl ?_)
  refine xMv ?_
  refine r_split (d := 10) rfl (fun g1 => ?_) (fun g1 => ?_)
  · try simp only [sQ1, sQ2, sQ3, sQ4, sQ5, sQ6, sQ7, sQ8, ne_eq] at g1
    refine oX (w_pass rfl rfl ?_)
    refine oX (w_pass rfl rfl ?_)
    refine oX (w_pass rfl rfl ?_)
    refine oX (w_pass rfl rfl ?_)
    refine oX (w_pass rfl rfl ?_)
    refine oX (w_pass rfl rfl ?_)
    refine oX (w_pass rfl rfl ?_)
    refine oX (w_pass rfl rfl ?_)
    refine oX (w_pass rfl rfl ?_)
    refine oX (w_pass rfl rfl ?_)
    refine oX (w_pass rfl rfl ?_)
    refine oX (w_pass rfl rfl ?_)
    refine oX (w_pickT rfl rfl rfl rfl ?_)
    refine xAs ?_
    refine wKp [(0, _), (1, _), (2, _), (3, _), (4, _)] ⟨rfl, rfl, rfl, rfl, rfl, trivial⟩ ?_
    refine w_ret ?_
    exact end0 .ret (.inl rfl) [_] ⟨rfl, trivial⟩ ⟨bool_eq (by rw [Bool.eq_iff_iff]; simp [lessF, less_irr, g1]), rfl, rfl⟩
  · try simp only [sQ1, sQ2, sQ3, sQ4, sQ5, sQ6, sQ7, sQ8, ne_eq] at g1
    refine oX (wFA rfl rfl fo49x0 rfl ?_)
    refine oX (w_load1 rfl rfl lk9 rfl (atL 0 rfl rfl rfl) ?_)
    refine oX (wFA rfl rfl fo49x0 rfl ?_)
    refine oX (w_load1 rfl rfl lk9 rfl (atL 1 rfl rfl rfl) ?_)
    refine oX (w_eqlS rfl rfl rfl rfl ?_)
    refine xMv ?_
    refine r_split (d := 16) rfl (fun g2 => ?_) (fun g2 => ?_)
    · try simp only [sQ1, sQ2, sQ3, sQ4, sQ5, sQ6, sQ7, sQ8, ne_eq] at g2
      refine oX (wFA rfl rfl fo49x1 rfl ?_)
      refine oX (w_load1 rfl rfl lk9 rfl (atL 0 rfl rfl rfl) ?_)
      refine oX (wFA rfl rfl fo49x1 rfl ?_)
      refine oX (w_load1 rfl rfl lk9 rfl (atL 1 rfl rfl rfl) ?_)
      refine oX (w_lssS rfl rfl rfl rfl ?_)
      refine oX (w_pickT rfl rfl rfl rfl ?_)
      refine oX (w_pickF rfl rfl rfl rfl ?_)
      refine xAs ?_
      refine wKp [(0, _), (1, _), (2, _), (3, _), (4, _)] ⟨rfl, rfl, rfl, rfl, rfl, trivial⟩ ?_
      refine w_ret ?_
      exact end0 .ret (.inl rfl) [_] ⟨rfl, trivial⟩ ⟨bool_eq (by rw [Bool.eq_iff_iff]; simp [lessF, less_irr, g1, g2]), rfl, rfl⟩
    · try simp only [sQ1, sQ2, sQ3, sQ4, sQ5, sQ6, sQ7, sQ8, ne_eq] at g2
      refine oX (w_pass rfl rfl ?_)
      refine oX (w_pass rfl rfl ?_)
      refine oX (w_pass rfl rfl ?_)
      refine oX (w_pass rfl rfl ?_)
      refine oX (w_pass rfl rfl ?_)
      refine oX (w_pickF rfl rfl rfl rfl ?_)
      refine oX (w_pickF rfl rfl rfl rfl ?_)
      refine xAs ?_
      refine wKp [(0, _), (1, _), (2, _), (3, _), (4, _)] ⟨rfl, rfl, rfl, rfl, rfl, trivial⟩ ?_
      refine w_ret ?_
      exact end0 .ret (.inl rfl) [_] ⟨rfl, trivial⟩ ⟨bool_eq (by rw [Bool.eq_iff_iff]; simp [lessF, less_irr, g1, g2]), rfl, rfl⟩

end Go.Proofs.Ytjechkhbcnpmfaa
