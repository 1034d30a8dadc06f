/-
  WHAT THE FUNCTIONS THAT THE LAWS REACH COMPUTE: each function's contract, proved off its printed body (the text is written by program). No condition beyond those that each theorem states.
-/
import Derived.Test.YtgbecfimpgknnaaGreatC0
namespace Go.Proofs.YtgbecfimpgknnaaGreat
open Go Go.BL
set_option linter.unusedVariables false
set_option linter.unusedSimpArgs false
variable {J : JoinT}
set_option maxRecDepth 4000 in
set_option maxHeartbeats 400000 in
theorem heapDown_c (b : Nat) (q : Option Addr) (cp : Nat) (xs : List Int) (l : Cells) (m : Nat) (hm : m ≤ xs.length) (hm0 : 0 < xs.length) (hn : xs.length ≤ 2000000) (hh : DownBut xs m 0) (B : Kn) (hv : VecR B l q cp 3 1 IntR xs) : CallsB (pj J) 202 [.iface 187 (ptr ⟨b, 0, none⟩), .int .i64 0, .int .i64 m] B [box1 b [.slice q xs.length cp] 188, l] (fun v B' Ls => B' = B ∧ ∃ ys l', Ls = [box1 b [.slice q ys.length cp] 188, l'] ∧ VecR B l' q cp 3 1 IntR ys ∧ ys.Perm xs ∧ HeapN ys m ∧ (∀ k, m ≤ k → hat ys k = hat xs k)) := by
  refine cBB 48 Tryz.func202 rfl rfl rfl (Nat.le_of_ble_eq_true rfl) ?_
  refine wSR ?_
  refine xAs ?_
  refine wKp [(0, _), (1, _), (2, _), (6, _)] ⟨rfl, rfl, rfl, rfl, trivial⟩ ?_
  refine wSR ?_
  refine xMv ?_
  refine xAs ?_
  refine wKp [(0, _), (1, _), (2, _), (6, _), (7, _)] ⟨rfl, rfl, rfl, rfl, rfl, trivial⟩ ?_
  refine w_seq ?_
  refine w_block ?_
  refine w_loopE (α := Nat × List Int × Cells) [0, 1, 2, 6] (fun g => [(7, .int .i64 g.1)]) [0, 1] (fun g => [box1 b [.slice q g.2.1.length cp] 188, g.2.2]) (fun g Bx => Bx = B ∧ g.1 < g.2.1.length ∧ g.2.1.Perm xs ∧ DownBut g.2.1 m g.1 ∧ (∀ k, m ≤ k → hat g.2.1 k = hat xs k) ∧ VecR B g.2.2 q cp 3 1 IntR g.2.1) (fun g => xs.length - g.1) (0, xs, l) ⟨rfl, trivial⟩ rfl (⟨rfl, hm0, .refl _, hh, fun _ _ => rfl, hv⟩) (fun g B1 hle1 hI => ?_)
  obtain ⟨rfl, hk, hp, hb, hs, hv⟩ := hI
  have hpl := hp.length_eq
  refine wTd [(0, _), (1, _), (2, _), (6, _), (7, _)] [_, _] ⟨rfl, rfl, rfl, rfl, rfl, trivial⟩ rfl ?_
  refine w_block ?_
  refine wSR ?_
  refine xMv ?_
  refine oX (w_mul (r := ((2 * g.1 : Nat) : Int)) rfl rfl rfl rfl ((congrArg _ (show _ = ((2 * g.1 : Nat) : Int) from by omega)).trans (wrI64 (by omega) (by omega))) ?_)
  refine oX (w_add (r := ((2 * g.1 + 1 : Nat) : Int)) rfl rfl rfl rfl ((congrArg _ (show _ = ((2 * g.1 + 1 : Nat) : Int) from by omega)).trans (wrI64 (by omega) (by omega))) ?_)
  refine xAs ?_
  refine wKp [(0, _), (1, _), (2, _), (6, _), (7, _), (8, _)] ⟨rfl, rfl, rfl, rfl, rfl, rfl, trivial⟩ ?_
  refine w_seq ?_
  refine wSR ?_
  refine xMv ?_
  refine xMv ?_
  refine oX (w_geq rfl rfl rfl rfl ?_)
  refine xMv ?_
  refine r_split (d := 18) rfl (fun g1 => ?_) (fun g1 => ?_)
  · try simp only [sQ1, sQ2, sQ3, sQ4, sQ5, sQ6, sQ7, sQ8, ne_eq] at g1
    refine oX (w_pass rfl rfl ?_)
    refine oX (w_pass rfl rfl ?_)
    refine oX (w_pickT rfl rfl rfl rfl ?_)
    refine wKp [(0, _), (1, _), (2, _), (6, _), (7, _), (8, _), (21, _)] ⟨rfl, rfl, rfl, rfl, rfl, rfl, rfl, trivial⟩ ?_
    refine wCd (t := true) rfl (fun _ => ?_) (fun h => Bool.noConfusion h)
    refine w_exit (thn_x (inB_miss rfl (rndE_x (inB_hit (thn_n ?_)))))
    refine wSR ?_
    refine xMv ?_
    refine xMv ?_
    refine oX (w_gtr rfl rfl rfl rfl ?_)
    refine xAs ?_
    refine wKp [(0, _), (1, _), (2, _), (6, _), (7, _), (8, _), (21, _)] ⟨rfl, rfl, rfl, rfl, rfl, rfl, rfl, trivial⟩ ?_
    refine w_ret ?_
    exact endN .ret (.inl rfl) [_] [0, 1] rfl ⟨rfl, trivial⟩ ⟨rfl, _, _, rfl, hv, hp, down_leaf hb (by omega), hs⟩
  · try simp only [sQ1, sQ2, sQ3, sQ4, sQ5, sQ6, sQ7, sQ8, ne_eq] at g1
    refine xMv ?_
    refine oX (w_lss rfl rfl rfl rfl ?_)
    refine oX (w_pickF rfl rfl rfl rfl ?_)
    refine wKp [(0, _), (1, _), (2, _), (6, _), (7, _), (8, _), (21, _)] ⟨rfl, rfl, rfl, rfl, rfl, rfl, rfl, trivial⟩ ?_
    refine wCd rfl (fun g2 => by have := of_decide_eq_true g2; omega) (fun g2 => ?_)
    try simp only [sQ1, sQ2, sQ3, sQ4, sQ5, sQ6, sQ7, sQ8, ne_eq] at g2
    refine w_skip ?_
    refine thn_n ?_
    refine wSR ?_
    refine xMv ?_
    refine xAs ?_
    refine wKp [(0, _), (1, _), (2, _), (6, _), (7, _), (8, _), (9, _), (21, _)] ⟨rfl, rfl, rfl, rfl, rfl, rfl, rfl, rfl, trivial⟩ ?_
    refine w_seq ?_
    refine wSR ?_
    refine xMv ?_
    refine oX (w_add (r := ((2 * g.1 + 1 + 1 : Nat) : Int)) rfl rfl rfl rfl ((congrArg _ (show _ = ((2 * g.1 + 1 + 1 : Nat) : Int) from by omega)).trans (wrI64 (by omega) (by omega))) ?_)
    refine xAs ?_
    refine wKp [(0, _), (1, _), (2, _), (6, _), (7, _), (8, _), (9, _), (10, _), (21, _)] ⟨rfl, rfl, rfl, rfl, rfl, rfl, rfl, rfl, rfl, trivial⟩ ?_
    refine wSR ?_
    refine xMv ?_
    refine xMv ?_
    refine oX (w_lss rfl rfl rfl rfl ?_)
    refine xMv ?_
    refine r_split (d := 28) rfl (fun g3 => ?_) (fun g3 => ?_)
    · try simp only [sQ1, sQ2, sQ3, sQ4, sQ5, sQ6, sQ7, sQ8, ne_eq] at g3
      refine xMv ?_
      refine xMv ?_
      refine xMv ?_
      refine oX (w_invR1 1 rfl rfl rfl en269 rfl rfl (found_val mth187Less Tryz.underlying187 lk188 (atL 0 rfl rfl rfl)) (RetB.borrow fun hm2 => idLess_c _ _ _ _ _ _ _ (get_hat (by omega)) (get_hat (by omega)) _ (hv.lend IntR.mono hm2 (by first | omega | (simp; done) | (simp; omega)))) ?_)
      refine oX (w_pickT rfl rfl rfl rfl ?_)
      refine wKp [(0, _), (1, _), (2, _), (6, _), (7, _), (8, _), (9, _), (10, _), (21, _), (33, _)] ⟨rfl, rfl, rfl, rfl, rfl, rfl, rfl, rfl, rfl, rfl, trivial⟩ ?_
      refine wCd rfl (fun g4 => ?_) (fun g4 => ?_)
      · try simp only [sQ1, sQ2, sQ3, sQ4, sQ5, sQ6, sQ7, sQ8, ne_eq] at g4
        refine w_region ?_
        refine xMv ?_
        refine xAs ?_
        refine thn_n ?_
        refine w_seq ?_
        refine wSR ?_
        refine xMv ?_
        refine xMv ?_
        refine xMv ?_
        refine oX (w_invR1 1 rfl rfl rfl en269 rfl rfl (found_val mth187Less Tryz.underlying187 lk188 (atL 0 rfl rfl rfl)) (RetB.borrow fun hm3 => idLess_c _ _ _ _ _ _ _ (get_hat (by omega)) (get_hat (by omega)) _ (hv.lend IntR.mono hm3 (by first | omega | (simp; done) | (simp; omega)))) ?_)
        refine oX (w_not rfl rfl rfl ?_)
        refine wKp [(0, _), (1, _), (2, _), (6, _), (7, _), (8, _), (9, _), (10, _), (21, _), (33, _), (39, _)] ⟨rfl, rfl, rfl, rfl, rfl, rfl, rfl, rfl, rfl, rfl, rfl, trivial⟩ ?_
        refine wCd rfl (fun g5 => ?_) (fun g5 => ?_)
        · try simp only [sQ1, sQ2, sQ3, sQ4, sQ5, sQ6, sQ7, sQ8, ne_eq] at g5
          refine w_exit (thn_x (inB_miss rfl (rndE_x (inB_hit (thn_n ?_)))))
          refine wSR ?_
          refine xMv ?_
          refine xMv ?_
          refine oX (w_gtr rfl rfl rfl rfl ?_)
          refine xAs ?_
          refine wKp [(0, _), (1, _), (2, _), (6, _), (7, _), (8, _), (9, _), (10, _), (21, _), (33, _), (39, _)] ⟨rfl, rfl, rfl, rfl, rfl, rfl, rfl, rfl, rfl, rfl, rfl, trivial⟩ ?_
          refine w_ret ?_
          exact endN .ret (.inl rfl) [_] [0, 1] rfl ⟨rfl, trivial⟩ ⟨rfl, _, _, rfl, hv, hp, down_done hb (by intro k h0 hk he; (try simp only [decide_eq_true_eq, decide_eq_false_iff_not, Bool.not_eq_true', Bool.not_eq_false', Int.not_lt] at *); rcases (show k = 2 * g.1 + 1 ∨ k = 2 * g.1 + 1 + 1 from by omega) with rfl | rfl <;> omega), hs⟩
        · try simp only [sQ1, sQ2, sQ3, sQ4, sQ5, sQ6, sQ7, sQ8, ne_eq] at g5
          refine w_skip ?_
          refine thn_n ?_
          refine wSR ?_
          refine xMv ?_
          refine xMv ?_
          refine xMv ?_
          refine oX (w_invN [1] rfl rfl rfl rfl en272 rfl rfl (found_val mth187Swap Tryz.underlying187 lk188 (atL 0 rfl rfl rfl)) (idSwap_c _ _ _ _ _ _ _ _ (get_hat (by omega)) (get_hat (by omega)) (by omega) _ hv) ?_)
          rintro _ _ _ hle4 ⟨rfl, l4, rfl, hv4⟩
          refine wTd [(0, _), (1, _), (2, _), (6, _), (7, _), (8, _), (9, _), (10, _), (21, _), (33, _), (39, _)] [_, _] ⟨rfl, rfl, rfl, rfl, rfl, rfl, rfl, rfl, rfl, rfl, rfl, trivial⟩ rfl ?_
          refine w_region ?_
          refine xMv ?_
          refine xAs ?_
          refine inB_n ?_
          rw [← swp_len g.2.1 g.1 (2 * g.1 + 1 + 1)]
          have h5 : hat g.2.1 (2 * g.1 + 1 + 1) < hat g.2.1 g.1 := by simpa using g5
          exact rndE_n (2 * g.1 + 1 + 1, (swp g.2.1 g.1 (2 * g.1 + 1 + 1)), l4) [0, 1] (by simp only []; omega) ⟨rfl, by have := swp_len g.2.1 g.1 (2 * g.1 + 1 + 1); simp only []; omega, (swp_perm (by omega) (by omega)).trans hp, down_step (by omega) (by omega) (by omega) (by omega) hb (by intro k h0 hk he; (try simp only [decide_eq_true_eq, decide_eq_false_iff_not, Bool.not_eq_true', Bool.not_eq_false', Int.not_lt] at *); rcases (show k = 2 * g.1 + 1 ∨ k = 2 * g.1 + 1 + 1 from by omega) with rfl | rfl <;> omega) h5, (fun k hk => by rw [hat_swp (by omega) (by omega), if_neg (by omega), if_neg (by omega)]; exact hs k hk), hv4⟩ ⟨rfl, rfl, rfl, rfl, rfl, trivial⟩ rfl
      · try simp only [sQ1, sQ2, sQ3, sQ4, sQ5, sQ6, sQ7, sQ8, ne_eq] at g4
        refine w_skip ?_
        refine thn_n ?_
        refine w_seq ?_
        refine wSR ?_
        refine xMv ?_
        refine xMv ?_
        refine xMv ?_
        refine oX (w_invR1 1 rfl rfl rfl en269 rfl rfl (found_val mth187Less Tryz.underlying187 lk188 (atL 0 rfl rfl rfl)) (RetB.borrow fun hm5 => idLess_c _ _ _ _ _ _ _ (get_hat (by omega)) (get_hat (by omega)) _ (hv.lend IntR.mono hm5 (by first | omega | (simp; done) | (simp; omega)))) ?_)
        refine oX (w_not rfl rfl rfl ?_)
        refine wKp [(0, _), (1, _), (2, _), (6, _), (7, _), (8, _), (9, _), (10, _), (21, _), (33, _), (39, _)] ⟨rfl, rfl, rfl, rfl, rfl, rfl, rfl, rfl, rfl, rfl, rfl, trivial⟩ ?_
        refine wCd rfl (fun g5 => ?_) (fun g5 => ?_)
        · try simp only [sQ1, sQ2, sQ3, sQ4, sQ5, sQ6, sQ7, sQ8, ne_eq] at g5
          refine w_exit (thn_x (inB_miss rfl (rndE_x (inB_hit (thn_n ?_)))))
          refine wSR ?_
          refine xMv ?_
          refine xMv ?_
          refine oX (w_gtr rfl rfl rfl rfl ?_)
          refine xAs ?_
          refine wKp [(0, _), (1, _), (2, _), (6, _), (7, _), (8, _), (9, _), (10, _), (21, _), (33, _), (39, _)] ⟨rfl, rfl, rfl, rfl, rfl, rfl, rfl, rfl, rfl, rfl, rfl, trivial⟩ ?_
          refine w_ret ?_
          exact endN .ret (.inl rfl) [_] [0, 1] rfl ⟨rfl, trivial⟩ ⟨rfl, _, _, rfl, hv, hp, down_done hb (by intro k h0 hk he; (try simp only [decide_eq_true_eq, decide_eq_false_iff_not, Bool.not_eq_true', Bool.not_eq_false', Int.not_lt] at *); rcases (show k = 2 * g.1 + 1 ∨ k = 2 * g.1 + 1 + 1 from by omega) with rfl | rfl <;> omega), hs⟩
        · try simp only [sQ1, sQ2, sQ3, sQ4, sQ5, sQ6, sQ7, sQ8, ne_eq] at g5
          refine w_skip ?_
          refine thn_n ?_
          refine wSR ?_
          refine xMv ?_
          refine xMv ?_
          refine xMv ?_
          refine oX (w_invN [1] rfl rfl rfl rfl en272 rfl rfl (found_val mth187Swap Tryz.underlying187 lk188 (atL 0 rfl rfl rfl)) (idSwap_c _ _ _ _ _ _ _ _ (get_hat (by omega)) (get_hat (by omega)) (by omega) _ hv) ?_)
          rintro _ _ _ hle6 ⟨rfl, l6, rfl, hv6⟩
          refine wTd [(0, _), (1, _), (2, _), (6, _), (7, _), (8, _), (9, _), (10, _), (21, _), (33, _), (39, _)] [_, _] ⟨rfl, rfl, rfl, rfl, rfl, rfl, rfl, rfl, rfl, rfl, rfl, trivial⟩ rfl ?_
          refine w_region ?_
          refine xMv ?_
          refine xAs ?_
          refine inB_n ?_
          rw [← swp_len g.2.1 g.1 (2 * g.1 + 1)]
          have h5 : hat g.2.1 (2 * g.1 + 1) < hat g.2.1 g.1 := by simpa using g5
          exact rndE_n (2 * g.1 + 1, (swp g.2.1 g.1 (2 * g.1 + 1)), l6) [0, 1] (by simp only []; omega) ⟨rfl, by have := swp_len g.2.1 g.1 (2 * g.1 + 1); simp only []; omega, (swp_perm (by omega) (by omega)).trans hp, down_step (by omega) (by omega) (by omega) (by omega) hb (by intro k h0 hk he; (try simp only [decide_eq_true_eq, decide_eq_false_iff_not, Bool.not_eq_true', Bool.not_eq_false', Int.not_lt] at *); rcases (show k = 2 * g.1 + 1 ∨ k = 2 * g.1 + 1 + 1 from by omega) with rfl | rfl <;> omega) h5, (fun k hk => by rw [hat_swp (by omega) (by omega), if_neg (by omega), if_neg (by omega)]; exact hs k hk), hv6⟩ ⟨rfl, rfl, rfl, rfl, rfl, trivial⟩ rfl
    · try simp only [sQ1, sQ2, sQ3, sQ4, sQ5, sQ6, sQ7, sQ8, ne_eq] at g3
      refine oX (w_pass rfl rfl ?_)
      refine oX (w_pass rfl rfl ?_)
      refine oX (w_pass rfl rfl ?_)
      refine oX (w_pass rfl rfl ?_)
      refine oX (w_pickF rfl rfl rfl rfl ?_)
      refine wKp [(0, _), (1, _), (2, _), (6, _), (7, _), (8, _), (9, _), (10, _), (21, _), (33, _)] ⟨rfl, rfl, rfl, rfl, rfl, rfl, rfl, rfl, rfl, rfl, trivial⟩ ?_
      refine wCd (t := false) rfl (fun h => Bool.noConfusion h) (fun _ => ?_)
      refine w_skip ?_
      refine thn_n ?_
      refine w_seq ?_
      refine wSR ?_
      refine xMv ?_
      refine xMv ?_
      refine xMv ?_
      refine oX (w_invR1 1 rfl rfl rfl en269 rfl rfl (found_val mth187Less Tryz.underlying187 lk188 (atL 0 rfl rfl rfl)) (RetB.borrow fun hm7 => idLess_c _ _ _ _ _ _ _ (get_hat (by omega)) (get_hat (by omega)) _ (hv.lend IntR.mono hm7 (by first | omega | (simp; done) | (simp; omega)))) ?_)
      refine oX (w_not rfl rfl rfl ?_)
      refine wKp [(0, _), (1, _), (2, _), (6, _), (7, _), (8, _), (9, _), (10, _), (21, _), (33, _), (39, _)] ⟨rfl, rfl, rfl, rfl, rfl, rfl, rfl, rfl, rfl, rfl, rfl, trivial⟩ ?_
      refine wCd rfl (fun g5 => ?_) (fun g5 => ?_)
      · try simp only [sQ1, sQ2, sQ3, sQ4, sQ5, sQ6, sQ7, sQ8, ne_eq] at g5
        refine w_exit (thn_x (inB_miss rfl (rndE_x (inB_hit (thn_n ?_)))))
        refine wSR ?_
        refine xMv ?_
        refine xMv ?_
        refine oX (w_gtr rfl rfl rfl rfl ?_)
        refine xAs ?_
        refine wKp [(0, _), (1, _), (2, _), (6, _), (7, _), (8, _), (9, _), (10, _), (21, _), (33, _), (39, _)] ⟨rfl, rfl, rfl, rfl, rfl, rfl, rfl, rfl, rfl, rfl, rfl, trivial⟩ ?_
        refine w_ret ?_
        exact endN .ret (.inl rfl) [_] [0, 1] rfl ⟨rfl, trivial⟩ ⟨rfl, _, _, rfl, hv, hp, down_done hb (by intro k h0 hk he; (try simp only [decide_eq_true_eq, decide_eq_false_iff_not, Bool.not_eq_true', Bool.not_eq_false', Int.not_lt] at *); rcases (show k = 2 * g.1 + 1 ∨ k = 2 * g.1 + 1 + 1 from by omega) with rfl | rfl <;> omega), hs⟩
      · try simp only [sQ1, sQ2, sQ3, sQ4, sQ5, sQ6, sQ7, sQ8, ne_eq] at g5
        refine w_skip ?_
        refine thn_n ?_
        refine wSR ?_
        refine xMv ?_
        refine xMv ?_
        refine xMv ?_
        refine oX (w_invN [1] rfl rfl rfl rfl en272 rfl rfl (found_val mth187Swap Tryz.underlying187 lk188 (atL 0 rfl rfl rfl)) (idSwap_c _ _ _ _ _ _ _ _ (get_hat (by omega)) (get_hat (by omega)) (by omega) _ hv) ?_)
        rintro _ _ _ hle8 ⟨rfl, l8, rfl, hv8⟩
        refine wTd [(0, _), (1, _), (2, _), (6, _), (7, _), (8, _), (9, _), (10, _), (21, _), (33, _), (39, _)] [_, _] ⟨rfl, rfl, rfl, rfl, rfl, rfl, rfl, rfl, rfl, rfl, rfl, trivial⟩ rfl ?_
        refine w_region ?_
        refine xMv ?_
        refine xAs ?_
        refine inB_n ?_
        rw [← swp_len g.2.1 g.1 (2 * g.1 + 1)]
        have h5 : hat g.2.1 (2 * g.1 + 1) < hat g.2.1 g.1 := by simpa using g5
        exact rndE_n (2 * g.1 + 1, (swp g.2.1 g.1 (2 * g.1 + 1)), l8) [0, 1] (by simp only []; omega) ⟨rfl, by have := swp_len g.2.1 g.1 (2 * g.1 + 1); simp only []; omega, (swp_perm (by omega) (by omega)).trans hp, down_step (by omega) (by omega) (by omega) (by omega) hb (by intro k h0 hk he; (try simp only [decide_eq_true_eq, decide_eq_false_iff_not, Bool.not_eq_true', Bool.not_eq_false', Int.not_lt] at *); rcases (show k = 2 * g.1 + 1 ∨ k = 2 * g.1 + 1 + 1 from by omega) with rfl | rfl <;> omega) h5, (fun k hk => by rw [hat_swp (by omega) (by omega), if_neg (by omega), if_neg (by omega)]; exact hs k hk), hv8⟩ ⟨rfl, rfl, rfl, rfl, rfl, trivial⟩ rfl

set_option maxRecDepth 4000 in
set_option maxHeartbeats 400000 in
theorem heapPop_c (b : Nat) (q : Option Addr) (cp : Nat) (xs : List Int) (l : Cells) (hm0 : 0 < xs.length) (hn : xs.length ≤ 2000000) (hh : IsHeap xs) (B : Kn) (hv : VecR B l q cp 3 1 IntR xs) : CallsB (pj J) 155 [.iface 187 (ptr ⟨b, 0, none⟩)] B [box1 b [.slice q xs.length cp] 188, l] (fun v B' Ls => B' = B ∧ v = .iface 3 (.int .i64 (hat xs 0)) ∧ ∃ ys l', Ls = [box1 b [.slice q ys.length cp] 188, l'] ∧ VecR B l' q cp 3 1 IntR ys ∧ (hat xs 0 :: ys).Perm xs ∧ IsHeap ys) := by
  refine cBB 15 Tryz.func155 rfl rfl rfl (Nat.le_of_ble_eq_true rfl) ?_
  refine wSR ?_
  refine xAs ?_
  refine wKp [(0, _), (2, _)] ⟨rfl, rfl, trivial⟩ ?_
  refine wSR ?_
  refine xMv ?_
  refine oX (w_invR1 1 rfl rfl rfl en268 rfl rfl (found_val mth187Len Tryz.underlying187 lk188 (atL 0 rfl rfl rfl)) (RetB.borrow fun hm1 => idLen_c _ _ _ _) ?_)
  refine oX (w_sub (r := ((xs.length - 1 : Nat) : Int)) rfl rfl rfl rfl ((congrArg _ (show _ = ((xs.length - 1 : Nat) : Int) from by omega)).trans (wrI64 (by omega) (by omega))) ?_)
  refine xAs ?_
  refine wKp [(0, _), (2, _), (3, _)] ⟨rfl, rfl, rfl, trivial⟩ ?_
  refine wSR ?_
  refine xMv ?_
  refine xMv ?_
  refine oX (w_invN [1] rfl rfl rfl rfl en272 rfl rfl (found_val mth187Swap Tryz.underlying187 lk188 (atL 0 rfl rfl rfl)) (idSwap_c _ _ _ _ _ _ _ _ (get_hat (by omega)) (get_hat (by omega)) (by omega) _ hv) ?_)
  rintro _ _ _ hles ⟨rfl, ls, rfl, hvs⟩
  refine wTd [(0, _), (2, _), (3, _)] [_, _] ⟨rfl, rfl, rfl, trivial⟩ rfl ?_
  obtain ⟨zs, hzs, hzl⟩ : ∃ zs, zs = swp xs 0 (xs.length - 1) ∧ zs.length = xs.length := ⟨_, rfl, swp_len _ _ _⟩
  have hzz := hvs
  change VecR _ _ _ _ _ _ _ (swp xs 0 (xs.length - 1)) at hzz
  rw [← hzs] at hzz
  have hdb : DownBut zs (zs.length - 1) 0 := by rw [hzl, hzs]; exact pop_but hh hm0
  have hlz : hat zs (zs.length - 1) = hat xs 0 := by rw [hzl, hzs]; exact swp_last hm0
  have hpz : zs.Perm xs := hzs ▸ swp_perm hm0 (by omega)
  rw [← hzl]
  refine wSR ?_
  refine xMv ?_
  refine xMv ?_
  refine oX (w_callN [0, 1] rfl rfl rfl rfl en202 rfl (heapDown_c _ _ _ _ _ _ (by omega) (by omega) (by omega) hdb _ hzz) ?_)
  rintro _ _ _ hled ⟨rfl, ysd, ld, rfl, hvd, hpd, hhd, hsd⟩
  refine wTd [(0, _), (2, _), (3, _)] [_, _] ⟨rfl, rfl, rfl, trivial⟩ rfl ?_
  have hdl := hpd.length_eq
  refine wSR ?_
  refine xMv ?_
  refine oX (w_invN [0, 1] rfl rfl rfl rfl en270 rfl rfl (found_ptr mth187Pop Tryz.underlying187) (idPop_c _ _ _ _ _ _ (get_hat (by omega)) (by omega) _ hvd) ?_)
  rintro _ _ _ hleo ⟨rfl, rfl, rfl, hvo⟩
  refine xAs ?_
  refine wTd [(0, _), (2, _), (3, _)] [_, _] ⟨rfl, rfl, rfl, trivial⟩ rfl ?_
  refine w_ret ?_
  have hz9 : hat ysd (ysd.length - 1) = hat xs 0 := by rw [hsd _ (by omega), hdl]; exact hlz
  exact endN .ret (.inl rfl) [_] [0, 1] rfl ⟨rfl, trivial⟩ ⟨rfl, by rw [hz9]; rfl, _, _, by rw [show (ysd.take (ysd.length - 1)).length = ysd.length - 1 from by simp], hvo, pop_perm (by omega) (hpd.trans hpz) hz9, heapN_take (by rw [hdl]; exact hhd) (by omega)⟩

set_option maxRecDepth 4000 in
set_option maxHeartbeats 400000 in
theorem idsAscend_c (q : Option Addr) (cp : Nat) (xs : List DItem) (last : Int) (B : Kn) (ha : SlK B q cp 4 ItemR xs) : RetB (pj J) 110 [.slice q xs.length cp, .int .i64 last] B (.bool (asc 0 last (xs.map (·.id)))) := by
  refine cBB 53 Tryz.func110 rfl rfl rfl (Nat.le_of_ble_eq_true rfl) ?_
  have hxn := ha.len
  refine wSR ?_
  refine xAs ?_
  refine wKp [(0, _), (1, _), (4, _)] ⟨rfl, rfl, rfl, trivial⟩ ?_
  refine wSR ?_
  refine oX (wBS (parts := []) [] rfl rfl Tryz.underlying126 sz3 zo3 rfl rfl rfl rfl rfl (fun b1 => ?_))
  refine oX (w_box (l := [_]) rfl rfl rfl rfl (fun b2 => ?_))
  refine xAs ?_
  refine wTd [(0, _), (1, _), (4, _), (5, _)] [_, _] ⟨rfl, rfl, rfl, rfl, trivial⟩ rfl ?_
  refine w_seq ?_
  refine wSR ?_
  refine xMv ?_
  refine oX (w_lenV rfl rfl Tryz.underlying27 rfl ?_)
  refine xMv ?_
  refine wKp [(0, _), (1, _), (4, _), (5, _), (14, _), (15, _), (16, _)] ⟨rfl, rfl, rfl, rfl, rfl, rfl, rfl, trivial⟩ ?_
  refine w_block ?_
  refine w_loopE (α := Gh Int) [0, 1, 4, 5, 14, 15] (fun g => [(16, .int .i64 g.k)]) [0, 1] (fun g => [g.l, box1 b2 [.slice g.a g.xs.length g.c] 188]) (fun g Bx => Bx = B ∧ g.k ≤ xs.length ∧ g.xs.Perm ((xs.take g.k).map (·.id)) ∧ IsHeap g.xs ∧ VecR Bx g.l g.a g.c 3 1 IntR g.xs) (fun g => xs.length - g.k) ⟨0, 0, _, _, _, []⟩ ⟨rfl, trivial⟩ rfl (⟨rfl, Nat.zero_le _, .refl _, heap_nil, .lit0⟩) (fun g B3 hle3 hI => ?_)
  obtain ⟨rfl, hk, hp, hh, hv⟩ := hI
  have hpl := hp.length_eq
  rw [List.length_map, List.length_take] at hpl
  refine wTd [(0, _), (1, _), (4, _), (5, _), (14, _), (15, _), (16, _)] [_, _] ⟨rfl, rfl, rfl, rfl, rfl, rfl, rfl, trivial⟩ rfl ?_
  refine wSR ?_
  refine oX (w_lss rfl rfl rfl rfl ?_)
  refine wKp [(0, _), (1, _), (4, _), (5, _), (14, _), (15, _), (16, _), (17, _)] ⟨rfl, rfl, rfl, rfl, rfl, rfl, rfl, rfl, trivial⟩ ?_
  refine w_seq ?_
  refine wCd rfl (fun g1 => ?_) (fun g1 => ?_)
  · try simp only [sQ1, sQ2, sQ3, sQ4, sQ5, sQ6, sQ7, sQ8, ne_eq] at g1
    refine w_skip ?_
    refine thn_n ?_
    refine w_seq ?_
    refine w_block ?_
    refine wSR ?_
    obtain ⟨x, hx⟩ := getLt (xs := xs) (i := g.k) (by first | omega | (simp; done) | (simp; omega))
    obtain ⟨bb5, oo5, rfl⟩ := ha.base hx
    obtain ⟨_, ⟨qi6, ci6, rfl, hi6, hb6, hb6b⟩, hc6⟩ := ha.elem hx
    have hi6n := hi6.len
    refine oX (w_ixB rfl rfl Tryz.underlying27 sz100 rfl rfl (by first | omega | (simp; done) | (simp; omega)) (by first | omega | (simp; done) | (simp; omega)) ?_)
    refine oX (w_loadN [_, _, _, _] rfl rfl lk100 rfl (rowK hc6 0 rfl rfl) ?_)
    refine oX (w_alloc (l := [_, _, _, _]) rfl rfl zo100 rfl (fun b7 => ?_))
    refine oX (w_store [_, _, _, _] 2 [_, _, _, _] rfl rfl sz100 rfl rfl rfl rfl rfl rfl rfl rfl ?_)
    refine wTd [(0, _), (1, _), (4, _), (5, _), (7, _), (14, _), (15, _), (16, _), (17, _)] [_, _, _] ⟨rfl, rfl, rfl, rfl, rfl, rfl, rfl, rfl, rfl, trivial⟩ rfl ?_
    refine w_region ?_
    refine xMv ?_
    refine oX (w_makeIface rfl rfl Tryz.underlying187 rfl rfl ?_)
    refine oX (wFA rfl rfl fo100x0 rfl ?_)
    refine oX (w_load1 rfl rfl lk3 rfl (atL 2 rfl rfl rfl) ?_)
    refine oX (w_makeIface rfl rfl Tryz.underlying3 rfl rfl ?_)
    refine oX (w_callN [1, 0] rfl rfl rfl rfl en154 rfl (heapPush_c _ _ _ _ _ _ (by omega) hh _ hv) ?_)
    rintro _ _ _ hlep ⟨rfl, qp, cp, ysp, lp, rfl, hvp, hpp, hhp⟩
    refine inB_n (thn_n ?_)
    refine w_region ?_
    refine oX (w_add rfl rfl rfl rfl (by first | exact wrI64 (by first | omega | (simp; done) | (simp; omega)) (by first | omega | (simp; done) | (simp; omega)) | rfl) ?_)
    refine xMv ?_
    exact rndE_n ⟨g.k + 1, 0, lp, _, _, ysp⟩ [0, 1] (by first | omega | (simp only []; omega)) ⟨rfl, by simp only []; omega, by simp only []; rw [take_snoc hx, List.map_append]; exact hpp.trans (hp.append_right _), hhp, hvp⟩ ⟨rfl, rfl, rfl, rfl, rfl, rfl, rfl, trivial⟩ rfl
  · try simp only [sQ1, sQ2, sQ3, sQ4, sQ5, sQ6, sQ7, sQ8, ne_eq] at g1
    have hxe : xs.take g.k = xs := List.take_of_length_le (by omega)
    rw [hxe] at hp
    refine w_exit (thn_x (rndE_x (inB_hit (thn_n ?_))))
    refine wSR ?_
    refine xAs ?_
    refine wKp [(0, _), (1, _), (4, _), (5, _), (8, _), (14, _), (15, _), (16, _), (17, _)] ⟨rfl, rfl, rfl, rfl, rfl, rfl, rfl, rfl, rfl, trivial⟩ ?_
    refine w_seq ?_
    refine wSR ?_
    refine xMv ?_
    refine oX (w_lenV rfl rfl Tryz.underlying27 rfl ?_)
    refine xMv ?_
    refine wKp [(0, _), (1, _), (4, _), (5, _), (8, _), (14, _), (15, _), (16, _), (17, _), (27, _), (28, _), (29, _)] ⟨rfl, rfl, rfl, rfl, rfl, rfl, rfl, rfl, rfl, rfl, rfl, rfl, trivial⟩ ?_
    refine w_block ?_
    refine w_loopE (α := Gh2 Int Int) [0, 1, 5, 14, 15, 16, 17, 27, 28] (fun h => [(8, .int .i64 h.e), (29, .int .i64 h.k)]) [0, 1] (fun h => [h.l, box1 b2 [.slice h.a h.xs.length h.c] 188]) (fun h Bx => Bx = B3 ∧ h.k ≤ xs.length ∧ h.xs.Perm ((xs.drop h.k).map (·.id)) ∧ IsHeap h.xs ∧ asc 0 last (xs.map (·.id)) = asc h.e last ((xs.drop h.k).map (·.id)) ∧ VecR Bx h.l h.a h.c 3 1 IntR h.xs) (fun h => xs.length - h.k) ⟨0, 0, g.l, g.a, g.c, g.xs, 0⟩ ⟨rfl, rfl, trivial⟩ rfl (⟨rfl, Nat.zero_le _, hp, hh, rfl, hv⟩) (fun h B9 hle9 hI => ?_)
    clear hv hp hpl hh
    obtain ⟨rfl, hk, hp, hh, hs, hv⟩ := hI
    have hpl := hp.length_eq
    rw [List.length_map, List.length_drop] at hpl
    refine wTd [(0, _), (1, _), (5, _), (8, _), (14, _), (15, _), (16, _), (17, _), (27, _), (28, _), (29, _)] [_, _] ⟨rfl, rfl, rfl, rfl, rfl, rfl, rfl, rfl, rfl, rfl, rfl, trivial⟩ rfl ?_
    refine wSR ?_
    refine oX (w_lss rfl rfl rfl rfl ?_)
    refine wKp [(0, _), (1, _), (5, _), (8, _), (14, _), (15, _), (16, _), (17, _), (27, _), (28, _), (29, _), (30, _)] ⟨rfl, rfl, rfl, rfl, rfl, rfl, rfl, rfl, rfl, rfl, rfl, rfl, trivial⟩ ?_
    refine w_seq ?_
    refine wCd rfl (fun g2 => ?_) (fun g2 => ?_)
    · try simp only [sQ1, sQ2, sQ3, sQ4, sQ5, sQ6, sQ7, sQ8, ne_eq] at g2
      refine w_skip ?_
      refine thn_n ?_
      refine w_seq ?_
      refine w_block ?_
      refine wSR ?_
      obtain ⟨x, hx⟩ := getLt (xs := xs) (i := h.k) (by first | omega | (simp; done) | (simp; omega))
      obtain ⟨bb11, oo11, rfl⟩ := ha.base hx
      obtain ⟨_, ⟨qi12, ci12, rfl, hi12, hb12, hb12b⟩, hc12⟩ := ha.elem hx
      have hi12n := hi12.len
      refine oX (w_ixB rfl rfl Tryz.underlying27 sz100 rfl rfl (by first | omega | (simp; done) | (simp; omega)) (by first | omega | (simp; done) | (simp; omega)) ?_)
      rw [dropCons hx, List.map_cons] at hp hs
      refine oX (w_loadN [_, _, _, _] rfl rfl lk100 rfl (rowK hc12 0 rfl rfl) ?_)
      refine oX (w_alloc (l := [_, _, _, _]) rfl rfl zo100 rfl (fun b13 => ?_))
      refine oX (w_store [_, _, _, _] 2 [_, _, _, _] rfl rfl sz100 rfl rfl rfl rfl rfl rfl rfl rfl ?_)
      refine wTd [(0, _), (1, _), (5, _), (8, _), (10, _), (14, _), (15, _), (16, _), (17, _), (27, _), (28, _), (29, _), (30, _)] [_, _, _] ⟨rfl, rfl, rfl, rfl, rfl, rfl, rfl, rfl, rfl, rfl, rfl, rfl, rfl, trivial⟩ rfl ?_
      refine wSR ?_
      refine xMv ?_
      refine oX (w_makeIface rfl rfl Tryz.underlying187 rfl rfl ?_)
      refine oX (w_callN [1, 0] rfl rfl rfl rfl en155 rfl (heapPop_c _ _ _ _ _ (by omega) (by omega) hh _ hv) ?_)
      rintro _ _ _ hleo ⟨rfl, rfl, yso, lo, rfl, hvo, hpo, hho⟩
      refine oX (w_assertT rfl rfl Tryz.underlying3 rfl rfl ?_)
      refine xAs ?_
      refine wTd [(0, _), (1, _), (5, _), (8, _), (10, _), (11, _), (14, _), (15, _), (16, _), (17, _), (27, _), (28, _), (29, _), (30, _)] [_, _, _] ⟨rfl, rfl, rfl, rfl, rfl, rfl, rfl, rfl, rfl, rfl, rfl, rfl, rfl, rfl, trivial⟩ rfl ?_
      refine w_seq ?_
      refine wSR ?_
      refine xMv ?_
      refine oX (wFA rfl rfl fo100x0 rfl ?_)
      refine oX (w_load1 rfl rfl lk3 rfl (atL 2 rfl rfl rfl) ?_)
      refine oX (w_neqI rfl rfl rfl rfl ?_)
      refine xMv ?_
      refine r_split (d := 41) rfl (fun g3 => ?_) (fun g3 => ?_)
      · try simp only [sQ1, sQ2, sQ3, sQ4, sQ5, sQ6, sQ7, sQ8, ne_eq] at g3
        refine oX (w_pass rfl rfl ?_)
        refine oX (w_pass rfl rfl ?_)
        refine oX (w_pass rfl rfl ?_)
        refine oX (w_pickT rfl rfl rfl rfl ?_)
        refine xMv ?_
        refine oX (w_pass rfl rfl ?_)
        refine oX (w_pass rfl rfl ?_)
        refine oX (w_pass rfl rfl ?_)
        refine oX (w_pickT rfl rfl rfl rfl ?_)
        refine wKp [(0, _), (1, _), (5, _), (8, _), (10, _), (11, _), (14, _), (15, _), (16, _), (17, _), (27, _), (28, _), (29, _), (30, _), (50, _)] ⟨rfl, rfl, rfl, rfl, rfl, rfl, rfl, rfl, rfl, rfl, rfl, rfl, rfl, rfl, rfl, trivial⟩ ?_
        refine wCd (t := true) rfl (fun _ => ?_) (fun h => Bool.noConfusion h)
        refine wSR ?_
        refine xAs ?_
        refine wKp [(0, _), (1, _), (4, _), (5, _), (8, _), (10, _), (11, _), (14, _), (15, _), (16, _), (17, _), (27, _), (28, _), (29, _), (30, _), (50, _)] ⟨rfl, rfl, rfl, rfl, rfl, rfl, rfl, rfl, rfl, rfl, rfl, rfl, rfl, rfl, rfl, rfl, trivial⟩ ?_
        refine w_ret (thn_r (inB_r (thn_r (rndE_r (inB_r (thn_r ?_))))))
        exact end0 .ret (.inl rfl) [_] ⟨rfl, trivial⟩ ⟨bool_eq (by rw [hs]; exact asc_bad1 hp hh (by simpa using g3)), rfl, rfl⟩
      · try simp only [sQ1, sQ2, sQ3, sQ4, sQ5, sQ6, sQ7, sQ8, ne_eq] at g3
        refine xMv ?_
        refine xMv ?_
        refine oX (w_leq rfl rfl rfl rfl ?_)
        refine oX (w_pickF rfl rfl rfl rfl ?_)
        refine xMv ?_
        refine r_split (d := 46) rfl (fun g4 => ?_) (fun g4 => ?_)
        · try simp only [sQ1, sQ2, sQ3, sQ4, sQ5, sQ6, sQ7, sQ8, ne_eq] at g4
          refine oX (w_pass rfl rfl ?_)
          refine oX (w_pass rfl rfl ?_)
          refine oX (w_pass rfl rfl ?_)
          refine oX (w_pickT rfl rfl rfl rfl ?_)
          refine wKp [(0, _), (1, _), (5, _), (8, _), (10, _), (11, _), (14, _), (15, _), (16, _), (17, _), (27, _), (28, _), (29, _), (30, _), (50, _)] ⟨rfl, rfl, rfl, rfl, rfl, rfl, rfl, rfl, rfl, rfl, rfl, rfl, rfl, rfl, rfl, trivial⟩ ?_
          refine wCd (t := true) rfl (fun _ => ?_) (fun h => Bool.noConfusion h)
          refine wSR ?_
          refine xAs ?_
          refine wKp [(0, _), (1, _), (4, _), (5, _), (8, _), (10, _), (11, _), (14, _), (15, _), (16, _), (17, _), (27, _), (28, _), (29, _), (30, _), (50, _)] ⟨rfl, rfl, rfl, rfl, rfl, rfl, rfl, rfl, rfl, rfl, rfl, rfl, rfl, rfl, rfl, rfl, trivial⟩ ?_
          refine w_ret (thn_r (inB_r (thn_r (rndE_r (inB_r (thn_r ?_))))))
          exact end0 .ret (.inl rfl) [_] ⟨rfl, trivial⟩ ⟨bool_eq (by rw [hs]; exact asc_bad2 (by rw [← g3]; simpa using g4)), rfl, rfl⟩
        · try simp only [sQ1, sQ2, sQ3, sQ4, sQ5, sQ6, sQ7, sQ8, ne_eq] at g4
          refine xMv ?_
          refine xMv ?_
          refine oX (w_gtr rfl rfl rfl rfl ?_)
          refine oX (w_pickF rfl rfl rfl rfl ?_)
          refine wKp [(0, _), (1, _), (5, _), (8, _), (10, _), (11, _), (14, _), (15, _), (16, _), (17, _), (27, _), (28, _), (29, _), (30, _), (50, _)] ⟨rfl, rfl, rfl, rfl, rfl, rfl, rfl, rfl, rfl, rfl, rfl, rfl, rfl, rfl, rfl, trivial⟩ ?_
          refine wCd rfl (fun g5 => ?_) (fun g5 => ?_)
          · try simp only [sQ1, sQ2, sQ3, sQ4, sQ5, sQ6, sQ7, sQ8, ne_eq] at g5
            refine wSR ?_
            refine xAs ?_
            refine wKp [(0, _), (1, _), (4, _), (5, _), (8, _), (10, _), (11, _), (14, _), (15, _), (16, _), (17, _), (27, _), (28, _), (29, _), (30, _), (50, _)] ⟨rfl, rfl, rfl, rfl, rfl, rfl, rfl, rfl, rfl, rfl, rfl, rfl, rfl, rfl, rfl, rfl, trivial⟩ ?_
            refine w_ret (thn_r (inB_r (thn_r (rndE_r (inB_r (thn_r ?_))))))
            exact end0 .ret (.inl rfl) [_] ⟨rfl, trivial⟩ ⟨bool_eq (by rw [hs]; exact asc_bad3 (by rw [← g3]; simpa using g5)), rfl, rfl⟩
          · try simp only [sQ1, sQ2, sQ3, sQ4, sQ5, sQ6, sQ7, sQ8, ne_eq] at g5
            refine w_skip ?_
            refine thn_n ?_
            refine w_region ?_
            refine xMv ?_
            refine xAs ?_
            refine inB_n (thn_n ?_)
            refine w_region ?_
            refine oX (w_add rfl rfl rfl rfl (by first | exact wrI64 (by first | omega | (simp; done) | (simp; omega)) (by first | omega | (simp; done) | (simp; omega)) | rfl) ?_)
            refine xMv ?_
            exact rndE_n ⟨h.k + 1, 0, lo, _, _, yso, hat h.xs 0⟩ [0, 1] (by first | omega | (simp only []; omega)) ⟨rfl, by simp only []; omega, List.Perm.cons_inv ((show (x.id :: yso).Perm (hat h.xs 0 :: yso) from by rw [g3]).trans (hpo.trans hp)), hho, by simp only []; rw [hs, g3]; exact asc_go (by rw [← g3]; simpa using g4) (by rw [← g3]; simpa using g5), hvo⟩ ⟨rfl, rfl, rfl, rfl, rfl, rfl, rfl, rfl, rfl, rfl, rfl, trivial⟩ rfl
    · try simp only [sQ1, sQ2, sQ3, sQ4, sQ5, sQ6, sQ7, sQ8, ne_eq] at g2
      rw [dropEnd (by omega), List.map_nil, asc] at hs
      refine w_exit (thn_x (rndE_x (inB_hit (thn_n ?_))))
      refine wSR ?_
      refine xAs ?_
      refine wKp [(0, _), (1, _), (4, _), (5, _), (8, _), (14, _), (15, _), (16, _), (17, _), (27, _), (28, _), (29, _), (30, _)] ⟨rfl, rfl, rfl, rfl, rfl, rfl, rfl, rfl, rfl, rfl, rfl, rfl, rfl, trivial⟩ ?_
      refine w_ret ?_
      exact end0 .ret (.inl rfl) [_] ⟨rfl, trivial⟩ ⟨bool_eq hs.symm, rfl, rfl⟩

set_option maxRecDepth 4000 in
set_option maxHeartbeats 400000 in
theorem implQueue_c (aq : Option Addr) (cq : Nat) (q : DQueue) (B : Kn) (hq : SlK B aq cq 4 ItemR q.items) : RetB (pj J) 56 [.agg #[.int .i64 q.next, .slice aq q.items.length cq]] B (.bool (queueOk q)) := by
  refine cBB 42 Tryz.func56 rfl rfl rfl (Nat.le_of_ble_eq_true rfl) ?_
  have hqn := hq.len
  refine wSR ?_
  refine oX (w_box (l := [_, _]) rfl rfl rfl rfl (fun b1 => ?_))
  refine xAs ?_
  refine wTd [(0, _), (1, _), (2, _)] [_] ⟨rfl, rfl, rfl, trivial⟩ rfl ?_
  refine w_seq ?_
  refine wSR ?_
  refine oX (wFA rfl rfl fo29x1 rfl ?_)
  refine oX (w_load1 rfl rfl lk27 rfl (atL 0 rfl rfl rfl) ?_)
  refine oX (w_lenV rfl rfl Tryz.underlying27 rfl ?_)
  refine oX (w_gtr rfl rfl rfl rfl ?_)
  refine xMv ?_
  refine r_split (d := 9) rfl (fun g1 => ?_) (fun g1 => ?_)
  · try simp only [sQ1, sQ2, sQ3, sQ4, sQ5, sQ6, sQ7, sQ8, ne_eq] at g1
    refine oX (w_pass rfl rfl ?_)
    refine oX (w_pass rfl rfl ?_)
    refine oX (w_pass rfl rfl ?_)
    refine oX (w_pickT rfl rfl rfl rfl ?_)
    refine xMv ?_
    refine oX (w_pass rfl rfl ?_)
    refine oX (w_pass rfl rfl ?_)
    refine oX (w_pass rfl rfl ?_)
    refine oX (w_pickT rfl rfl rfl rfl ?_)
    refine wKp [(0, _), (1, _), (2, _), (18, _)] ⟨rfl, rfl, rfl, rfl, trivial⟩ ?_
    refine wCd (t := true) rfl (fun _ => ?_) (fun h => Bool.noConfusion h)
    refine wSR ?_
    refine xAs ?_
    refine wKp [(0, _), (1, _), (2, _), (18, _)] ⟨rfl, rfl, rfl, rfl, trivial⟩ ?_
    refine w_ret (thn_r ?_)
    exact end0 .ret (.inl rfl) [_] ⟨rfl, trivial⟩ ⟨bool_eq (queueOk_no (by omega)), rfl, rfl⟩
  · try simp only [sQ1, sQ2, sQ3, sQ4, sQ5, sQ6, sQ7, sQ8, ne_eq] at g1
    refine oX (wFA rfl rfl fo29x0 rfl ?_)
    refine oX (w_load1 rfl rfl lk3 rfl (atL 0 rfl rfl rfl) ?_)
    refine oX (w_lss rfl rfl rfl rfl ?_)
    refine oX (w_pickF rfl rfl rfl rfl ?_)
    refine xMv ?_
    refine r_split (d := 14) rfl (fun g2 => ?_) (fun g2 => ?_)
    · try simp only [sQ1, sQ2, sQ3, sQ4, sQ5, sQ6, sQ7, sQ8, ne_eq] at g2
      refine oX (w_pass rfl rfl ?_)
      refine oX (w_pass rfl rfl ?_)
      refine oX (w_pass rfl rfl ?_)
      refine oX (w_pickT rfl rfl rfl rfl ?_)
      refine wKp [(0, _), (1, _), (2, _), (18, _)] ⟨rfl, rfl, rfl, rfl, trivial⟩ ?_
      refine wCd (t := true) rfl (fun _ => ?_) (fun h => Bool.noConfusion h)
      refine wSR ?_
      refine xAs ?_
      refine wKp [(0, _), (1, _), (2, _), (18, _)] ⟨rfl, rfl, rfl, rfl, trivial⟩ ?_
      refine w_ret (thn_r ?_)
      exact end0 .ret (.inl rfl) [_] ⟨rfl, trivial⟩ ⟨bool_eq (queueOk_no (by omega)), rfl, rfl⟩
    · try simp only [sQ1, sQ2, sQ3, sQ4, sQ5, sQ6, sQ7, sQ8, ne_eq] at g2
      refine oX (wFA rfl rfl fo29x0 rfl ?_)
      refine oX (w_load1 rfl rfl lk3 rfl (atL 0 rfl rfl rfl) ?_)
      refine oX (w_gtr rfl rfl rfl rfl ?_)
      refine oX (w_pickF rfl rfl rfl rfl ?_)
      refine wKp [(0, _), (1, _), (2, _), (18, _)] ⟨rfl, rfl, rfl, rfl, trivial⟩ ?_
      refine wCd rfl (fun g3 => ?_) (fun g3 => ?_)
      · try simp only [sQ1, sQ2, sQ3, sQ4, sQ5, sQ6, sQ7, sQ8, ne_eq] at g3
        refine wSR ?_
        refine xAs ?_
        refine wKp [(0, _), (1, _), (2, _), (18, _)] ⟨rfl, rfl, rfl, rfl, trivial⟩ ?_
        refine w_ret (thn_r ?_)
        exact end0 .ret (.inl rfl) [_] ⟨rfl, trivial⟩ ⟨bool_eq (queueOk_no (by omega)), rfl, rfl⟩
      · try simp only [sQ1, sQ2, sQ3, sQ4, sQ5, sQ6, sQ7, sQ8, ne_eq] at g3
        refine w_skip ?_
        refine thn_n ?_
        refine w_seq ?_
        refine wSR ?_
        refine oX (wFA rfl rfl fo29x1 rfl ?_)
        refine oX (w_load1 rfl rfl lk27 rfl (atL 0 rfl rfl rfl) ?_)
        refine oX (w_lenV rfl rfl Tryz.underlying27 rfl ?_)
        refine xMv ?_
        refine wKp [(0, _), (1, _), (2, _), (18, _), (20, _), (21, _), (22, _)] ⟨rfl, rfl, rfl, rfl, rfl, rfl, rfl, trivial⟩ ?_
        refine w_block ?_
        refine w_loopE (α := Nat) [0, 1, 18, 20, 21] (fun k => [(22, .int .i64 k)]) [] (fun k => []) (fun k Bx => Bx = B ∧ k ≤ q.items.length ∧ (q.items.take k).all itemOk = true) (fun k => q.items.length - k) 0 ⟨rfl, trivial⟩ rfl (⟨rfl, Nat.zero_le _, by simp⟩) (fun k B2 hle2 hI => ?_)
        obtain ⟨rfl, hk, ha⟩ := hI
        refine wTd [(0, _), (1, _), (18, _), (20, _), (21, _), (22, _)] [_] ⟨rfl, rfl, rfl, rfl, rfl, rfl, trivial⟩ rfl ?_
        refine wSR ?_
        refine oX (w_lss rfl rfl rfl rfl ?_)
        refine wKp [(0, _), (1, _), (18, _), (20, _), (21, _), (22, _), (23, _)] ⟨rfl, rfl, rfl, rfl, rfl, rfl, rfl, trivial⟩ ?_
        refine w_seq ?_
        refine wCd rfl (fun g4 => ?_) (fun g4 => ?_)
        · try simp only [sQ1, sQ2, sQ3, sQ4, sQ5, sQ6, sQ7, sQ8, ne_eq] at g4
          refine w_skip ?_
          refine thn_n ?_
          refine w_seq ?_
          refine w_block ?_
          refine wSR ?_
          obtain ⟨x, hx⟩ := getLt (xs := q.items) (i := k) (by first | omega | (simp; done) | (simp; omega))
          obtain ⟨bb4, oo4, rfl⟩ := hq.base hx
          obtain ⟨_, ⟨qi5, ci5, rfl, hi5, hb5, hb5b⟩, hc5⟩ := hq.elem hx
          have hi5n := hi5.len
          refine oX (w_ixB rfl rfl Tryz.underlying27 sz100 rfl rfl (by first | omega | (simp; done) | (simp; omega)) (by first | omega | (simp; done) | (simp; omega)) ?_)
          refine oX (w_loadN [_, _, _, _] rfl rfl lk100 rfl (rowK hc5 0 rfl rfl) ?_)
          refine oX (w_alloc (l := [_, _, _, _]) rfl rfl zo100 rfl (fun b6 => ?_))
          refine oX (w_store [_, _, _, _] 1 [_, _, _, _] rfl rfl sz100 rfl rfl rfl rfl rfl rfl rfl rfl ?_)
          refine wTd [(0, _), (1, _), (4, _), (18, _), (20, _), (21, _), (22, _), (23, _)] [_, _] ⟨rfl, rfl, rfl, rfl, rfl, rfl, rfl, rfl, trivial⟩ rfl ?_
          refine wSR ?_
          refine oX (wFA rfl rfl fo100x1 rfl ?_)
          refine oX (w_load1 rfl rfl lk9 rfl (atL 1 rfl rfl rfl) ?_)
          refine oX (wFA rfl rfl fo100x3 rfl ?_)
          refine oX (w_load1 rfl rfl lk98 rfl (atL 1 rfl rfl rfl) ?_)
          refine oX (wFA rfl rfl fo100x2 rfl ?_)
          refine oX (w_load1 rfl rfl lk9 rfl (atL 1 rfl rfl rfl) ?_)
          refine oX (w_build (parts := [(0, _), (1, _), (2, _)]) [_, _, _] [_, _, _] rfl rfl pl138 zo138 rfl rfl rfl ?_)
          refine oX (w_retB rfl rfl en109 rfl (implLetter_c _ _ ⟨x.fr, x.left, x.text⟩ _ hi5 (by first | assumption | omega) (by first | assumption | omega)) ?_)
          refine oX (w_not rfl rfl rfl ?_)
          refine wKp [(0, _), (1, _), (4, _), (18, _), (20, _), (21, _), (22, _), (23, _), (34, _)] ⟨rfl, rfl, rfl, rfl, rfl, rfl, rfl, rfl, rfl, trivial⟩ ?_
          refine wCd rfl (fun g5 => ?_) (fun g5 => ?_)
          · try simp only [sQ1, sQ2, sQ3, sQ4, sQ5, sQ6, sQ7, sQ8, ne_eq] at g5
            refine wSR ?_
            refine xAs ?_
            refine wKp [(0, _), (1, _), (2, _), (4, _), (18, _), (20, _), (21, _), (22, _), (23, _), (34, _)] ⟨rfl, rfl, rfl, rfl, rfl, rfl, rfl, rfl, rfl, rfl, trivial⟩ ?_
            refine w_ret (inB_r (thn_r (rndE_r (inB_r (thn_r ?_)))))
            exact end0 .ret (.inl rfl) [_] ⟨rfl, trivial⟩ ⟨bool_eq (queueOk_bad hx g5), rfl, rfl⟩
          · try simp only [sQ1, sQ2, sQ3, sQ4, sQ5, sQ6, sQ7, sQ8, ne_eq] at g5
            refine w_skip ?_
            refine inB_n (thn_n ?_)
            refine w_region ?_
            refine oX (w_add rfl rfl rfl rfl (by first | exact wrI64 (by first | omega | (simp; done) | (simp; omega)) (by first | omega | (simp; done) | (simp; omega)) | rfl) ?_)
            refine xMv ?_
            exact rndE_n (k + 1) [0] (by first | omega | (simp only []; omega)) ⟨rfl, by omega, all_up hx g5 ha⟩ ⟨rfl, rfl, rfl, rfl, rfl, rfl, trivial⟩ rfl
        · try simp only [sQ1, sQ2, sQ3, sQ4, sQ5, sQ6, sQ7, sQ8, ne_eq] at g4
          refine w_exit (thn_x (rndE_x (inB_hit (thn_n ?_))))
          refine wSR ?_
          refine oX (wFA rfl rfl fo29x1 rfl ?_)
          refine oX (w_load1 rfl rfl lk27 rfl (atL 0 rfl rfl rfl) ?_)
          refine oX (wFA rfl rfl fo29x0 rfl ?_)
          refine oX (w_load1 rfl rfl lk3 rfl (atL 0 rfl rfl rfl) ?_)
          refine oX (w_sub rfl rfl rfl rfl (by first | exact wrI64 (by first | omega | (simp; done) | (simp; omega)) (by first | omega | (simp; done) | (simp; omega)) | rfl) ?_)
          refine oX (w_retB rfl rfl en110 rfl (idsAscend_c _ _ _ _ _ hq) ?_)
          refine xAs ?_
          refine wKp [(0, _), (1, _), (2, _), (18, _), (20, _), (21, _), (22, _), (23, _)] ⟨rfl, rfl, rfl, rfl, rfl, rfl, rfl, rfl, trivial⟩ ?_
          refine w_ret ?_
          exact end0 .ret (.inl rfl) [_] ⟨rfl, trivial⟩ ⟨bool_eq (queueOk_end (by omega) ha (by omega) (by omega) (by omega)), rfl, rfl⟩

set_option maxRecDepth 4000 in
set_option maxHeartbeats 400000 in
theorem l4Flags_c (n : Int) (B : Kn) : RetB (pj J) 214 [.int .i64 n] B (.bool (decide (0 ≤ n) && decide (n ≤ 31))) := by
  refine cBB 5 Tryz.func214 rfl rfl rfl (Nat.le_of_ble_eq_true rfl) ?_
  refine wSR ?_
  refine xAs ?_
  refine wKp [(0, _), (2, _)] ⟨rfl, rfl, trivial⟩ ?_
  refine wSR ?_
  refine xMv ?_
  refine oX (w_retB rfl rfl en125 rfl (l6In_c _ _ _ _) ?_)
  refine xAs ?_
  refine wKp [(0, _), (2, _)] ⟨rfl, rfl, trivial⟩ ?_
  refine w_ret ?_
  exact end0 .ret (.inl rfl) [_] ⟨rfl, trivial⟩ ⟨rfl, rfl, rfl⟩

set_option maxRecDepth 4000 in
set_option maxHeartbeats 400000 in
theorem implFlags_c (n : Int) (B : Kn) : RetB (pj J) 190 [.int .i64 n] B (.bool (decide (0 ≤ n) && decide (n ≤ 31))) := by
  refine cBB 9 Tryz.func190 rfl rfl rfl (Nat.le_of_ble_eq_true rfl) ?_
  refine wSR ?_
  refine xAs ?_
  refine wKp [(0, _), (2, _)] ⟨rfl, rfl, trivial⟩ ?_
  refine wSR ?_
  refine xMv ?_
  refine oX (w_geq rfl rfl rfl rfl ?_)
  refine xMv ?_
  refine r_split (d := 5) rfl (fun g1 => ?_) (fun g1 => ?_)
  · try simp only [sQ1, sQ2, sQ3, sQ4, sQ5, sQ6, sQ7, sQ8, ne_eq] at g1
    refine xMv ?_
    refine oX (w_leq rfl rfl rfl rfl ?_)
    refine oX (w_pickT rfl rfl rfl rfl ?_)
    refine xAs ?_
    refine wKp [(0, _), (2, _)] ⟨rfl, rfl, trivial⟩ ?_
    refine w_ret ?_
    exact end0 .ret (.inl rfl) [_] ⟨rfl, trivial⟩ ⟨bool_eq (by rw [Bool.eq_iff_iff]; simp [g1]; try omega), rfl, rfl⟩
  · try simp only [sQ1, sQ2, sQ3, sQ4, sQ5, sQ6, sQ7, sQ8, ne_eq] at g1
    refine oX (w_pass rfl rfl ?_)
    refine oX (w_pass rfl rfl ?_)
    refine oX (w_pickF rfl rfl rfl rfl ?_)
    refine xAs ?_
    refine wKp [(0, _), (2, _)] ⟨rfl, rfl, trivial⟩ ?_
    refine w_ret ?_
    exact end0 .ret (.inl rfl) [_] ⟨rfl, trivial⟩ ⟨bool_eq (by rw [Bool.eq_iff_iff]; simp [g1]; try omega), rfl, rfl⟩

set_option maxRecDepth 4000 in
set_option maxHeartbeats 400000 in
theorem l11Mail_c (m : DMail) (hm : m.text.length ≤ 2000000) (B : Kn) : RetB (pj J) 181 [.agg #[.int .i64 m.uid, .int .i64 m.flags, str m.text]] B (.bool (mailOk m)) := by
  refine cBB 17 Tryz.func181 rfl rfl rfl (Nat.le_of_ble_eq_true rfl) ?_
  refine wSR ?_
  refine oX (w_box (l := [_, _, _]) rfl rfl rfl rfl (fun b1 => ?_))
  refine xAs ?_
  refine wTd [(0, _), (1, _), (2, _)] [_] ⟨rfl, rfl, rfl, trivial⟩ rfl ?_
  refine wSR ?_
  refine oX (wFA rfl rfl fo116x0 rfl ?_)
  refine oX (w_load1 rfl rfl lk3 rfl (atL 0 rfl rfl rfl) ?_)
  refine oX (w_retB rfl rfl en125 rfl (l6In_c _ _ _ _) ?_)
  refine xMv ?_
  refine r_split (d := 6) rfl (fun g1 => ?_) (fun g1 => ?_)
  · try simp only [sQ1, sQ2, sQ3, sQ4, sQ5, sQ6, sQ7, sQ8, ne_eq] at g1
    refine oX (wFA rfl rfl fo116x1 rfl ?_)
    refine oX (w_load1 rfl rfl lk3 rfl (atL 0 rfl rfl rfl) ?_)
    refine oX (w_retB rfl rfl en214 rfl (l4Flags_c _ _) ?_)
    refine oX (w_pickT rfl rfl rfl rfl ?_)
    refine xMv ?_
    refine r_split (d := 11) rfl (fun g2 => ?_) (fun g2 => ?_)
    · try simp only [sQ1, sQ2, sQ3, sQ4, sQ5, sQ6, sQ7, sQ8, ne_eq] at g2
      refine oX (wFA rfl rfl fo116x2 rfl ?_)
      refine oX (w_load1 rfl rfl lk9 rfl (atL 0 rfl rfl rfl) ?_)
      refine oX (w_lenS rfl rfl Tryz.underlying9 rfl ?_)
      refine oX (w_leq rfl rfl rfl rfl ?_)
      refine oX (w_pickT rfl rfl rfl rfl ?_)
      refine xAs ?_
      refine wKp [(0, _), (1, _), (2, _)] ⟨rfl, rfl, rfl, trivial⟩ ?_
      refine w_ret ?_
      exact end0 .ret (.inl rfl) [_] ⟨rfl, trivial⟩ ⟨bool_eq (by rw [Bool.eq_iff_iff]; simp [mailOk, g1, g2]; try omega), rfl, rfl⟩
    · try simp only [sQ1, sQ2, sQ3, sQ4, sQ5, sQ6, sQ7, sQ8, ne_eq] at g2
      refine oX (w_pass rfl rfl ?_)
      refine oX (w_pass rfl rfl ?_)
      refine oX (w_pass rfl rfl ?_)
      refine oX (w_pass rfl rfl ?_)
      refine oX (w_pickF rfl rfl rfl rfl ?_)
      refine xAs ?_
      refine wKp [(0, _), (1, _), (2, _)] ⟨rfl, rfl, rfl, trivial⟩ ?_
      refine w_ret ?_
      exact end0 .ret (.inl rfl) [_] ⟨rfl, trivial⟩ ⟨bool_eq (by rw [Bool.eq_iff_iff]; simp [mailOk, g1, g2]; try omega), rfl, rfl⟩
  · try simp only [sQ1, sQ2, sQ3, sQ4, sQ5, sQ6, sQ7, sQ8, ne_eq] at g1
    refine oX (w_pass rfl rfl ?_)
    refine oX (w_pass rfl rfl ?_)
    refine oX (w_pass rfl rfl ?_)
    refine oX (w_pickF rfl rfl rfl rfl ?_)
    refine xMv ?_
    refine oX (w_pass rfl rfl ?_)
    refine oX (w_pass rfl rfl ?_)
    refine oX (w_pass rfl rfl ?_)
    refine oX (w_pass rfl rfl ?_)
    refine oX (w_pickF rfl rfl rfl rfl ?_)
    refine xAs ?_
    refine wKp [(0, _), (1, _), (2, _)] ⟨rfl, rfl, rfl, trivial⟩ ?_
    refine w_ret ?_
    exact end0 .ret (.inl rfl) [_] ⟨rfl, trivial⟩ ⟨bool_eq (by rw [Bool.eq_iff_iff]; simp [mailOk, g1]; try omega), rfl, rfl⟩

set_option maxRecDepth 4000 in
set_option maxHeartbeats 400000 in
theorem implMail_c (m : DMail) (hm : m.text.length ≤ 2000000) (B : Kn) : RetB (pj J) 145 [.agg #[.int .i64 m.uid, .int .i64 m.flags, str m.text]] B (.bool (mailOk m)) := by
  refine cBB 22 Tryz.func145 rfl rfl rfl (Nat.le_of_ble_eq_true rfl) ?_
  refine wSR ?_
  refine oX (w_box (l := [_, _, _]) rfl rfl rfl rfl (fun b1 => ?_))
  refine xAs ?_
  refine wTd [(0, _), (1, _), (2, _)] [_] ⟨rfl, rfl, rfl, trivial⟩ rfl ?_
  refine wSR ?_
  refine oX (wFA rfl rfl fo116x0 rfl ?_)
  refine oX (w_load1 rfl rfl lk3 rfl (atL 0 rfl rfl rfl) ?_)
  refine oX (w_geq rfl rfl rfl rfl ?_)
  refine xMv ?_
  refine r_split (d := 6) rfl (fun g1 => ?_) (fun g1 => ?_)
  · try simp only [sQ1, sQ2, sQ3, sQ4, sQ5, sQ6, sQ7, sQ8, ne_eq] at g1
    refine oX (wFA rfl rfl fo116x0 rfl ?_)
    refine oX (w_load1 rfl rfl lk3 rfl (atL 0 rfl rfl rfl) ?_)
    refine oX (w_leq rfl rfl rfl rfl ?_)
    refine oX (w_pickT rfl rfl rfl rfl ?_)
    refine xMv ?_
    refine r_split (d := 11) rfl (fun g2 => ?_) (fun g2 => ?_)
    · try simp only [sQ1, sQ2, sQ3, sQ4, sQ5, sQ6, sQ7, sQ8, ne_eq] at g2
      refine oX (wFA rfl rfl fo116x1 rfl ?_)
      refine oX (w_load1 rfl rfl lk3 rfl (atL 0 rfl rfl rfl) ?_)
      refine oX (w_retB rfl rfl en190 rfl (implFlags_c _ _) ?_)
      refine oX (w_pickT rfl rfl rfl rfl ?_)
      refine xMv ?_
      refine r_split (d := 16) rfl (fun g3 => ?_) (fun g3 => ?_)
      · try simp only [sQ1, sQ2, sQ3, sQ4, sQ5, sQ6, sQ7, sQ8, ne_eq] at g3
        refine oX (wFA rfl rfl fo116x2 rfl ?_)
        refine oX (w_load1 rfl rfl lk9 rfl (atL 0 rfl rfl rfl) ?_)
        refine oX (w_lenS rfl rfl Tryz.underlying9 rfl ?_)
        refine oX (w_leq rfl rfl rfl rfl ?_)
        refine oX (w_pickT rfl rfl rfl rfl ?_)
        refine xAs ?_
        refine wKp [(0, _), (1, _), (2, _)] ⟨rfl, rfl, rfl, trivial⟩ ?_
        refine w_ret ?_
        exact end0 .ret (.inl rfl) [_] ⟨rfl, trivial⟩ ⟨bool_eq (by rw [Bool.eq_iff_iff]; simp [mailOk, g1, g2, g3]; try omega), rfl, rfl⟩
      · try simp only [sQ1, sQ2, sQ3, sQ4, sQ5, sQ6, sQ7, sQ8, ne_eq] at g3
        refine oX (w_pass rfl rfl ?_)
        refine oX (w_pass rfl rfl ?_)
        refine oX (w_pass rfl rfl ?_)
        refine oX (w_pass rfl rfl ?_)
        refine oX (w_pickF rfl rfl rfl rfl ?_)
        refine xAs ?_
        refine wKp [(0, _), (1, _), (2, _)] ⟨rfl, rfl, rfl, trivial⟩ ?_
        refine w_ret ?_
        exact end0 .ret (.inl rfl) [_] ⟨rfl, trivial⟩ ⟨bool_eq (by rw [Bool.eq_iff_iff]; simp [mailOk, g1, g2, g3]; try omega), rfl, rfl⟩
    · try simp only [sQ1, sQ2, sQ3, sQ4, sQ5, sQ6, sQ7, sQ8, ne_eq] at g2
      refine oX (w_pass rfl rfl ?_)
      refine oX (w_pass rfl rfl ?_)
      refine oX (w_pass rfl rfl ?_)
      refine oX (w_pickF rfl rfl rfl rfl ?_)
      refine xMv ?_
      refine oX (w_pass rfl rfl ?_)
      refine oX (w_pass rfl rfl ?_)
      refine oX (w_pass rfl rfl ?_)
      refine oX (w_pass rfl rfl ?_)
      refine oX (w_pickF rfl rfl rfl rfl ?_)
      refine xAs ?_
      refine wKp [(0, _), (1, _), (2, _)] ⟨rfl, rfl, rfl, trivial⟩ ?_
      refine w_ret ?_
      exact end0 .ret (.inl rfl) [_] ⟨rfl, trivial⟩ ⟨bool_eq (by rw [Bool.eq_iff_iff]; simp [mailOk, g1, g2]; try omega), rfl, rfl⟩
  · try simp only [sQ1, sQ2, sQ3, sQ4, sQ5, sQ6, sQ7, sQ8, ne_eq] at g1
    refine oX (w_pass rfl rfl ?_)
    refine oX (w_pass rfl rfl ?_)
    refine oX (w_pass rfl rfl ?_)
    refine oX (w_pickF rfl rfl rfl rfl ?_)
    refine xMv ?_
    refine oX (w_pass rfl rfl ?_)
    refine oX (w_pass rfl rfl ?_)
    refine oX (w_pass rfl rfl ?_)
    refine oX (w_pickF rfl rfl rfl rfl ?_)
    refine xMv ?_
    refine oX (w_pass rfl rfl ?_)
    refine oX (w_pass rfl rfl ?_)
    refine oX (w_pass rfl rfl ?_)
    refine oX (w_pass rfl rfl ?_)
    refine oX (w_pickF rfl rfl rfl rfl ?_)
    refine xAs ?_
    refine wKp [(0, _), (1, _), (2, _)] ⟨rfl, rfl, rfl, trivial⟩ ?_
    refine w_ret ?_
    exact end0 .ret (.inl rfl) [_] ⟨rfl, trivial⟩ ⟨bool_eq (by rw [Bool.eq_iff_iff]; simp [mailOk, g1]; try omega), rfl, rfl⟩

set_option maxRecDepth 4000 in
set_option maxHeartbeats 400000 in
theorem specBox_c (q : Option Addr) (cp : Nat) (x : DBox) (B : Kn) (hx : SlK B q cp 3 MailR x.mail) : RetB (pj J) 128 [.agg #[.int .i64 x.next, .slice q x.mail.length cp]] B (.bool (boxOk x)) := by
  refine cBB 46 Tryz.func128 rfl rfl rfl (Nat.le_of_ble_eq_true rfl) ?_
  have hxn := hx.len
  refine wSR ?_
  refine oX (w_box (l := [_, _]) rfl rfl rfl rfl (fun b1 => ?_))
  refine xAs ?_
  refine wTd [(0, _), (1, _), (2, _)] [_] ⟨rfl, rfl, rfl, trivial⟩ rfl ?_
  refine wSR ?_
  refine xAs ?_
  refine wKp [(0, _), (1, _), (2, _), (3, _)] ⟨rfl, rfl, rfl, rfl, trivial⟩ ?_
  refine w_seq ?_
  refine wSR ?_
  refine xAs ?_
  refine wKp [(0, _), (1, _), (2, _), (3, _), (4, _)] ⟨rfl, rfl, rfl, rfl, rfl, trivial⟩ ?_
  refine w_block ?_
  refine w_loopE (α := Nat × Int) [0, 1] (fun g => [(3, .int .i64 g.2), (4, .int .i64 g.1)]) [] (fun g => []) (fun g Bx => Bx = B ∧ g.1 ≤ x.mail.length ∧ mailScan (x.mail.take g.1) = (true, g.2) ∧ 0 ≤ g.2 ∧ g.2 ≤ 99) (fun g => x.mail.length - g.1) (0, 0) ⟨rfl, rfl, trivial⟩ rfl (⟨rfl, Nat.zero_le _, scn_nil, by omega, by omega⟩) (fun g B2 hle2 hI => ?_)
  obtain ⟨rfl, hk, hs, hl0, hl1⟩ := hI
  refine wTd [(0, _), (1, _), (3, _), (4, _)] [_] ⟨rfl, rfl, rfl, rfl, trivial⟩ rfl ?_
  refine w_seq ?_
  refine wSR ?_
  refine xMv ?_
  refine oX (wFA rfl rfl fo38x1 rfl ?_)
  refine oX (w_load1 rfl rfl lk36 rfl (atL 0 rfl rfl rfl) ?_)
  refine oX (w_lenV rfl rfl Tryz.underlying36 rfl ?_)
  refine oX (w_lss rfl rfl rfl rfl ?_)
  refine wKp [(0, _), (1, _), (3, _), (4, _), (9, _)] ⟨rfl, rfl, rfl, rfl, rfl, trivial⟩ ?_
  refine wCd rfl (fun g1 => ?_) (fun g1 => ?_)
  · try simp only [sQ1, sQ2, sQ3, sQ4, sQ5, sQ6, sQ7, sQ8, ne_eq] at g1
    refine w_skip ?_
    refine thn_n ?_
    refine w_seq ?_
    refine w_block ?_
    refine w_seq ?_
    refine wSR ?_
    refine oX (wFA rfl rfl fo38x1 rfl ?_)
    refine oX (w_load1 rfl rfl lk36 rfl (atL 0 rfl rfl rfl) ?_)
    refine xMv ?_
    obtain ⟨m, hm⟩ := getLt (xs := x.mail) (i := g.1) (by first | omega | (simp; done) | (simp; omega))
    obtain ⟨bb4, oo4, rfl⟩ := hx.base hm
    obtain ⟨_, ⟨rfl, hb5⟩, hc5⟩ := hx.elem hm
    refine oX (w_ixB rfl rfl Tryz.underlying36 sz116 rfl rfl (by first | omega | (simp; done) | (simp; omega)) (by first | omega | (simp; done) | (simp; omega)) ?_)
    refine oX (w_loadN [_, _, _] rfl rfl lk116 rfl (rowK hc5 0 rfl rfl) ?_)
    refine oX (w_retB rfl rfl en181 rfl (l11Mail_c m (by first | assumption | omega | (simp; done) | (simp; omega)) _) ?_)
    refine oX (w_not rfl rfl rfl ?_)
    refine xMv ?_
    refine r_split (d := 19) rfl (fun g2 => ?_) (fun g2 => ?_)
    · try simp only [sQ1, sQ2, sQ3, sQ4, sQ5, sQ6, sQ7, sQ8, ne_eq] at g2
      refine oX (w_pass rfl rfl ?_)
      refine oX (w_pass rfl rfl ?_)
      refine oX (w_pass rfl rfl ?_)
      refine oX (w_pass rfl rfl ?_)
      refine oX (w_pass rfl rfl ?_)
      refine oX (w_pass rfl rfl ?_)
      refine oX (w_pass rfl rfl ?_)
      refine oX (w_pass rfl rfl ?_)
      refine oX (w_pickT rfl rfl rfl rfl ?_)
      refine wKp [(0, _), (1, _), (3, _), (4, _), (9, _), (28, _)] ⟨rfl, rfl, rfl, rfl, rfl, rfl, trivial⟩ ?_
      refine wCd (t := true) rfl (fun _ => ?_) (fun h => Bool.noConfusion h)
      refine wSR ?_
      refine xAs ?_
      refine wKp [(0, _), (1, _), (2, _), (3, _), (4, _), (9, _), (28, _)] ⟨rfl, rfl, rfl, rfl, rfl, rfl, rfl, trivial⟩ ?_
      refine w_ret (thn_r (inB_r (thn_r (rndE_r (inB_r (thn_r ?_))))))
      exact end0 .ret (.inl rfl) [_] ⟨rfl, trivial⟩ ⟨bool_eq (boxOk_bad (scn_hit hm (by rw [show (scn mailP (fun _ m => m.uid) 0 (x.mail.take g.1)).2 = g.2 from congrArg Prod.snd hs]; simp [mailP, g2]))).symm, rfl, rfl⟩
    · try simp only [sQ1, sQ2, sQ3, sQ4, sQ5, sQ6, sQ7, sQ8, ne_eq] at g2
      refine oX (wFA rfl rfl fo38x1 rfl ?_)
      refine oX (w_load1 rfl rfl lk36 rfl (atL 0 rfl rfl rfl) ?_)
      refine xMv ?_
      refine oX (w_ixB rfl rfl Tryz.underlying36 sz116 rfl rfl (by first | omega | (simp; done) | (simp; omega)) (by first | omega | (simp; done) | (simp; omega)) ?_)
      refine oX (wFA rfl rfl fo116x0 rfl ?_)
      refine oX (w_load1 rfl rfl lk3 rfl (hc5 _ 0 _ rfl) ?_)
      refine xMv ?_
      refine oX (w_leq rfl rfl rfl rfl ?_)
      refine oX (w_pickF rfl rfl rfl rfl ?_)
      refine wKp [(0, _), (1, _), (3, _), (4, _), (9, _), (28, _)] ⟨rfl, rfl, rfl, rfl, rfl, rfl, trivial⟩ ?_
      refine wCd rfl (fun g3 => ?_) (fun g3 => ?_)
      · try simp only [sQ1, sQ2, sQ3, sQ4, sQ5, sQ6, sQ7, sQ8, ne_eq] at g3
        refine wSR ?_
        refine xAs ?_
        refine wKp [(0, _), (1, _), (2, _), (3, _), (4, _), (9, _), (28, _)] ⟨rfl, rfl, rfl, rfl, rfl, rfl, rfl, trivial⟩ ?_
        refine w_ret (thn_r (inB_r (thn_r (rndE_r (inB_r (thn_r ?_))))))
        exact end0 .ret (.inl rfl) [_] ⟨rfl, trivial⟩ ⟨bool_eq (boxOk_bad (scn_hit hm (by rw [show (scn mailP (fun _ m => m.uid) 0 (x.mail.take g.1)).2 = g.2 from congrArg Prod.snd hs]; simp [mailP, g2]; omega))).symm, rfl, rfl⟩
      · try simp only [sQ1, sQ2, sQ3, sQ4, sQ5, sQ6, sQ7, sQ8, ne_eq] at g3
        refine w_skip ?_
        refine thn_n ?_
        refine w_region ?_
        refine oX (wFA rfl rfl fo38x1 rfl ?_)
        refine oX (w_load1 rfl rfl lk36 rfl (atL 0 rfl rfl rfl) ?_)
        refine xMv ?_
        refine oX (w_ixB rfl rfl Tryz.underlying36 sz116 rfl rfl (by first | omega | (simp; done) | (simp; omega)) (by first | omega | (simp; done) | (simp; omega)) ?_)
        refine oX (wFA rfl rfl fo116x0 rfl ?_)
        refine oX (w_load1 rfl rfl lk3 rfl (hc5 _ 0 _ rfl) ?_)
        refine xAs ?_
        refine inB_n (thn_n ?_)
        refine w_region ?_
        refine xMv ?_
        refine oX (w_add rfl rfl rfl rfl (by first | exact wrI64 (by first | omega | (simp; done) | (simp; omega)) (by first | omega | (simp; done) | (simp; omega)) | rfl) ?_)
        refine xAs ?_
        exact rndE_n (g.1 + 1, m.uid) [0] (by first | omega | (simp only []; omega)) ⟨rfl, by omega, scn_step hm hs (by simp [mailP, g2]; omega), mailOk_uid g2⟩ ⟨rfl, rfl, rfl, rfl, trivial⟩ rfl
  · try simp only [sQ1, sQ2, sQ3, sQ4, sQ5, sQ6, sQ7, sQ8, ne_eq] at g1
    refine w_exit (thn_x (rndE_x (inB_hit (thn_n ?_))))
    refine wSR ?_
    refine oX (wFA rfl rfl fo38x0 rfl ?_)
    refine oX (w_load1 rfl rfl lk3 rfl (atL 0 rfl rfl rfl) ?_)
    refine xMv ?_
    refine oX (w_add rfl rfl rfl rfl (by first | exact wrI64 (by first | omega | (simp; done) | (simp; omega)) (by first | omega | (simp; done) | (simp; omega)) | rfl) ?_)
    refine oX (w_retB rfl rfl en125 rfl (l6In_c _ _ _ _) ?_)
    refine xMv ?_
    refine r_split (d := 40) rfl (fun g4 => ?_) (fun g4 => ?_)
    · try simp only [sQ1, sQ2, sQ3, sQ4, sQ5, sQ6, sQ7, sQ8, ne_eq] at g4
      refine oX (wFA rfl rfl fo38x1 rfl ?_)
      refine oX (w_load1 rfl rfl lk36 rfl (atL 0 rfl rfl rfl) ?_)
      refine oX (w_lenV rfl rfl Tryz.underlying36 rfl ?_)
      refine oX (w_leq rfl rfl rfl rfl ?_)
      refine oX (w_pickT rfl rfl rfl rfl ?_)
      refine xAs ?_
      refine wKp [(0, _), (1, _), (2, _), (3, _), (4, _), (9, _)] ⟨rfl, rfl, rfl, rfl, rfl, rfl, trivial⟩ ?_
      refine w_ret ?_
      exact end0 .ret (.inl rfl) [_] ⟨rfl, trivial⟩ ⟨bool_eq (by rw [boxOk_end (scn_end hs (by omega)), g4, Bool.true_and, Bool.eq_iff_iff]; simp; omega), rfl, rfl⟩
    · try simp only [sQ1, sQ2, sQ3, sQ4, sQ5, sQ6, sQ7, sQ8, ne_eq] at g4
      refine oX (w_pass rfl rfl ?_)
      refine oX (w_pass rfl rfl ?_)
      refine oX (w_pass rfl rfl ?_)
      refine oX (w_pass rfl rfl ?_)
      refine oX (w_pickF rfl rfl rfl rfl ?_)
      refine xAs ?_
      refine wKp [(0, _), (1, _), (2, _), (3, _), (4, _), (9, _)] ⟨rfl, rfl, rfl, rfl, rfl, rfl, trivial⟩ ?_
      refine w_ret ?_
      exact end0 .ret (.inl rfl) [_] ⟨rfl, trivial⟩ ⟨bool_eq (by rw [boxOk_end (scn_end hs (by omega)), g4, Bool.false_and]), rfl, rfl⟩

set_option maxRecDepth 4000 in
set_option maxHeartbeats 400000 in
theorem implBox_c (q : Option Addr) (cp : Nat) (x : DBox) (B : Kn) (hx : SlK B q cp 3 MailR x.mail) : RetB (pj J) 91 [.agg #[.int .i64 x.next, .slice q x.mail.length cp]] B (.bool (boxOk x)) := by
  refine cBB 38 Tryz.func91 rfl rfl rfl (Nat.le_of_ble_eq_true rfl) ?_
  have hxn := hx.len
  refine wSR ?_
  refine oX (w_box (l := [_, _]) rfl rfl rfl rfl (fun b1 => ?_))
  refine xAs ?_
  refine wTd [(0, _), (1, _), (2, _)] [_] ⟨rfl, rfl, rfl, trivial⟩ rfl ?_
  refine w_seq ?_
  refine wSR ?_
  refine oX (wFA rfl rfl fo38x1 rfl ?_)
  refine oX (w_load1 rfl rfl lk36 rfl (atL 0 rfl rfl rfl) ?_)
  refine oX (w_lenV rfl rfl Tryz.underlying36 rfl ?_)
  refine oX (w_gtr rfl rfl rfl rfl ?_)
  refine wKp [(0, _), (1, _), (2, _), (9, _)] ⟨rfl, rfl, rfl, rfl, trivial⟩ ?_
  refine wCd rfl (fun g0 => ?_) (fun g0 => ?_)
  · try simp only [sQ1, sQ2, sQ3, sQ4, sQ5, sQ6, sQ7, sQ8, ne_eq] at g0
    refine wSR ?_
    refine xAs ?_
    refine wKp [(0, _), (1, _), (2, _), (9, _)] ⟨rfl, rfl, rfl, rfl, trivial⟩ ?_
    refine w_ret (thn_r ?_)
    exact end0 .ret (.inl rfl) [_] ⟨rfl, trivial⟩ ⟨bool_eq (by simp [boxOk]; omega), rfl, rfl⟩
  · try simp only [sQ1, sQ2, sQ3, sQ4, sQ5, sQ6, sQ7, sQ8, ne_eq] at g0
    refine w_skip ?_
    refine thn_n ?_
    refine wSR ?_
    refine xAs ?_
    refine wKp [(0, _), (1, _), (2, _), (3, _), (9, _)] ⟨rfl, rfl, rfl, rfl, rfl, trivial⟩ ?_
    refine w_seq ?_
    refine wSR ?_
    refine oX (wFA rfl rfl fo38x1 rfl ?_)
    refine oX (w_load1 rfl rfl lk36 rfl (atL 0 rfl rfl rfl) ?_)
    refine oX (w_lenV rfl rfl Tryz.underlying36 rfl ?_)
    refine xMv ?_
    refine wKp [(0, _), (1, _), (2, _), (3, _), (9, _), (11, _), (12, _), (13, _)] ⟨rfl, rfl, rfl, rfl, rfl, rfl, rfl, rfl, trivial⟩ ?_
    refine w_block ?_
    refine w_loopE (α := Nat × Int) [0, 1, 9, 11, 12] (fun g => [(3, .int .i64 g.2), (13, .int .i64 g.1)]) [] (fun g => []) (fun g Bx => Bx = B ∧ g.1 ≤ x.mail.length ∧ mailScan (x.mail.take g.1) = (true, g.2) ∧ 0 ≤ g.2 ∧ g.2 ≤ 99) (fun g => x.mail.length - g.1) (0, 0) ⟨rfl, rfl, trivial⟩ rfl (⟨rfl, Nat.zero_le _, scn_nil, by omega, by omega⟩) (fun g B2 hle2 hI => ?_)
    obtain ⟨rfl, hk, hs, hl0, hl1⟩ := hI
    refine wTd [(0, _), (1, _), (3, _), (9, _), (11, _), (12, _), (13, _)] [_] ⟨rfl, rfl, rfl, rfl, rfl, rfl, rfl, trivial⟩ rfl ?_
    refine wSR ?_
    refine oX (w_lss rfl rfl rfl rfl ?_)
    refine wKp [(0, _), (1, _), (3, _), (9, _), (11, _), (12, _), (13, _), (14, _)] ⟨rfl, rfl, rfl, rfl, rfl, rfl, rfl, rfl, trivial⟩ ?_
    refine w_seq ?_
    refine wCd rfl (fun g1 => ?_) (fun g1 => ?_)
    · try simp only [sQ1, sQ2, sQ3, sQ4, sQ5, sQ6, sQ7, sQ8, ne_eq] at g1
      refine w_skip ?_
      refine thn_n ?_
      refine w_seq ?_
      refine w_block ?_
      refine wSR ?_
      obtain ⟨m, hm⟩ := getLt (xs := x.mail) (i := g.1) (by first | omega | (simp; done) | (simp; omega))
      obtain ⟨bb4, oo4, rfl⟩ := hx.base hm
      obtain ⟨_, ⟨rfl, hb5⟩, hc5⟩ := hx.elem hm
      refine oX (w_ixB rfl rfl Tryz.underlying36 sz116 rfl rfl (by first | omega | (simp; done) | (simp; omega)) (by first | omega | (simp; done) | (simp; omega)) ?_)
      refine oX (w_loadN [_, _, _] rfl rfl lk116 rfl (rowK hc5 0 rfl rfl) ?_)
      refine oX (w_alloc (l := [_, _, _]) rfl rfl zo116 rfl (fun b6 => ?_))
      refine oX (w_store [_, _, _] 1 [_, _, _] rfl rfl sz116 rfl rfl rfl rfl rfl rfl rfl rfl ?_)
      refine wTd [(0, _), (1, _), (3, _), (5, _), (9, _), (11, _), (12, _), (13, _), (14, _)] [_, _] ⟨rfl, rfl, rfl, rfl, rfl, rfl, rfl, rfl, rfl, trivial⟩ rfl ?_
      refine w_seq ?_
      refine wSR ?_
      refine oX (w_loadN [_, _, _] rfl rfl lk116 rfl (rowL 1 rfl rfl rfl) ?_)
      refine oX (w_retB rfl rfl en145 rfl (implMail_c m (by first | assumption | omega | (simp; done) | (simp; omega)) _) ?_)
      refine oX (w_not rfl rfl rfl ?_)
      refine xMv ?_
      refine r_split (d := 20) rfl (fun g2 => ?_) (fun g2 => ?_)
      · try simp only [sQ1, sQ2, sQ3, sQ4, sQ5, sQ6, sQ7, sQ8, ne_eq] at g2
        refine oX (w_pass rfl rfl ?_)
        refine oX (w_pass rfl rfl ?_)
        refine oX (w_pass rfl rfl ?_)
        refine oX (w_pass rfl rfl ?_)
        refine oX (w_pickT rfl rfl rfl rfl ?_)
        refine wKp [(0, _), (1, _), (3, _), (5, _), (9, _), (11, _), (12, _), (13, _), (14, _), (25, _)] ⟨rfl, rfl, rfl, rfl, rfl, rfl, rfl, rfl, rfl, rfl, trivial⟩ ?_
        refine wCd (t := true) rfl (fun _ => ?_) (fun h => Bool.noConfusion h)
        refine wSR ?_
        refine xAs ?_
        refine wKp [(0, _), (1, _), (2, _), (3, _), (5, _), (9, _), (11, _), (12, _), (13, _), (14, _), (25, _)] ⟨rfl, rfl, rfl, rfl, rfl, rfl, rfl, rfl, rfl, rfl, rfl, trivial⟩ ?_
        refine w_ret (thn_r (inB_r (thn_r (rndE_r (inB_r (thn_r ?_))))))
        exact end0 .ret (.inl rfl) [_] ⟨rfl, trivial⟩ ⟨bool_eq (boxOk_bad (scn_hit hm (by rw [show (scn mailP (fun _ m => m.uid) 0 (x.mail.take g.1)).2 = g.2 from congrArg Prod.snd hs]; simp [mailP, g2]))).symm, rfl, rfl⟩
      · try simp only [sQ1, sQ2, sQ3, sQ4, sQ5, sQ6, sQ7, sQ8, ne_eq] at g2
        refine oX (wFA rfl rfl fo116x0 rfl ?_)
        refine oX (w_load1 rfl rfl lk3 rfl (atL 1 rfl rfl rfl) ?_)
        refine xMv ?_
        refine oX (w_leq rfl rfl rfl rfl ?_)
        refine oX (w_pickF rfl rfl rfl rfl ?_)
        refine wKp [(0, _), (1, _), (3, _), (5, _), (9, _), (11, _), (12, _), (13, _), (14, _), (25, _)] ⟨rfl, rfl, rfl, rfl, rfl, rfl, rfl, rfl, rfl, rfl, trivial⟩ ?_
        refine wCd rfl (fun g3 => ?_) (fun g3 => ?_)
        · try simp only [sQ1, sQ2, sQ3, sQ4, sQ5, sQ6, sQ7, sQ8, ne_eq] at g3
          refine wSR ?_
          refine xAs ?_
          refine wKp [(0, _), (1, _), (2, _), (3, _), (5, _), (9, _), (11, _), (12, _), (13, _), (14, _), (25, _)] ⟨rfl, rfl, rfl, rfl, rfl, rfl, rfl, rfl, rfl, rfl, rfl, trivial⟩ ?_
          refine w_ret (thn_r (inB_r (thn_r (rndE_r (inB_r (thn_r ?_))))))
          exact end0 .ret (.inl rfl) [_] ⟨rfl, trivial⟩ ⟨bool_eq (boxOk_bad (scn_hit hm (by rw [show (scn mailP (fun _ m => m.uid) 0 (x.mail.take g.1)).2 = g.2 from congrArg Prod.snd hs]; simp [mailP, g2]; omega))).symm, rfl, rfl⟩
        · try simp only [sQ1, sQ2, sQ3, sQ4, sQ5, sQ6, sQ7, sQ8, ne_eq] at g3
          refine w_skip ?_
          refine thn_n ?_
          refine w_region ?_
          refine oX (wFA rfl rfl fo116x0 rfl ?_)
          refine oX (w_load1 rfl rfl lk3 rfl (atL 1 rfl rfl rfl) ?_)
          refine xAs ?_
          refine inB_n (thn_n ?_)
          refine w_region ?_
          refine oX (w_add rfl rfl rfl rfl (by first | exact wrI64 (by first | omega | (simp; done) | (simp; omega)) (by first | omega | (simp; done) | (simp; omega)) | rfl) ?_)
          refine xMv ?_
          exact rndE_n (g.1 + 1, m.uid) [0] (by first | omega | (simp only []; omega)) ⟨rfl, by omega, scn_step hm hs (by simp [mailP, g2]; omega), mailOk_uid g2⟩ ⟨rfl, rfl, rfl, rfl, rfl, rfl, rfl, trivial⟩ rfl
    · try simp only [sQ1, sQ2, sQ3, sQ4, sQ5, sQ6, sQ7, sQ8, ne_eq] at g1
      refine w_exit (thn_x (rndE_x (inB_hit (thn_n ?_))))
      refine wSR ?_
      refine oX (wFA rfl rfl fo38x0 rfl ?_)
      refine oX (w_load1 rfl rfl lk3 rfl (atL 0 rfl rfl rfl) ?_)
      refine xMv ?_
      refine oX (w_gtr rfl rfl rfl rfl ?_)
      refine xMv ?_
      refine r_split (d := 33) rfl (fun g4 => ?_) (fun g4 => ?_)
      · try simp only [sQ1, sQ2, sQ3, sQ4, sQ5, sQ6, sQ7, sQ8, ne_eq] at g4
        refine oX (wFA rfl rfl fo38x0 rfl ?_)
        refine oX (w_load1 rfl rfl lk3 rfl (atL 0 rfl rfl rfl) ?_)
        refine oX (w_leq rfl rfl rfl rfl ?_)
        refine oX (w_pickT rfl rfl rfl rfl ?_)
        refine xAs ?_
        refine wKp [(0, _), (1, _), (2, _), (3, _), (9, _), (11, _), (12, _), (13, _), (14, _)] ⟨rfl, rfl, rfl, rfl, rfl, rfl, rfl, rfl, rfl, trivial⟩ ?_
        refine w_ret ?_
        exact end0 .ret (.inl rfl) [_] ⟨rfl, trivial⟩ ⟨bool_eq (by rw [boxOk_end (scn_end hs (by omega)), Bool.eq_iff_iff]; simp; omega), rfl, rfl⟩
      · try simp only [sQ1, sQ2, sQ3, sQ4, sQ5, sQ6, sQ7, sQ8, ne_eq] at g4
        refine oX (w_pass rfl rfl ?_)
        refine oX (w_pass rfl rfl ?_)
        refine oX (w_pass rfl rfl ?_)
        refine oX (w_pickF rfl rfl rfl rfl ?_)
        refine xAs ?_
        refine wKp [(0, _), (1, _), (2, _), (3, _), (9, _), (11, _), (12, _), (13, _), (14, _)] ⟨rfl, rfl, rfl, rfl, rfl, rfl, rfl, rfl, rfl, trivial⟩ ?_
        refine w_ret ?_
        exact end0 .ret (.inl rfl) [_] ⟨rfl, trivial⟩ ⟨bool_eq (by rw [boxOk_end (scn_end hs (by omega)), Bool.eq_iff_iff]; simp; omega), rfl, rfl⟩

set_option maxRecDepth 4000 in
set_option maxHeartbeats 400000 in
theorem l11Size_c (q : Option Addr) (cp : Nat) (x : DBox) (B : Kn) (hx : SlK B q cp 3 MailR x.mail) : RetB (pj J) 130 [.agg #[.int .i64 x.next, .slice q x.mail.length cp]] B (.int .i64 (sizeMs x.mail)) := by
  refine cBB 22 Tryz.func130 rfl rfl rfl (Nat.le_of_ble_eq_true rfl) ?_
  have hxn := hx.len
  refine wSR ?_
  refine oX (w_box (l := [_, _]) rfl rfl rfl rfl (fun b1 => ?_))
  refine xAs ?_
  refine wTd [(0, _), (1, _), (2, _)] [_] ⟨rfl, rfl, rfl, trivial⟩ rfl ?_
  refine wSR ?_
  refine xAs ?_
  refine wKp [(0, _), (1, _), (2, _), (3, _)] ⟨rfl, rfl, rfl, rfl, trivial⟩ ?_
  refine w_seq ?_
  refine wSR ?_
  refine xAs ?_
  refine wKp [(0, _), (1, _), (2, _), (3, _), (4, _)] ⟨rfl, rfl, rfl, rfl, rfl, trivial⟩ ?_
  refine w_block ?_
  refine w_loopE (α := Nat × Nat) [0, 1, 2] (fun g => [(3, .int .i64 g.2), (4, .int .i64 g.1)]) [] (fun g => []) (fun g Bx => Bx = B ∧ g.1 ≤ x.mail.length ∧ g.2 = sizeMs (x.mail.take g.1) ∧ g.2 ≤ g.1 * 2000000) (fun g => x.mail.length - g.1) (0, 0) ⟨rfl, rfl, trivial⟩ rfl (⟨rfl, Nat.zero_le _, by simp [sizeMs], by omega⟩) (fun g B2 hle2 hI => ?_)
  obtain ⟨rfl, hk, hs, hl⟩ := hI
  refine wTd [(0, _), (1, _), (2, _), (3, _), (4, _)] [_] ⟨rfl, rfl, rfl, rfl, rfl, trivial⟩ rfl ?_
  refine w_seq ?_
  refine wSR ?_
  refine xMv ?_
  refine oX (wFA rfl rfl fo38x1 rfl ?_)
  refine oX (w_load1 rfl rfl lk36 rfl (atL 0 rfl rfl rfl) ?_)
  refine oX (w_lenV rfl rfl Tryz.underlying36 rfl ?_)
  refine oX (w_lss rfl rfl rfl rfl ?_)
  refine wKp [(0, _), (1, _), (2, _), (3, _), (4, _), (9, _)] ⟨rfl, rfl, rfl, rfl, rfl, rfl, trivial⟩ ?_
  refine wCd rfl (fun g1 => ?_) (fun g1 => ?_)
  · try simp only [sQ1, sQ2, sQ3, sQ4, sQ5, sQ6, sQ7, sQ8, ne_eq] at g1
    refine w_skip ?_
    refine thn_n ?_
    refine w_seq ?_
    refine w_block ?_
    refine w_region ?_
    refine xMv ?_
    refine oX (wFA rfl rfl fo38x1 rfl ?_)
    refine oX (w_load1 rfl rfl lk36 rfl (atL 0 rfl rfl rfl) ?_)
    refine xMv ?_
    obtain ⟨m, hm⟩ := getLt (xs := x.mail) (i := g.1) (by first | omega | (simp; done) | (simp; omega))
    obtain ⟨bb4, oo4, rfl⟩ := hx.base hm
    obtain ⟨_, ⟨rfl, hb5⟩, hc5⟩ := hx.elem hm
    refine oX (w_ixB rfl rfl Tryz.underlying36 sz116 rfl rfl (by first | omega | (simp; done) | (simp; omega)) (by first | omega | (simp; done) | (simp; omega)) ?_)
    refine oX (wFA rfl rfl fo116x2 rfl ?_)
    refine oX (w_load1 rfl rfl lk9 rfl (hc5 _ 2 _ rfl) ?_)
    refine oX (w_lenS rfl rfl Tryz.underlying9 rfl ?_)
    refine oX (w_add rfl rfl rfl rfl (by first | exact wrI64 (by first | omega | (simp; done) | (simp; omega)) (by first | omega | (simp; done) | (simp; omega)) | rfl) ?_)
    refine xAs ?_
    refine inB_n (thn_n ?_)
    refine w_region ?_
    refine xMv ?_
    refine oX (w_add rfl rfl rfl rfl (by first | exact wrI64 (by first | omega | (simp; done) | (simp; omega)) (by first | omega | (simp; done) | (simp; omega)) | rfl) ?_)
    refine xAs ?_
    exact rndE_n (g.1 + 1, g.2 + m.text.length) [0] (by first | omega | (simp only []; omega)) ⟨rfl, by omega, by rw [sizeMs_next hm, ← hs], by omega⟩ ⟨rfl, rfl, rfl, rfl, rfl, trivial⟩ rfl
  · try simp only [sQ1, sQ2, sQ3, sQ4, sQ5, sQ6, sQ7, sQ8, ne_eq] at g1
    refine w_exit (thn_x (rndE_x (inB_hit (thn_n ?_))))
    refine wSR ?_
    refine xMv ?_
    refine xAs ?_
    refine wKp [(0, _), (1, _), (2, _), (3, _), (4, _), (9, _)] ⟨rfl, rfl, rfl, rfl, rfl, rfl, trivial⟩ ?_
    refine w_ret ?_
    exact end0 .ret (.inl rfl) [_] ⟨rfl, trivial⟩ ⟨int_eq (by rw [← sizeMs_end hs (by omega)]), rfl, rfl⟩

set_option maxRecDepth 4000 in
set_option maxHeartbeats 400000 in
theorem boxSize_c (q : Option Addr) (cp : Nat) (x : DBox) (B : Kn) (hx : SlK B q cp 3 MailR x.mail) : RetB (pj J) 36 [.agg #[.int .i64 x.next, .slice q x.mail.length cp]] B (.int .i64 (boxSize x)) := by
  refine cBB 23 Tryz.func36 rfl rfl rfl (Nat.le_of_ble_eq_true rfl) ?_
  have hxn := hx.len
  refine wSR ?_
  refine oX (w_box (l := [_, _]) rfl rfl rfl rfl (fun b1 => ?_))
  refine xAs ?_
  refine wTd [(0, _), (1, _), (2, _)] [_] ⟨rfl, rfl, rfl, trivial⟩ rfl ?_
  refine w_seq ?_
  refine wSR ?_
  refine oX (w_loadN [_, _] rfl rfl lk38 rfl (rowL 0 rfl rfl rfl) ?_)
  refine oX (w_retB rfl rfl en91 rfl (implBox_c _ _ (⟨x.next, x.mail⟩ : DBox) _ hx) ?_)
  refine oX (w_not rfl rfl rfl ?_)
  refine wKp [(0, _), (1, _), (2, _), (8, _)] ⟨rfl, rfl, rfl, rfl, trivial⟩ ?_
  refine wCd rfl (fun g0 => ?_) (fun g0 => ?_)
  · try simp only [sQ1, sQ2, sQ3, sQ4, sQ5, sQ6, sQ7, sQ8, ne_eq] at g0
    refine wSR ?_
    refine xAs ?_
    refine wKp [(0, _), (1, _), (2, _), (8, _)] ⟨rfl, rfl, rfl, rfl, trivial⟩ ?_
    refine w_ret (thn_r ?_)
    exact end0 .ret (.inl rfl) [_] ⟨rfl, trivial⟩ ⟨int_eq (by simp [boxSize, g0]), rfl, rfl⟩
  · try simp only [sQ1, sQ2, sQ3, sQ4, sQ5, sQ6, sQ7, sQ8, ne_eq] at g0
    refine w_skip ?_
    refine thn_n ?_
    refine wSR ?_
    refine xAs ?_
    refine wKp [(0, _), (1, _), (2, _), (3, _), (8, _)] ⟨rfl, rfl, rfl, rfl, rfl, trivial⟩ ?_
    refine w_seq ?_
    refine wSR ?_
    refine oX (wFA rfl rfl fo38x1 rfl ?_)
    refine oX (w_load1 rfl rfl lk36 rfl (atL 0 rfl rfl rfl) ?_)
    refine oX (w_lenV rfl rfl Tryz.underlying36 rfl ?_)
    refine xMv ?_
    refine wKp [(0, _), (1, _), (2, _), (3, _), (8, _), (10, _), (11, _), (12, _)] ⟨rfl, rfl, rfl, rfl, rfl, rfl, rfl, rfl, trivial⟩ ?_
    refine w_block ?_
    refine w_loopE (α := Nat × Nat) [0, 1, 2, 8, 10, 11] (fun g => [(3, .int .i64 g.2), (12, .int .i64 g.1)]) [] (fun g => []) (fun g Bx => Bx = B ∧ g.1 ≤ x.mail.length ∧ g.2 = sizeMs (x.mail.take g.1) ∧ g.2 ≤ g.1 * 2000000) (fun g => x.mail.length - g.1) (0, 0) ⟨rfl, rfl, trivial⟩ rfl (⟨rfl, Nat.zero_le _, by simp [sizeMs], by omega⟩) (fun g B3 hle3 hI => ?_)
    obtain ⟨rfl, hk, hs, hl⟩ := hI
    refine wTd [(0, _), (1, _), (2, _), (3, _), (8, _), (10, _), (11, _), (12, _)] [_] ⟨rfl, rfl, rfl, rfl, rfl, rfl, rfl, rfl, trivial⟩ rfl ?_
    refine wSR ?_
    refine oX (w_lss rfl rfl rfl rfl ?_)
    refine wKp [(0, _), (1, _), (2, _), (3, _), (8, _), (10, _), (11, _), (12, _), (13, _)] ⟨rfl, rfl, rfl, rfl, rfl, rfl, rfl, rfl, rfl, trivial⟩ ?_
    refine w_seq ?_
    refine wCd rfl (fun g1 => ?_) (fun g1 => ?_)
    · try simp only [sQ1, sQ2, sQ3, sQ4, sQ5, sQ6, sQ7, sQ8, ne_eq] at g1
      refine w_skip ?_
      refine thn_n ?_
      refine w_seq ?_
      refine w_block ?_
      refine wSR ?_
      obtain ⟨m, hm⟩ := getLt (xs := x.mail) (i := g.1) (by first | omega | (simp; done) | (simp; omega))
      obtain ⟨bb5, oo5, rfl⟩ := hx.base hm
      obtain ⟨_, ⟨rfl, hb6⟩, hc6⟩ := hx.elem hm
      refine oX (w_ixB rfl rfl Tryz.underlying36 sz116 rfl rfl (by first | omega | (simp; done) | (simp; omega)) (by first | omega | (simp; done) | (simp; omega)) ?_)
      refine oX (w_loadN [_, _, _] rfl rfl lk116 rfl (rowK hc6 0 rfl rfl) ?_)
      refine oX (w_alloc (l := [_, _, _]) rfl rfl zo116 rfl (fun b7 => ?_))
      refine oX (w_store [_, _, _] 1 [_, _, _] rfl rfl sz116 rfl rfl rfl rfl rfl rfl rfl rfl ?_)
      refine wTd [(0, _), (1, _), (2, _), (3, _), (5, _), (8, _), (10, _), (11, _), (12, _), (13, _)] [_, _] ⟨rfl, rfl, rfl, rfl, rfl, rfl, rfl, rfl, rfl, rfl, trivial⟩ rfl ?_
      refine w_region ?_
      refine xMv ?_
      refine oX (wFA rfl rfl fo116x2 rfl ?_)
      refine oX (w_load1 rfl rfl lk9 rfl (atL 1 rfl rfl rfl) ?_)
      refine oX (w_lenS rfl rfl Tryz.underlying9 rfl ?_)
      refine oX (w_add rfl rfl rfl rfl (by first | exact wrI64 (by first | omega | (simp; done) | (simp; omega)) (by first | omega | (simp; done) | (simp; omega)) | rfl) ?_)
      refine xAs ?_
      refine inB_n (thn_n ?_)
      refine w_region ?_
      refine oX (w_add rfl rfl rfl rfl (by first | exact wrI64 (by first | omega | (simp; done) | (simp; omega)) (by first | omega | (simp; done) | (simp; omega)) | rfl) ?_)
      refine xMv ?_
      exact rndE_n (g.1 + 1, g.2 + m.text.length) [0] (by first | omega | (simp only []; omega)) ⟨rfl, by omega, by rw [sizeMs_next hm, ← hs], by omega⟩ ⟨rfl, rfl, rfl, rfl, rfl, rfl, rfl, rfl, trivial⟩ rfl
    · try simp only [sQ1, sQ2, sQ3, sQ4, sQ5, sQ6, sQ7, sQ8, ne_eq] at g1
      refine w_exit (thn_x (rndE_x (inB_hit (thn_n ?_))))
      refine wSR ?_
      refine xMv ?_
      refine xAs ?_
      refine wKp [(0, _), (1, _), (2, _), (3, _), (8, _), (10, _), (11, _), (12, _), (13, _)] ⟨rfl, rfl, rfl, rfl, rfl, rfl, rfl, rfl, rfl, trivial⟩ ?_
      refine w_ret ?_
      exact end0 .ret (.inl rfl) [_] ⟨rfl, trivial⟩ ⟨int_eq (by rw [boxSize, if_pos g0, ← sizeMs_end hs (by omega)]), rfl, rfl⟩

set_option maxRecDepth 4000 in
set_option maxHeartbeats 400000 in
theorem rights_c (n : Int) (B : Kn) : RetB (pj J) 208 [.int .i64 n] B (.bool (decide (0 ≤ n) && decide (n ≤ 63))) := by
  refine cBB 9 Tryz.func208 rfl rfl rfl (Nat.le_of_ble_eq_true rfl) ?_
  refine wSR ?_
  refine xAs ?_
  refine wKp [(0, _), (2, _)] ⟨rfl, rfl, trivial⟩ ?_
  refine wSR ?_
  refine xMv ?_
  refine oX (w_geq rfl rfl rfl rfl ?_)
  refine xMv ?_
  refine r_split (d := 5) rfl (fun g1 => ?_) (fun g1 => ?_)
  · try simp only [sQ1, sQ2, sQ3, sQ4, sQ5, sQ6, sQ7, sQ8, ne_eq] at g1
    refine xMv ?_
    refine oX (w_leq rfl rfl rfl rfl ?_)
    refine oX (w_pickT rfl rfl rfl rfl ?_)
    refine xAs ?_
    refine wKp [(0, _), (2, _)] ⟨rfl, rfl, trivial⟩ ?_
    refine w_ret ?_
    exact end0 .ret (.inl rfl) [_] ⟨rfl, trivial⟩ ⟨bool_eq (by rw [Bool.eq_iff_iff]; simp [g1]; try omega), rfl, rfl⟩
  · try simp only [sQ1, sQ2, sQ3, sQ4, sQ5, sQ6, sQ7, sQ8, ne_eq] at g1
    refine oX (w_pass rfl rfl ?_)
    refine oX (w_pass rfl rfl ?_)
    refine oX (w_pickF rfl rfl rfl rfl ?_)
    refine xAs ?_
    refine wKp [(0, _), (2, _)] ⟨rfl, rfl, trivial⟩ ?_
    refine w_ret ?_
    exact end0 .ret (.inl rfl) [_] ⟨rfl, trivial⟩ ⟨bool_eq (by rw [Bool.eq_iff_iff]; simp [g1]; try omega), rfl, rfl⟩

set_option maxRecDepth 4000 in
set_option maxHeartbeats 400000 in
theorem userValid_c (u : DUser) (h1 : u.name.length ≤ 2000000) (h2 : u.pass.length ≤ 2000000) (B : Kn) : RetB (pj J) 104 [.agg #[str u.name, str u.pass, .int .i64 u.quota]] B (.bool (userOk u)) := by
  refine cBB 26 Tryz.func104 rfl rfl rfl (Nat.le_of_ble_eq_true rfl) ?_
  refine wSR ?_
  refine oX (w_box (l := [_, _, _]) rfl rfl rfl rfl (fun b1 => ?_))
  refine xAs ?_
  refine wTd [(0, _), (1, _), (2, _)] [_] ⟨rfl, rfl, rfl, trivial⟩ rfl ?_
  refine wSR ?_
  refine oX (wFA rfl rfl fo44x0 rfl ?_)
  refine oX (w_load1 rfl rfl lk9 rfl (atL 0 rfl rfl rfl) ?_)
  refine oX (w_retB rfl rfl en115 rfl (implName_c _ (by first | assumption | omega | (simp; done) | (simp; omega)) _) ?_)
  refine xMv ?_
  refine r_split (d := 6) rfl (fun g1 => ?_) (fun g1 => ?_)
  · try simp only [sQ1, sQ2, sQ3, sQ4, sQ5, sQ6, sQ7, sQ8, ne_eq] at g1
    refine oX (wFA rfl rfl fo44x0 rfl ?_)
    refine oX (w_load1 rfl rfl lk9 rfl (atL 0 rfl rfl rfl) ?_)
    refine oX (w_neqS rfl rfl rfl rfl ?_)
    refine oX (w_pickT rfl rfl rfl rfl ?_)
    refine xMv ?_
    refine r_split (d := 11) rfl (fun g2 => ?_) (fun g2 => ?_)
    · try simp only [sQ1, sQ2, sQ3, sQ4, sQ5, sQ6, sQ7, sQ8, ne_eq] at g2
      refine oX (wFA rfl rfl fo44x1 rfl ?_)
      refine oX (w_load1 rfl rfl lk9 rfl (atL 0 rfl rfl rfl) ?_)
      refine oX (w_retB rfl rfl en115 rfl (implName_c _ (by first | assumption | omega | (simp; done) | (simp; omega)) _) ?_)
      refine oX (w_pickT rfl rfl rfl rfl ?_)
      refine xMv ?_
      refine r_split (d := 16) rfl (fun g3 => ?_) (fun g3 => ?_)
      · try simp only [sQ1, sQ2, sQ3, sQ4, sQ5, sQ6, sQ7, sQ8, ne_eq] at g3
        refine oX (wFA rfl rfl fo44x2 rfl ?_)
        refine oX (w_load1 rfl rfl lk3 rfl (atL 0 rfl rfl rfl) ?_)
        refine oX (w_geq rfl rfl rfl rfl ?_)
        refine oX (w_pickT rfl rfl rfl rfl ?_)
        refine xMv ?_
        refine r_split (d := 21) rfl (fun g4 => ?_) (fun g4 => ?_)
        · try simp only [sQ1, sQ2, sQ3, sQ4, sQ5, sQ6, sQ7, sQ8, ne_eq] at g4
          refine oX (wFA rfl rfl fo44x2 rfl ?_)
          refine oX (w_load1 rfl rfl lk3 rfl (atL 0 rfl rfl rfl) ?_)
          refine oX (w_leq rfl rfl rfl rfl ?_)
          refine oX (w_pickT rfl rfl rfl rfl ?_)
          refine xAs ?_
          refine wKp [(0, _), (1, _), (2, _)] ⟨rfl, rfl, rfl, trivial⟩ ?_
          refine w_ret ?_
          exact end0 .ret (.inl rfl) [_] ⟨rfl, trivial⟩ ⟨bool_eq (by rw [Bool.eq_iff_iff]; simp [userOk, anyone, g1, g2, g3, g4]; try omega), rfl, rfl⟩
        · try simp only [sQ1, sQ2, sQ3, sQ4, sQ5, sQ6, sQ7, sQ8, ne_eq] at g4
          refine oX (w_pass rfl rfl ?_)
          refine oX (w_pass rfl rfl ?_)
          refine oX (w_pass rfl rfl ?_)
          refine oX (w_pickF rfl rfl rfl rfl ?_)
          refine xAs ?_
          refine wKp [(0, _), (1, _), (2, _)] ⟨rfl, rfl, rfl, trivial⟩ ?_
          refine w_ret ?_
          exact end0 .ret (.inl rfl) [_] ⟨rfl, trivial⟩ ⟨bool_eq (by rw [Bool.eq_iff_iff]; simp [userOk, anyone, g1, g2, g3, g4]; try omega), rfl, rfl⟩
      · try simp only [sQ1, sQ2, sQ3, sQ4, sQ5, sQ6, sQ7, sQ8, ne_eq] at g3
        refine oX (w_pass rfl rfl ?_)
        refine oX (w_pass rfl rfl ?_)
        refine oX (w_pass rfl rfl ?_)
        refine oX (w_pickF rfl rfl rfl rfl ?_)
        refine xMv ?_
        refine oX (w_pass rfl rfl ?_)
        refine oX (w_pass rfl rfl ?_)
        refine oX (w_pass rfl rfl ?_)
        refine oX (w_pickF rfl rfl rfl rfl ?_)
        refine xAs ?_
        refine wKp [(0, _), (1, _), (2, _)] ⟨rfl, rfl, rfl, trivial⟩ ?_
        refine w_ret ?_
        exact end0 .ret (.inl rfl) [_] ⟨rfl, trivial⟩ ⟨bool_eq (by rw [Bool.eq_iff_iff]; simp [userOk, anyone, g1, g2, g3]; try omega), rfl, rfl⟩
    · try simp only [sQ1, sQ2, sQ3, sQ4, sQ5, sQ6, sQ7, sQ8, ne_eq] at g2
      refine oX (w_pass rfl rfl ?_)
      refine oX (w_pass rfl rfl ?_)
      refine oX (w_pass rfl rfl ?_)
      refine oX (w_pickF rfl rfl rfl rfl ?_)
      refine xMv ?_
      refine oX (w_pass rfl rfl ?_)
      refine oX (w_pass rfl rfl ?_)
      refine oX (w_pass rfl rfl ?_)
      refine oX (w_pickF rfl rfl rfl rfl ?_)
      refine xMv ?_
      refine oX (w_pass rfl rfl ?_)
      refine oX (w_pass rfl rfl ?_)
      refine oX (w_pass rfl rfl ?_)
      refine oX (w_pickF rfl rfl rfl rfl ?_)
      refine xAs ?_
      refine wKp [(0, _), (1, _), (2, _)] ⟨rfl, rfl, rfl, trivial⟩ ?_
      refine w_ret ?_
      exact end0 .ret (.inl rfl) [_] ⟨rfl, trivial⟩ ⟨bool_eq (by rw [Bool.eq_iff_iff]; simp [userOk, anyone, g1, g2]; try omega), rfl, rfl⟩
  · try simp only [sQ1, sQ2, sQ3, sQ4, sQ5, sQ6, sQ7, sQ8, ne_eq] at g1
    refine oX (w_pass rfl rfl ?_)
    refine oX (w_pass rfl rfl ?_)
    refine oX (w_pass rfl rfl ?_)
    refine oX (w_pickF rfl rfl rfl rfl ?_)
    refine xMv ?_
    refine oX (w_pass rfl rfl ?_)
    refine oX (w_pass rfl rfl ?_)
    refine oX (w_pass rfl rfl ?_)
    refine oX (w_pickF rfl rfl rfl rfl ?_)
    refine xMv ?_
    refine oX (w_pass rfl rfl ?_)
    refine oX (w_pass rfl rfl ?_)
    refine oX (w_pass rfl rfl ?_)
    refine oX (w_pickF rfl rfl rfl rfl ?_)
    refine xMv ?_
    refine oX (w_pass rfl rfl ?_)
    refine oX (w_pass rfl rfl ?_)
    refine oX (w_pass rfl rfl ?_)
    refine oX (w_pickF rfl rfl rfl rfl ?_)
    refine xAs ?_
    refine wKp [(0, _), (1, _), (2, _)] ⟨rfl, rfl, rfl, trivial⟩ ?_
    refine w_ret ?_
    exact end0 .ret (.inl rfl) [_] ⟨rfl, trivial⟩ ⟨bool_eq (by rw [Bool.eq_iff_iff]; simp [userOk, anyone, g1]; try omega), rfl, rfl⟩

set_option maxRecDepth 4000 in
set_option maxHeartbeats 400000 in
theorem implUsers_c (q : Option Addr) (cp : Nat) (us : List DUser) (B : Kn) (hu : SlK B q cp 3 UserR us) : RetB (pj J) 47 [.slice q us.length cp] B (.bool (usersOk us)) := by
  refine cBB 32 Tryz.func47 rfl rfl rfl (Nat.le_of_ble_eq_true rfl) ?_
  have hun := hu.len
  refine wSR ?_
  refine xAs ?_
  refine wKp [(0, _), (2, _)] ⟨rfl, rfl, trivial⟩ ?_
  refine w_seq ?_
  refine wSR ?_
  refine xMv ?_
  refine oX (w_lenV rfl rfl Tryz.underlying23 rfl ?_)
  refine oX (w_lss rfl rfl rfl rfl ?_)
  refine xMv ?_
  refine r_split (d := 9) rfl (fun g0 => ?_) (fun g0 => ?_)
  · try simp only [sQ1, sQ2, sQ3, sQ4, sQ5, sQ6, sQ7, sQ8, ne_eq] at g0
    refine oX (w_pass rfl rfl ?_)
    refine oX (w_pass rfl rfl ?_)
    refine oX (w_pass rfl rfl ?_)
    refine oX (w_pickT rfl rfl rfl rfl ?_)
    refine wKp [(0, _), (2, _), (13, _)] ⟨rfl, rfl, rfl, trivial⟩ ?_
    refine wCd (t := true) rfl (fun _ => ?_) (fun h => Bool.noConfusion h)
    refine wSR ?_
    refine xAs ?_
    refine wKp [(0, _), (2, _), (13, _)] ⟨rfl, rfl, rfl, trivial⟩ ?_
    refine w_ret (thn_r ?_)
    exact end0 .ret (.inl rfl) [_] ⟨rfl, trivial⟩ ⟨bool_eq (by rw [Bool.eq_iff_iff]; simp [usersOk]; omega), rfl, rfl⟩
  · try simp only [sQ1, sQ2, sQ3, sQ4, sQ5, sQ6, sQ7, sQ8, ne_eq] at g0
    refine xMv ?_
    refine oX (w_lenV rfl rfl Tryz.underlying23 rfl ?_)
    refine oX (w_gtr rfl rfl rfl rfl ?_)
    refine oX (w_pickF rfl rfl rfl rfl ?_)
    refine wKp [(0, _), (2, _), (13, _)] ⟨rfl, rfl, rfl, trivial⟩ ?_
    refine wCd rfl (fun g0b => ?_) (fun g0b => ?_)
    · try simp only [sQ1, sQ2, sQ3, sQ4, sQ5, sQ6, sQ7, sQ8, ne_eq] at g0b
      refine wSR ?_
      refine xAs ?_
      refine wKp [(0, _), (2, _), (13, _)] ⟨rfl, rfl, rfl, trivial⟩ ?_
      refine w_ret (thn_r ?_)
      exact end0 .ret (.inl rfl) [_] ⟨rfl, trivial⟩ ⟨bool_eq (by rw [Bool.eq_iff_iff]; simp [usersOk]; omega), rfl, rfl⟩
    · try simp only [sQ1, sQ2, sQ3, sQ4, sQ5, sQ6, sQ7, sQ8, ne_eq] at g0b
      refine w_skip ?_
      refine thn_n ?_
      refine wSR ?_
      refine xAs ?_
      refine wKp [(0, _), (2, _), (3, _), (13, _)] ⟨rfl, rfl, rfl, rfl, trivial⟩ ?_
      refine w_seq ?_
      refine wSR ?_
      refine xMv ?_
      refine oX (w_lenV rfl rfl Tryz.underlying23 rfl ?_)
      refine xMv ?_
      refine wKp [(0, _), (2, _), (3, _), (13, _), (14, _), (15, _), (16, _)] ⟨rfl, rfl, rfl, rfl, rfl, rfl, rfl, trivial⟩ ?_
      refine w_block ?_
      refine w_loopE (α := Nat × Str) [0, 13, 14, 15] (fun g => [(3, str g.2), (16, .int .i64 g.1)]) [] (fun g => []) (fun g Bx => Bx = B ∧ g.1 ≤ us.length ∧ userScan (us.take g.1) = (true, g.2) ∧ g.2.length ≤ 2000000) (fun g => us.length - g.1) (0, []) ⟨rfl, rfl, trivial⟩ rfl (⟨rfl, Nat.zero_le _, scn_nil, by simp⟩) (fun g B1 hle1 hI => ?_)
      obtain ⟨rfl, hk, hs, hl⟩ := hI
      refine wTd [(0, _), (3, _), (13, _), (14, _), (15, _), (16, _)] [] ⟨rfl, rfl, rfl, rfl, rfl, rfl, trivial⟩ rfl ?_
      refine wSR ?_
      refine oX (w_lss rfl rfl rfl rfl ?_)
      refine wKp [(0, _), (3, _), (13, _), (14, _), (15, _), (16, _), (17, _)] ⟨rfl, rfl, rfl, rfl, rfl, rfl, rfl, trivial⟩ ?_
      refine w_seq ?_
      refine wCd rfl (fun g1 => ?_) (fun g1 => ?_)
      · try simp only [sQ1, sQ2, sQ3, sQ4, sQ5, sQ6, sQ7, sQ8, ne_eq] at g1
        refine w_skip ?_
        refine thn_n ?_
        refine w_seq ?_
        refine w_block ?_
        refine wSR ?_
        obtain ⟨m, hm⟩ := getLt (xs := us) (i := g.1) (by first | omega | (simp; done) | (simp; omega))
        obtain ⟨bb3, oo3, rfl⟩ := hu.base hm
        obtain ⟨_, ⟨rfl, hb4, hb4b⟩, hc4⟩ := hu.elem hm
        refine oX (w_ixB rfl rfl Tryz.underlying23 sz44 rfl rfl (by first | omega | (simp; done) | (simp; omega)) (by first | omega | (simp; done) | (simp; omega)) ?_)
        refine oX (w_loadN [_, _, _] rfl rfl lk44 rfl (rowK hc4 0 rfl rfl) ?_)
        refine oX (w_alloc (l := [_, _, _]) rfl rfl zo44 rfl (fun b5 => ?_))
        refine oX (w_store [_, _, _] 0 [_, _, _] rfl rfl sz44 rfl rfl rfl rfl rfl rfl rfl rfl ?_)
        refine wTd [(0, _), (3, _), (5, _), (13, _), (14, _), (15, _), (16, _), (17, _)] [_] ⟨rfl, rfl, rfl, rfl, rfl, rfl, rfl, rfl, trivial⟩ rfl ?_
        refine w_seq ?_
        refine wSR ?_
        refine oX (w_loadN [_, _, _] rfl rfl lk44 rfl (rowL 0 rfl rfl rfl) ?_)
        refine oX (w_retB rfl rfl en104 rfl (userValid_c m (by first | assumption | omega | (simp; done) | (simp; omega)) (by first | assumption | omega | (simp; done) | (simp; omega)) _) ?_)
        refine oX (w_not rfl rfl rfl ?_)
        refine xMv ?_
        refine r_split (d := 23) rfl (fun g2 => ?_) (fun g2 => ?_)
        · try simp only [sQ1, sQ2, sQ3, sQ4, sQ5, sQ6, sQ7, sQ8, ne_eq] at g2
          refine oX (w_pass rfl rfl ?_)
          refine oX (w_pass rfl rfl ?_)
          refine oX (w_pass rfl rfl ?_)
          refine oX (w_pass rfl rfl ?_)
          refine oX (w_pickT rfl rfl rfl rfl ?_)
          refine wKp [(0, _), (3, _), (5, _), (13, _), (14, _), (15, _), (16, _), (17, _), (28, _)] ⟨rfl, rfl, rfl, rfl, rfl, rfl, rfl, rfl, rfl, trivial⟩ ?_
          refine wCd (t := true) rfl (fun _ => ?_) (fun h => Bool.noConfusion h)
          refine wSR ?_
          refine xAs ?_
          refine wKp [(0, _), (2, _), (3, _), (5, _), (13, _), (14, _), (15, _), (16, _), (17, _), (28, _)] ⟨rfl, rfl, rfl, rfl, rfl, rfl, rfl, rfl, rfl, rfl, trivial⟩ ?_
          refine w_ret (thn_r (inB_r (thn_r (rndE_r (inB_r (thn_r ?_))))))
          exact end0 .ret (.inl rfl) [_] ⟨rfl, trivial⟩ ⟨bool_eq (usersOk_bad (scn_hit hm (by rw [show (scn userP (fun _ u => u.name) [] (us.take g.1)).2 = g.2 from congrArg Prod.snd hs]; simp [userP, g2]))).symm, rfl, rfl⟩
        · try simp only [sQ1, sQ2, sQ3, sQ4, sQ5, sQ6, sQ7, sQ8, ne_eq] at g2
          refine oX (wFA rfl rfl fo44x0 rfl ?_)
          refine oX (w_load1 rfl rfl lk9 rfl (atL 0 rfl rfl rfl) ?_)
          refine xMv ?_
          refine oX (w_leqS rfl rfl rfl rfl ?_)
          refine oX (w_pickF rfl rfl rfl rfl ?_)
          refine wKp [(0, _), (3, _), (5, _), (13, _), (14, _), (15, _), (16, _), (17, _), (28, _)] ⟨rfl, rfl, rfl, rfl, rfl, rfl, rfl, rfl, rfl, trivial⟩ ?_
          refine wCd rfl (fun g3 => ?_) (fun g3 => ?_)
          · try simp only [sQ1, sQ2, sQ3, sQ4, sQ5, sQ6, sQ7, sQ8, ne_eq] at g3
            refine wSR ?_
            refine xAs ?_
            refine wKp [(0, _), (2, _), (3, _), (5, _), (13, _), (14, _), (15, _), (16, _), (17, _), (28, _)] ⟨rfl, rfl, rfl, rfl, rfl, rfl, rfl, rfl, rfl, rfl, trivial⟩ ?_
            refine w_ret (thn_r (inB_r (thn_r (rndE_r (inB_r (thn_r ?_))))))
            exact end0 .ret (.inl rfl) [_] ⟨rfl, trivial⟩ ⟨bool_eq (usersOk_bad (scn_hit hm (by rw [show (scn userP (fun _ u => u.name) [] (us.take g.1)).2 = g.2 from congrArg Prod.snd hs, userP, less_total g.2 m.name, g3]; simp))).symm, rfl, rfl⟩
          · try simp only [sQ1, sQ2, sQ3, sQ4, sQ5, sQ6, sQ7, sQ8, ne_eq] at g3
            refine w_skip ?_
            refine thn_n ?_
            refine w_region ?_
            refine oX (wFA rfl rfl fo44x0 rfl ?_)
            refine oX (w_load1 rfl rfl lk9 rfl (atL 0 rfl rfl rfl) ?_)
            refine xAs ?_
            refine inB_n (thn_n ?_)
            refine w_region ?_
            refine oX (w_add rfl rfl rfl rfl (by first | exact wrI64 (by first | omega | (simp; done) | (simp; omega)) (by first | omega | (simp; done) | (simp; omega)) | rfl) ?_)
            refine xMv ?_
            exact rndE_n (g.1 + 1, m.name) [] (by first | omega | (simp only []; omega)) ⟨rfl, by omega, scn_step hm hs (by rw [userP, less_total g.2 m.name, g2, g3]; rfl), by assumption⟩ ⟨rfl, rfl, rfl, rfl, rfl, rfl, trivial⟩ rfl
      · try simp only [sQ1, sQ2, sQ3, sQ4, sQ5, sQ6, sQ7, sQ8, ne_eq] at g1
        refine w_exit (thn_x (rndE_x (inB_hit (thn_n ?_))))
        refine wSR ?_
        refine xAs ?_
        refine wKp [(0, _), (2, _), (3, _), (13, _), (14, _), (15, _), (16, _), (17, _)] ⟨rfl, rfl, rfl, rfl, rfl, rfl, rfl, rfl, trivial⟩ ?_
        refine w_ret ?_
        exact end0 .ret (.inl rfl) [_] ⟨rfl, trivial⟩ ⟨bool_eq (by rw [usersOk_end (scn_end hs (by omega)), Bool.eq_iff_iff]; simp; omega), rfl, rfl⟩

set_option maxRecDepth 4000 in
set_option maxHeartbeats 400000 in
theorem usersFind1_c (x : DUser) (u : Str) (b : Nat) (h1 : x.name.length ≤ 2000000) (h2 : u.length ≤ 2000000) (B : Kn) (hb : RowAt' B b 0 [str u]) : RetB (pj J) 93 [.agg #[str x.name, str x.pass, .int .i64 x.quota], ptr ⟨b, 0, none⟩] B (.bool (decide (x.name = u))) := by
  refine cBB 8 Tryz.func93 rfl rfl rfl (Nat.le_of_ble_eq_true rfl) ?_
  refine wSR ?_
  refine oX (w_box (l := [_, _, _]) rfl rfl rfl rfl (fun b1 => ?_))
  refine xAs ?_
  refine wTd [(0, _), (1, _), (2, _), (3, _)] [_] ⟨rfl, rfl, rfl, rfl, trivial⟩ rfl ?_
  refine wSR ?_
  refine oX (wFA rfl rfl fo44x0 rfl ?_)
  refine oX (w_load1 rfl rfl lk9 rfl (atL 0 rfl rfl rfl) ?_)
  refine oX (w_load1 rfl rfl lk9 rfl (hb _ 0 _ rfl) ?_)
  refine oX (w_eqlS rfl rfl rfl rfl ?_)
  refine xAs ?_
  refine wKp [(0, _), (1, _), (2, _), (3, _)] ⟨rfl, rfl, rfl, rfl, trivial⟩ ?_
  refine w_ret ?_
  exact end0 .ret (.inl rfl) [_] ⟨rfl, trivial⟩ ⟨rfl, rfl, rfl⟩

set_option maxRecDepth 4000 in
set_option maxHeartbeats 400000 in
theorem findByU_c (q : Option Addr) (cp : Nat) (us : List DUser) (F : FuncId) (cap : Array Value) (t : DUser → Bool) (B : Kn) (hu : SlK B q cp 3 UserR us) (he : enters (pj J) F = true) (hF : ∀ x : DUser, x.name.length ≤ 2000000 → x.pass.length ≤ 2000000 → RetB (pj J) F ([.agg #[str x.name, str x.pass, .int .i64 x.quota]] ++ cap.toList) B (.bool (t x))) : RetB (pj J) 92 [.slice q us.length cp, .func (.func F) #[] cap] B (.tuple #[.agg #[str (findU t us).1.name, str (findU t us).1.pass, .int .i64 (findU t us).1.quota], .bool (findU t us).2]) := by
  refine cBB 21 Tryz.func92 rfl rfl rfl (Nat.le_of_ble_eq_true rfl) ?_
  have hun := hu.len
  refine wSR ?_
  refine oX (w_alloc (l := [_, _, _]) rfl rfl zo44 rfl (fun b1 => ?_))
  refine xAs ?_
  refine wTd [(0, _), (1, _), (4, _), (5, _)] [_] ⟨rfl, rfl, rfl, rfl, trivial⟩ rfl ?_
  refine w_seq ?_
  refine wSR ?_
  refine xMv ?_
  refine oX (w_lenV rfl rfl Tryz.underlying23 rfl ?_)
  refine xMv ?_
  refine wKp [(0, _), (1, _), (4, _), (5, _), (9, _), (10, _), (11, _)] ⟨rfl, rfl, rfl, rfl, rfl, rfl, rfl, trivial⟩ ?_
  refine w_block ?_
  refine w_loopE (α := Nat) [0, 1, 4, 9, 10] (fun k => [(11, .int .i64 k)]) [] (fun k => []) (fun k Bx => Bx = B ∧ k ≤ us.length ∧ ∀ y, y ∈ us.take k → t y = false) (fun k => us.length - k) 0 ⟨rfl, trivial⟩ rfl (⟨rfl, Nat.zero_le _, by simp⟩) (fun k B2 hle2 hI => ?_)
  obtain ⟨rfl, hk, ha⟩ := hI
  refine wTd [(0, _), (1, _), (4, _), (9, _), (10, _), (11, _)] [_] ⟨rfl, rfl, rfl, rfl, rfl, rfl, trivial⟩ rfl ?_
  refine wSR ?_
  refine oX (w_lss rfl rfl rfl rfl ?_)
  refine wKp [(0, _), (1, _), (4, _), (9, _), (10, _), (11, _), (12, _)] ⟨rfl, rfl, rfl, rfl, rfl, rfl, rfl, trivial⟩ ?_
  refine w_seq ?_
  refine wCd rfl (fun g1 => ?_) (fun g1 => ?_)
  · try simp only [sQ1, sQ2, sQ3, sQ4, sQ5, sQ6, sQ7, sQ8, ne_eq] at g1
    refine w_skip ?_
    refine thn_n ?_
    refine w_seq ?_
    refine w_block ?_
    refine wSR ?_
    obtain ⟨m, hm⟩ := getLt (xs := us) (i := k) (by first | omega | (simp; done) | (simp; omega))
    obtain ⟨bb4, oo4, rfl⟩ := hu.base hm
    obtain ⟨_, ⟨rfl, hb5, hb5b⟩, hc5⟩ := hu.elem hm
    refine oX (w_ixB rfl rfl Tryz.underlying23 sz44 rfl rfl (by first | omega | (simp; done) | (simp; omega)) (by first | omega | (simp; done) | (simp; omega)) ?_)
    refine oX (w_loadN [_, _, _] rfl rfl lk44 rfl (rowK hc5 0 rfl rfl) ?_)
    refine oX (w_alloc (l := [_, _, _]) rfl rfl zo44 rfl (fun b6 => ?_))
    refine oX (w_store [_, _, _] 1 [_, _, _] rfl rfl sz44 rfl rfl rfl rfl rfl rfl rfl rfl ?_)
    refine wTd [(0, _), (1, _), (4, _), (7, _), (9, _), (10, _), (11, _), (12, _)] [_, _] ⟨rfl, rfl, rfl, rfl, rfl, rfl, rfl, rfl, trivial⟩ rfl ?_
    refine wSR ?_
    refine xMv ?_
    refine oX (w_loadN [_, _, _] rfl rfl lk44 rfl (rowL 1 rfl rfl rfl) ?_)
    refine oX (w_retV rfl rfl he rfl rfl (hF m (by first | assumption | omega | (simp; done) | (simp; omega)) (by first | assumption | omega | (simp; done) | (simp; omega))) ?_)
    refine wKp [(0, _), (1, _), (4, _), (7, _), (9, _), (10, _), (11, _), (12, _), (17, _)] ⟨rfl, rfl, rfl, rfl, rfl, rfl, rfl, rfl, rfl, trivial⟩ ?_
    refine wCd rfl (fun g2 => ?_) (fun g2 => ?_)
    · try simp only [sQ1, sQ2, sQ3, sQ4, sQ5, sQ6, sQ7, sQ8, ne_eq] at g2
      refine wSR ?_
      refine oX (w_loadN [_, _, _] rfl rfl lk44 rfl (rowL 1 rfl rfl rfl) ?_)
      refine oX (w_store [_, _, _] 0 [_, _, _] rfl rfl sz44 rfl rfl rfl rfl rfl rfl rfl rfl ?_)
      refine xAs ?_
      refine wTd [(0, _), (1, _), (4, _), (5, _), (7, _), (9, _), (10, _), (11, _), (12, _), (17, _)] [_, _] ⟨rfl, rfl, rfl, rfl, rfl, rfl, rfl, rfl, rfl, rfl, trivial⟩ rfl ?_
      refine w_ret (inB_r (thn_r (rndE_r (inB_r (thn_r ?_)))))
      exact end0 .ret (.inl rfl) [_, _] ⟨⟨_, rfl, .inr ⟨[_, _, _], lk44, rowL 0 rfl rfl rfl, rfl⟩⟩, rfl, trivial⟩ ⟨by rw [findU_hit hm g2 ha]; rfl, rfl, rfl⟩
    · try simp only [sQ1, sQ2, sQ3, sQ4, sQ5, sQ6, sQ7, sQ8, ne_eq] at g2
      refine w_skip ?_
      refine inB_n (thn_n ?_)
      refine w_region ?_
      refine oX (w_add rfl rfl rfl rfl (by first | exact wrI64 (by first | omega | (simp; done) | (simp; omega)) (by first | omega | (simp; done) | (simp; omega)) | rfl) ?_)
      refine xMv ?_
      exact rndE_n (k + 1) [0] (by first | omega | (simp only []; omega)) ⟨rfl, by omega, all_next hm ha g2⟩ ⟨rfl, rfl, rfl, rfl, rfl, rfl, trivial⟩ rfl
  · try simp only [sQ1, sQ2, sQ3, sQ4, sQ5, sQ6, sQ7, sQ8, ne_eq] at g1
    refine w_exit (thn_x (rndE_x (inB_hit (thn_n ?_))))
    refine wSR ?_
    refine oX (w_alloc (l := [_, _, _]) rfl rfl zo44 rfl (fun b8 => ?_))
    refine wTd [(0, _), (1, _), (4, _), (8, _), (9, _), (10, _), (11, _), (12, _)] [_, _] ⟨rfl, rfl, rfl, rfl, rfl, rfl, rfl, rfl, trivial⟩ rfl ?_
    refine wSR ?_
    refine oX (w_loadN [_, _, _] rfl rfl lk44 rfl (rowL 1 rfl rfl rfl) ?_)
    refine oX (w_store [_, _, _] 0 [_, _, _] rfl rfl sz44 rfl rfl rfl rfl rfl rfl rfl rfl ?_)
    refine xAs ?_
    refine wTd [(0, _), (1, _), (4, _), (5, _), (8, _), (9, _), (10, _), (11, _), (12, _)] [_, _] ⟨rfl, rfl, rfl, rfl, rfl, rfl, rfl, rfl, rfl, trivial⟩ rfl ?_
    refine w_ret ?_
    exact end0 .ret (.inl rfl) [_, _] ⟨⟨_, rfl, .inr ⟨[_, _, _], lk44, rowL 0 rfl rfl rfl, rfl⟩⟩, rfl, trivial⟩ ⟨by rw [findU_none (take_end (by omega) ha)]; rfl, rfl, rfl⟩

set_option maxRecDepth 4000 in
set_option maxHeartbeats 400000 in
theorem usersFind_c (q : Option Addr) (cp : Nat) (us : List DUser) (nm : Str) (hn : nm.length ≤ 2000000) (B : Kn) (hu : SlK B q cp 3 UserR us) : RetB (pj J) 37 [.slice q us.length cp, str nm] B (.tuple #[.agg #[str (userFind us nm).1.name, str (userFind us nm).1.pass, .int .i64 (userFind us nm).1.quota], .bool (userFind us nm).2]) := by
  refine cBB 15 Tryz.func37 rfl rfl rfl (Nat.le_of_ble_eq_true rfl) ?_
  have hun := hu.len
  refine wSR ?_
  refine oX (w_box (l := [_]) rfl rfl rfl rfl (fun b1 => ?_))
  refine oX (w_alloc (l := [_, _, _]) rfl rfl zo44 rfl (fun b2 => ?_))
  refine xAs ?_
  refine wTd [(0, _), (1, _), (3, _), (4, _), (5, _)] [_, _] ⟨rfl, rfl, rfl, rfl, rfl, trivial⟩ rfl ?_
  refine w_seq ?_
  refine wSR ?_
  refine xMv ?_
  refine oX (w_retB rfl rfl en47 rfl (implUsers_c _ _ _ _ hu) ?_)
  refine oX (w_not rfl rfl rfl ?_)
  refine wKp [(0, _), (1, _), (3, _), (4, _), (5, _), (8, _)] ⟨rfl, rfl, rfl, rfl, rfl, rfl, trivial⟩ ?_
  refine wCd rfl (fun g0 => ?_) (fun g0 => ?_)
  · try simp only [sQ1, sQ2, sQ3, sQ4, sQ5, sQ6, sQ7, sQ8, ne_eq] at g0
    refine wSR ?_
    refine oX (w_build (parts := []) [_, _, _] [_, _, _] rfl rfl pl44 zo44 rfl rfl rfl ?_)
    refine oX (w_store [_, _, _] 1 [_, _, _] rfl rfl sz44 rfl rfl rfl rfl rfl rfl rfl rfl ?_)
    refine xAs ?_
    refine wTd [(0, _), (1, _), (3, _), (4, _), (5, _), (8, _)] [_, _] ⟨rfl, rfl, rfl, rfl, rfl, rfl, trivial⟩ rfl ?_
    refine w_ret (thn_r ?_)
    exact end0 .ret (.inl rfl) [_, _] ⟨⟨_, rfl, .inr ⟨[_, _, _], lk44, rowL 1 rfl rfl rfl, rfl⟩⟩, rfl, trivial⟩ ⟨by rw [userFind, g0]; rfl, rfl, rfl⟩
  · try simp only [sQ1, sQ2, sQ3, sQ4, sQ5, sQ6, sQ7, sQ8, ne_eq] at g0
    refine w_skip ?_
    refine thn_n ?_
    refine wSR ?_
    refine xMv ?_
    refine oX (w_makeFunc (xs := []) (ys := [_]) rfl rfl rfl rfl ?_)
    refine oX (w_ret1 0 rfl rfl rfl en92 rfl (RetB.borrow fun hm => findByU_c _ _ us 93 _ (fun y => decide (y.name = nm)) _ (hu.mono UserR.mono (Kn.le_add _ _)) en93 (fun y h1 h2 => usersFind1_c y nm _ h1 hn _ (rowK_box hm))) ?_)
    refine oX (w_extract rfl rfl rfl rfl ?_)
    refine oX (w_extract rfl rfl rfl rfl ?_)
    refine oX (w_store [_, _, _] 1 [_, _, _] rfl rfl sz44 rfl rfl rfl rfl rfl rfl rfl rfl ?_)
    refine xAs ?_
    refine wTd [(0, _), (1, _), (3, _), (4, _), (5, _), (8, _)] [_, _] ⟨rfl, rfl, rfl, rfl, rfl, rfl, trivial⟩ rfl ?_
    refine w_ret ?_
    exact end0 .ret (.inl rfl) [_, _] ⟨⟨_, rfl, .inr ⟨[_, _, _], lk44, rowL 1 rfl rfl rfl, rfl⟩⟩, rfl, trivial⟩ ⟨by rw [userFind, if_pos g0]; rfl, rfl, rfl⟩

set_option maxRecDepth 4000 in
set_option maxHeartbeats 400000 in
theorem isUser_c (b o : Nat) (q1 q2 q3 : Option Addr) (c1 c2 c3 : Nat) (x : DHost) (nm : Str) (hn : nm.length ≤ 2000000) (B : Kn) (hh : RowAt' B b o [str x.domain, .slice q1 x.users.length c1, .slice q2 x.folders.length c2, .int .i64 x.queue.next, .slice q3 x.queue.items.length c3]) (hu : SlK B q1 c1 3 UserR x.users) : RetB (pj J) 54 [ptr ⟨b, o, none⟩, str nm] B (.bool (userFind x.users nm).2) := by
  refine cBB 17 Tryz.func54 rfl rfl rfl (Nat.le_of_ble_eq_true rfl) ?_
  refine wSR ?_
  refine xAs ?_
  refine wKp [(0, _), (1, _), (4, _)] ⟨rfl, rfl, rfl, trivial⟩ ?_
  refine wSR ?_
  refine xMv ?_
  refine oX (w_nilCheck rfl rfl rfl ?_)
  refine oX (wFA rfl rfl fo31x1 rfl ?_)
  refine oX (w_load1 rfl rfl lk23 rfl (hh _ 1 _ rfl) ?_)
  refine xMv ?_
  refine oX (w_retB rfl rfl en37 rfl (usersFind_c _ _ _ nm (by first | assumption | omega | (simp; done) | (simp; omega)) _ hu) ?_)
  refine xMv ?_
  refine oX (w_extract rfl rfl rfl rfl ?_)
  refine oX (w_extract rfl rfl rfl rfl ?_)
  refine oX (w_alloc (l := [_, _, _]) rfl rfl zo44 rfl (fun b2 => ?_))
  refine oX (w_store [_, _, _] 0 [_, _, _] rfl rfl sz44 rfl rfl rfl rfl rfl rfl rfl rfl ?_)
  refine xAs ?_
  refine wTd [(0, _), (1, _), (4, _), (6, _)] [_] ⟨rfl, rfl, rfl, rfl, trivial⟩ rfl ?_
  refine wSR ?_
  refine xMv ?_
  refine xAs ?_
  refine wKp [(0, _), (1, _), (4, _), (6, _)] ⟨rfl, rfl, rfl, rfl, trivial⟩ ?_
  refine w_ret ?_
  exact end0 .ret (.inl rfl) [_] ⟨rfl, trivial⟩ ⟨rfl, rfl, rfl⟩

set_option maxRecDepth 4000 in
set_option maxHeartbeats 400000 in
theorem l31Find_c (q1 q2 q3 : Option Addr) (c1 c2 c3 : Nat) (x : DHost) (ow nm : Str) (ho : ow.length ≤ 2000000) (hn : nm.length ≤ 2000000) (B : Kn) (hf : SlK B q2 c2 5 FolderR x.folders) : RetB (pj J) 68 [.agg #[str x.domain, .slice q1 x.users.length c1, .slice q2 x.folders.length c2, .int .i64 x.queue.next, .slice q3 x.queue.items.length c3], str ow, str nm] B (.int .i64 (idxP (inF ow nm) x.folders)) := by
  refine cBB 34 Tryz.func68 rfl rfl rfl (Nat.le_of_ble_eq_true rfl) ?_
  have hfn := hf.len
  refine wSR ?_
  refine oX (w_box (l := [_, _, _, _, _]) rfl rfl rfl rfl (fun b1 => ?_))
  refine xAs ?_
  refine wTd [(0, _), (1, _), (2, _), (3, _), (6, _)] [_] ⟨rfl, rfl, rfl, rfl, rfl, trivial⟩ rfl ?_
  refine w_seq ?_
  refine wSR ?_
  refine xAs ?_
  refine wKp [(0, _), (1, _), (2, _), (3, _), (6, _), (7, _)] ⟨rfl, rfl, rfl, rfl, rfl, rfl, trivial⟩ ?_
  refine w_block ?_
  refine w_loopE (α := Nat) [0, 1, 2, 3] (fun k => [(7, .int .i64 k)]) [] (fun k => []) (fun k Bx => Bx = B ∧ k ≤ x.folders.length ∧ ∀ y, y ∈ x.folders.take k → inF ow nm y = false) (fun k => x.folders.length - k) 0 ⟨rfl, trivial⟩ rfl (⟨rfl, Nat.zero_le _, by simp⟩) (fun k B2 hle2 hI => ?_)
  obtain ⟨rfl, hk, ha⟩ := hI
  refine wTd [(0, _), (1, _), (2, _), (3, _), (7, _)] [_] ⟨rfl, rfl, rfl, rfl, rfl, trivial⟩ rfl ?_
  refine w_seq ?_
  refine wSR ?_
  refine xMv ?_
  refine oX (wFA rfl rfl fo31x2 rfl ?_)
  refine oX (w_load1 rfl rfl lk26 rfl (atL 0 rfl rfl rfl) ?_)
  refine oX (w_lenV rfl rfl Tryz.underlying26 rfl ?_)
  refine oX (w_lss rfl rfl rfl rfl ?_)
  refine wKp [(0, _), (1, _), (2, _), (3, _), (7, _), (12, _)] ⟨rfl, rfl, rfl, rfl, rfl, rfl, trivial⟩ ?_
  refine wCd rfl (fun g1 => ?_) (fun g1 => ?_)
  · try simp only [sQ1, sQ2, sQ3, sQ4, sQ5, sQ6, sQ7, sQ8, ne_eq] at g1
    refine w_skip ?_
    refine thn_n ?_
    refine w_seq ?_
    refine w_block ?_
    refine wSR ?_
    refine oX (wFA rfl rfl fo31x2 rfl ?_)
    refine oX (w_load1 rfl rfl lk26 rfl (atL 0 rfl rfl rfl) ?_)
    refine xMv ?_
    obtain ⟨y, hy⟩ := getLt (xs := x.folders) (i := k) (by first | omega | (simp; done) | (simp; omega))
    obtain ⟨bb4, oo4, rfl⟩ := hf.base hy
    obtain ⟨_, ⟨qg5, cg5, qm5, cm5, rfl, hg5, hm5, hb5, hb5b⟩, hc5⟩ := hf.elem hy
    have hg5n := hg5.len
    have hm5n := hm5.len
    have hm5s := sizeMs_le hm5
    refine oX (w_ixB rfl rfl Tryz.underlying26 sz40 rfl rfl (by first | omega | (simp; done) | (simp; omega)) (by first | omega | (simp; done) | (simp; omega)) ?_)
    refine oX (wFA rfl rfl fo40x0 rfl ?_)
    refine oX (w_load1 rfl rfl lk9 rfl (hc5 _ 0 _ rfl) ?_)
    refine xMv ?_
    refine oX (w_eqlS rfl rfl rfl rfl ?_)
    refine xMv ?_
    refine r_split (d := 23) rfl (fun g2 => ?_) (fun g2 => ?_)
    · try simp only [sQ1, sQ2, sQ3, sQ4, sQ5, sQ6, sQ7, sQ8, ne_eq] at g2
      refine oX (wFA rfl rfl fo31x2 rfl ?_)
      refine oX (w_load1 rfl rfl lk26 rfl (atL 0 rfl rfl rfl) ?_)
      refine xMv ?_
      refine oX (w_ixB rfl rfl Tryz.underlying26 sz40 rfl rfl (by first | omega | (simp; done) | (simp; omega)) (by first | omega | (simp; done) | (simp; omega)) ?_)
      refine oX (wFA rfl rfl fo40x1 rfl ?_)
      refine oX (w_load1 rfl rfl lk9 rfl (hc5 _ 1 _ rfl) ?_)
      refine xMv ?_
      refine oX (w_eqlS rfl rfl rfl rfl ?_)
      refine oX (w_pickT rfl rfl rfl rfl ?_)
      refine wKp [(0, _), (1, _), (2, _), (3, _), (7, _), (12, _), (32, _)] ⟨rfl, rfl, rfl, rfl, rfl, rfl, rfl, trivial⟩ ?_
      refine wCd rfl (fun g3 => ?_) (fun g3 => ?_)
      · try simp only [sQ1, sQ2, sQ3, sQ4, sQ5, sQ6, sQ7, sQ8, ne_eq] at g3
        refine wSR ?_
        refine xMv ?_
        refine xAs ?_
        refine wKp [(0, _), (1, _), (2, _), (3, _), (6, _), (7, _), (12, _), (32, _)] ⟨rfl, rfl, rfl, rfl, rfl, rfl, rfl, rfl, trivial⟩ ?_
        refine w_ret (inB_r (thn_r (rndE_r (inB_r (thn_r ?_)))))
        exact end0 .ret (.inl rfl) [_] ⟨rfl, trivial⟩ ⟨int_eq (idxP_hit hy (by simp [inF, g2, g3]) ha).symm, rfl, rfl⟩
      · try simp only [sQ1, sQ2, sQ3, sQ4, sQ5, sQ6, sQ7, sQ8, ne_eq] at g3
        refine w_skip ?_
        refine inB_n (thn_n ?_)
        refine w_region ?_
        refine xMv ?_
        refine oX (w_add rfl rfl rfl rfl (by first | exact wrI64 (by first | omega | (simp; done) | (simp; omega)) (by first | omega | (simp; done) | (simp; omega)) | rfl) ?_)
        refine xAs ?_
        exact rndE_n (k + 1) [0] (by first | omega | (simp only []; omega)) ⟨rfl, by omega, all_next hy ha (by simp [inF, g2, g3])⟩ ⟨rfl, rfl, rfl, rfl, rfl, trivial⟩ rfl
    · try simp only [sQ1, sQ2, sQ3, sQ4, sQ5, sQ6, sQ7, sQ8, ne_eq] at g2
      refine oX (w_pass rfl rfl ?_)
      refine oX (w_pass rfl rfl ?_)
      refine oX (w_pass rfl rfl ?_)
      refine oX (w_pass rfl rfl ?_)
      refine oX (w_pass rfl rfl ?_)
      refine oX (w_pass rfl rfl ?_)
      refine oX (w_pass rfl rfl ?_)
      refine oX (w_pass rfl rfl ?_)
      refine oX (w_pickF rfl rfl rfl rfl ?_)
      refine wKp [(0, _), (1, _), (2, _), (3, _), (7, _), (12, _), (32, _)] ⟨rfl, rfl, rfl, rfl, rfl, rfl, rfl, trivial⟩ ?_
      refine wCd (t := false) rfl (fun h => Bool.noConfusion h) (fun _ => ?_)
      refine w_skip ?_
      refine inB_n (thn_n ?_)
      refine w_region ?_
      refine xMv ?_
      refine oX (w_add rfl rfl rfl rfl (by first | exact wrI64 (by first | omega | (simp; done) | (simp; omega)) (by first | omega | (simp; done) | (simp; omega)) | rfl) ?_)
      refine xAs ?_
      exact rndE_n (k + 1) [0] (by first | omega | (simp only []; omega)) ⟨rfl, by omega, all_next hy ha (by simp [inF, g2])⟩ ⟨rfl, rfl, rfl, rfl, rfl, trivial⟩ rfl
  · try simp only [sQ1, sQ2, sQ3, sQ4, sQ5, sQ6, sQ7, sQ8, ne_eq] at g1
    refine w_exit (thn_x (rndE_x (inB_hit (thn_n ?_))))
    refine wSR ?_
    refine xAs ?_
    refine wKp [(0, _), (1, _), (2, _), (3, _), (6, _), (7, _), (12, _)] ⟨rfl, rfl, rfl, rfl, rfl, rfl, rfl, trivial⟩ ?_
    refine w_ret ?_
    exact end0 .ret (.inl rfl) [_] ⟨rfl, trivial⟩ ⟨int_eq (idxP_none (take_end (by omega) ha)).symm, rfl, rfl⟩

set_option maxRecDepth 4000 in
set_option maxHeartbeats 400000 in
theorem find1_c (f : DFolder) (qa qb : Option Addr) (ca cb : Nat) (ow nm : Str) (b b' : Nat) (h1 : f.owner.length ≤ 2000000) (h2 : f.name.length ≤ 2000000) (h3 : ow.length ≤ 2000000) (h4 : nm.length ≤ 2000000) (B : Kn) (hb : RowAt' B b 0 [str ow]) (hb2 : RowAt' B b' 0 [str nm]) : RetB (pj J) 107 [.agg #[str f.owner, str f.name, .slice qa f.grants.length ca, .int .i64 f.next, .slice qb f.mail.length cb], ptr ⟨b, 0, none⟩, ptr ⟨b', 0, none⟩] B (.bool (inF ow nm f)) := by
  refine cBB 15 Tryz.func107 rfl rfl rfl (Nat.le_of_ble_eq_true rfl) ?_
  refine wSR ?_
  refine oX (w_box (l := [_, _, _, _, _]) rfl rfl rfl rfl (fun b1 => ?_))
  refine xAs ?_
  refine wTd [(0, _), (1, _), (2, _), (3, _), (4, _)] [_] ⟨rfl, rfl, rfl, rfl, rfl, trivial⟩ rfl ?_
  refine wSR ?_
  refine oX (wFA rfl rfl fo40x0 rfl ?_)
  refine oX (w_load1 rfl rfl lk9 rfl (atL 0 rfl rfl rfl) ?_)
  refine oX (w_load1 rfl rfl lk9 rfl (hb _ 0 _ rfl) ?_)
  refine oX (w_eqlS rfl rfl rfl rfl ?_)
  refine xMv ?_
  refine r_split (d := 9) rfl (fun g1 => ?_) (fun g1 => ?_)
  · try simp only [sQ1, sQ2, sQ3, sQ4, sQ5, sQ6, sQ7, sQ8, ne_eq] at g1
    refine oX (wFA rfl rfl fo40x1 rfl ?_)
    refine oX (w_load1 rfl rfl lk9 rfl (atL 0 rfl rfl rfl) ?_)
    refine oX (w_load1 rfl rfl lk9 rfl (hb2 _ 0 _ rfl) ?_)
    refine oX (w_eqlS rfl rfl rfl rfl ?_)
    refine oX (w_pickT rfl rfl rfl rfl ?_)
    refine xAs ?_
    refine wKp [(0, _), (1, _), (2, _), (3, _), (4, _)] ⟨rfl, rfl, rfl, rfl, rfl, trivial⟩ ?_
    refine w_ret ?_
    exact end0 .ret (.inl rfl) [_] ⟨rfl, trivial⟩ ⟨bool_eq (by rw [Bool.eq_iff_iff]; simp [inF, g1]), rfl, rfl⟩
  · try simp only [sQ1, sQ2, sQ3, sQ4, sQ5, sQ6, sQ7, sQ8, ne_eq] at g1
    refine oX (w_pass rfl rfl ?_)
    refine oX (w_pass rfl rfl ?_)
    refine oX (w_pass rfl rfl ?_)
    refine oX (w_pass rfl rfl ?_)
    refine oX (w_pickF rfl rfl rfl rfl ?_)
    refine xAs ?_
    refine wKp [(0, _), (1, _), (2, _), (3, _), (4, _)] ⟨rfl, rfl, rfl, rfl, rfl, trivial⟩ ?_
    refine w_ret ?_
    exact end0 .ret (.inl rfl) [_] ⟨rfl, trivial⟩ ⟨bool_eq (by rw [Bool.eq_iff_iff]; simp [inF, g1]), rfl, rfl⟩

set_option maxRecDepth 4000 in
set_option maxHeartbeats 400000 in
theorem indexF_c (q : Option Addr) (cp : Nat) (fs : List DFolder) (F : FuncId) (cap : Array Value) (t : DFolder → Bool) (B : Kn) (hf : SlK B q cp 5 FolderR fs) (he : enters (pj J) F = true) (hF : ∀ (f : DFolder) (qa qb : Option Addr) (ca cb : Nat), f.owner.length ≤ 2000000 → f.name.length ≤ 2000000 → RetB (pj J) F ([.agg #[str f.owner, str f.name, .slice qa f.grants.length ca, .int .i64 f.next, .slice qb f.mail.length cb]] ++ cap.toList) B (.bool (t f))) : RetB (pj J) 106 [.slice q fs.length cp, .func (.func F) #[] cap] B (.int .i64 (idxP t fs)) := by
  refine cBB 19 Tryz.func106 rfl rfl rfl (Nat.le_of_ble_eq_true rfl) ?_
  have hfn := hf.len
  refine wSR ?_
  refine xAs ?_
  refine wKp [(0, _), (1, _), (4, _)] ⟨rfl, rfl, rfl, trivial⟩ ?_
  refine w_seq ?_
  refine wSR ?_
  refine xMv ?_
  refine oX (w_lenV rfl rfl Tryz.underlying26 rfl ?_)
  refine xMv ?_
  refine wKp [(0, _), (1, _), (4, _), (7, _), (8, _)] ⟨rfl, rfl, rfl, rfl, rfl, trivial⟩ ?_
  refine w_block ?_
  refine w_loopE (α := Nat) [0, 1, 7] (fun k => [(8, .int .i64 k)]) [] (fun k => []) (fun k Bx => Bx = B ∧ k ≤ fs.length ∧ ∀ y, y ∈ fs.take k → t y = false) (fun k => fs.length - k) 0 ⟨rfl, trivial⟩ rfl (⟨rfl, Nat.zero_le _, by simp⟩) (fun k B1 hle1 hI => ?_)
  obtain ⟨rfl, hk, ha⟩ := hI
  refine wTd [(0, _), (1, _), (7, _), (8, _)] [] ⟨rfl, rfl, rfl, rfl, trivial⟩ rfl ?_
  refine wSR ?_
  refine oX (w_lss rfl rfl rfl rfl ?_)
  refine wKp [(0, _), (1, _), (7, _), (8, _), (9, _)] ⟨rfl, rfl, rfl, rfl, rfl, trivial⟩ ?_
  refine w_seq ?_
  refine wCd rfl (fun g1 => ?_) (fun g1 => ?_)
  · try simp only [sQ1, sQ2, sQ3, sQ4, sQ5, sQ6, sQ7, sQ8, ne_eq] at g1
    refine w_skip ?_
    refine thn_n ?_
    refine w_seq ?_
    refine w_block ?_
    refine wSR ?_
    refine xMv ?_
    refine xAs ?_
    refine wKp [(0, _), (1, _), (5, _), (7, _), (8, _), (9, _)] ⟨rfl, rfl, rfl, rfl, rfl, rfl, trivial⟩ ?_
    refine wSR ?_
    refine xMv ?_
    refine xMv ?_
    refine xMv ?_
    obtain ⟨y, hy⟩ := getLt (xs := fs) (i := k) (by first | omega | (simp; done) | (simp; omega))
    obtain ⟨bb3, oo3, rfl⟩ := hf.base hy
    obtain ⟨_, ⟨qg4, cg4, qm4, cm4, rfl, hg4, hm4, hb4, hb4b⟩, hc4⟩ := hf.elem hy
    have hg4n := hg4.len
    have hm4n := hm4.len
    have hm4s := sizeMs_le hm4
    refine oX (w_ixB rfl rfl Tryz.underlying26 sz40 rfl rfl (by first | omega | (simp; done) | (simp; omega)) (by first | omega | (simp; done) | (simp; omega)) ?_)
    refine oX (w_loadN [_, _, _, _, _] rfl rfl lk40 rfl (rowK hc4 0 rfl rfl) ?_)
    refine oX (w_retV rfl rfl he rfl rfl (hF y _ _ _ _ (by first | assumption | omega | (simp; done) | (simp; omega)) (by first | assumption | omega | (simp; done) | (simp; omega))) ?_)
    refine wKp [(0, _), (1, _), (5, _), (7, _), (8, _), (9, _), (16, _)] ⟨rfl, rfl, rfl, rfl, rfl, rfl, rfl, trivial⟩ ?_
    refine wCd rfl (fun g2 => ?_) (fun g2 => ?_)
    · try simp only [sQ1, sQ2, sQ3, sQ4, sQ5, sQ6, sQ7, sQ8, ne_eq] at g2
      refine wSR ?_
      refine xMv ?_
      refine xAs ?_
      refine wKp [(0, _), (1, _), (4, _), (5, _), (7, _), (8, _), (9, _), (16, _)] ⟨rfl, rfl, rfl, rfl, rfl, rfl, rfl, rfl, trivial⟩ ?_
      refine w_ret (inB_r (thn_r (rndE_r (inB_r (thn_r ?_)))))
      exact end0 .ret (.inl rfl) [_] ⟨rfl, trivial⟩ ⟨int_eq (idxP_hit hy g2 ha).symm, rfl, rfl⟩
    · try simp only [sQ1, sQ2, sQ3, sQ4, sQ5, sQ6, sQ7, sQ8, ne_eq] at g2
      refine w_skip ?_
      refine inB_n (thn_n ?_)
      refine w_region ?_
      refine oX (w_add rfl rfl rfl rfl (by first | exact wrI64 (by first | omega | (simp; done) | (simp; omega)) (by first | omega | (simp; done) | (simp; omega)) | rfl) ?_)
      refine xMv ?_
      exact rndE_n (k + 1) [] (by first | omega | (simp only []; omega)) ⟨rfl, by omega, all_next hy ha g2⟩ ⟨rfl, rfl, rfl, rfl, trivial⟩ rfl
  · try simp only [sQ1, sQ2, sQ3, sQ4, sQ5, sQ6, sQ7, sQ8, ne_eq] at g1
    refine w_exit (thn_x (rndE_x (inB_hit (thn_n ?_))))
    refine wSR ?_
    refine xAs ?_
    refine wKp [(0, _), (1, _), (4, _), (7, _), (8, _), (9, _)] ⟨rfl, rfl, rfl, rfl, rfl, rfl, trivial⟩ ?_
    refine w_ret ?_
    exact end0 .ret (.inl rfl) [_] ⟨rfl, trivial⟩ ⟨int_eq (idxP_none (take_end (by omega) ha)).symm, rfl, rfl⟩

set_option maxRecDepth 4000 in
set_option maxHeartbeats 400000 in
theorem find_c (b o : Nat) (q1 q2 q3 : Option Addr) (c1 c2 c3 : Nat) (x : DHost) (ow nm : Str) (ho : ow.length ≤ 2000000) (hn : nm.length ≤ 2000000) (B : Kn) (hh : RowAt' B b o [str x.domain, .slice q1 x.users.length c1, .slice q2 x.folders.length c2, .int .i64 x.queue.next, .slice q3 x.queue.items.length c3]) (hf : SlK B q2 c2 5 FolderR x.folders) : RetB (pj J) 52 [ptr ⟨b, o, none⟩, str ow, str nm] B (.int .i64 (idxP (inF ow nm) x.folders)) := by
  refine cBB 13 Tryz.func52 rfl rfl rfl (Nat.le_of_ble_eq_true rfl) ?_
  refine wSR ?_
  refine oX (w_box (l := [_]) rfl rfl rfl rfl (fun b1 => ?_))
  refine oX (w_box (l := [_]) rfl rfl rfl rfl (fun b2 => ?_))
  refine xAs ?_
  refine wTd [(0, _), (1, _), (2, _), (4, _), (5, _), (6, _)] [_, _] ⟨rfl, rfl, rfl, rfl, rfl, rfl, trivial⟩ rfl ?_
  refine wSR ?_
  refine xMv ?_
  refine oX (w_nilCheck rfl rfl rfl ?_)
  refine oX (wFA rfl rfl fo31x2 rfl ?_)
  refine oX (w_load1 rfl rfl lk26 rfl (hh _ 2 _ rfl) ?_)
  refine oX (w_makeFunc (xs := []) (ys := [_, _]) rfl rfl rfl rfl ?_)
  refine oX (w_ret2 0 1 rfl rfl rfl rfl rfl en106 rfl (RetB.borrow2 fun hm1 hm2 => indexF_c _ _ x.folders 107 _ (inF ow nm) _ ((hf.mono FolderR.mono (Kn.le_add _ _)).mono FolderR.mono (Kn.le_add _ _)) en107 (fun f qa qb ca cb h1 h2 => find1_c f qa qb ca cb ow nm _ _ h1 h2 ho hn _ (rowK_box hm1) (rowK_box hm2))) ?_)
  refine xAs ?_
  refine wKp [(0, _), (1, _), (2, _), (4, _), (5, _), (6, _)] ⟨rfl, rfl, rfl, rfl, rfl, rfl, trivial⟩ ?_
  refine w_ret ?_
  exact end0 .ret (.inl rfl) [_] ⟨rfl, trivial⟩ ⟨rfl, rfl, rfl⟩

set_option maxRecDepth 4000 in
set_option maxHeartbeats 400000 in
theorem queueFits_c (b o : Nat) (q1 q2 q3 : Option Addr) (c1 c2 c3 : Nat) (x : DHost) (B : Kn) (hh : RowAt' B b o [str x.domain, .slice q1 x.users.length c1, .slice q2 x.folders.length c2, .int .i64 x.queue.next, .slice q3 x.queue.items.length c3]) (hu : SlK B q1 c1 3 UserR x.users) (hi : SlK B q3 c3 4 ItemR x.queue.items) : RetB (pj J) 60 [ptr ⟨b, o, none⟩] B (.bool (x.queue.items.all (itemFits x.users))) := by
  refine cBB 35 Tryz.func60 rfl rfl rfl (Nat.le_of_ble_eq_true rfl) ?_
  have hin := hi.len
  refine wSR ?_
  refine xAs ?_
  refine wKp [(0, _), (2, _)] ⟨rfl, rfl, trivial⟩ ?_
  refine w_seq ?_
  refine wSR ?_
  refine xMv ?_
  refine oX (w_nilCheck rfl rfl rfl ?_)
  refine oX (wFA rfl rfl fo31x3 rfl ?_)
  refine oX (wFA rfl rfl fo29x1 rfl ?_)
  refine oX (w_load1 rfl rfl lk27 rfl (hh _ 4 _ rfl) ?_)
  refine oX (w_lenV rfl rfl Tryz.underlying27 rfl ?_)
  refine xMv ?_
  refine wKp [(0, _), (2, _), (11, _), (12, _), (13, _)] ⟨rfl, rfl, rfl, rfl, rfl, trivial⟩ ?_
  refine w_block ?_
  refine w_loopE (α := Nat) [0, 11, 12] (fun k => [(13, .int .i64 k)]) [] (fun k => []) (fun k Bx => Bx = B ∧ k ≤ x.queue.items.length ∧ ∀ y, y ∈ x.queue.items.take k → itemFits x.users y = true) (fun k => x.queue.items.length - k) 0 ⟨rfl, trivial⟩ rfl (⟨rfl, Nat.zero_le _, by simp⟩) (fun k B1 hle1 hI => ?_)
  obtain ⟨rfl, hk, ha⟩ := hI
  refine wTd [(0, _), (11, _), (12, _), (13, _)] [] ⟨rfl, rfl, rfl, rfl, trivial⟩ rfl ?_
  refine wSR ?_
  refine oX (w_lss rfl rfl rfl rfl ?_)
  refine wKp [(0, _), (11, _), (12, _), (13, _), (14, _)] ⟨rfl, rfl, rfl, rfl, rfl, trivial⟩ ?_
  refine w_seq ?_
  refine wCd rfl (fun g1 => ?_) (fun g1 => ?_)
  · try simp only [sQ1, sQ2, sQ3, sQ4, sQ5, sQ6, sQ7, sQ8, ne_eq] at g1
    refine w_skip ?_
    refine thn_n ?_
    refine w_seq ?_
    refine w_block ?_
    refine wSR ?_
    obtain ⟨y, hy⟩ := getLt (xs := x.queue.items) (i := k) (by first | omega | (simp; done) | (simp; omega))
    obtain ⟨bb3, oo3, rfl⟩ := hi.base hy
    obtain ⟨_, ⟨qi4, ci4, rfl, hi4, hb4, hb4b⟩, hc4⟩ := hi.elem hy
    have hi4n := hi4.len
    refine oX (w_ixB rfl rfl Tryz.underlying27 sz100 rfl rfl (by first | omega | (simp; done) | (simp; omega)) (by first | omega | (simp; done) | (simp; omega)) ?_)
    refine oX (w_loadN [_, _, _, _] rfl rfl lk100 rfl (rowK hc4 0 rfl rfl) ?_)
    refine oX (w_alloc (l := [_, _, _, _]) rfl rfl zo100 rfl (fun b5 => ?_))
    refine oX (w_store [_, _, _, _] 0 [_, _, _, _] rfl rfl sz100 rfl rfl rfl rfl rfl rfl rfl rfl ?_)
    refine wTd [(0, _), (4, _), (11, _), (12, _), (13, _), (14, _)] [_] ⟨rfl, rfl, rfl, rfl, rfl, rfl, trivial⟩ rfl ?_
    refine w_seq ?_
    refine wSR ?_
    refine xMv ?_
    refine oX (wFA rfl rfl fo100x1 rfl ?_)
    refine oX (w_load1 rfl rfl lk9 rfl (atL 0 rfl rfl rfl) ?_)
    refine oX (w_retB rfl rfl en54 rfl (isUser_c _ _ _ _ _ _ _ _ x y.fr (by first | assumption | omega | (simp; done) | (simp; omega)) _ hh hu) ?_)
    refine oX (w_not rfl rfl rfl ?_)
    refine wKp [(0, _), (4, _), (11, _), (12, _), (13, _), (14, _), (21, _)] ⟨rfl, rfl, rfl, rfl, rfl, rfl, rfl, trivial⟩ ?_
    refine wCd rfl (fun g2 => ?_) (fun g2 => ?_)
    · try simp only [sQ1, sQ2, sQ3, sQ4, sQ5, sQ6, sQ7, sQ8, ne_eq] at g2
      refine wSR ?_
      refine xAs ?_
      refine wKp [(0, _), (2, _), (4, _), (11, _), (12, _), (13, _), (14, _), (21, _)] ⟨rfl, rfl, rfl, rfl, rfl, rfl, rfl, rfl, trivial⟩ ?_
      refine w_ret (thn_r (inB_r (thn_r (rndE_r (inB_r (thn_r ?_))))))
      exact end0 .ret (.inl rfl) [_] ⟨rfl, trivial⟩ ⟨bool_eq (allB_bad hy (by simp [itemFits, g2])).symm, rfl, rfl⟩
    · try simp only [sQ1, sQ2, sQ3, sQ4, sQ5, sQ6, sQ7, sQ8, ne_eq] at g2
      refine w_skip ?_
      refine thn_n ?_
      refine wSR ?_
      refine oX (wFA rfl rfl fo100x3 rfl ?_)
      refine oX (w_load1 rfl rfl lk98 rfl (atL 0 rfl rfl rfl) ?_)
      refine oX (w_lenV rfl rfl Tryz.underlying98 rfl ?_)
      refine xMv ?_
      refine wKp [(0, _), (4, _), (11, _), (12, _), (13, _), (14, _), (21, _), (23, _), (24, _), (25, _)] ⟨rfl, rfl, rfl, rfl, rfl, rfl, rfl, rfl, rfl, rfl, trivial⟩ ?_
      refine w_block ?_
      refine w_loopE (α := Nat) [0, 4, 11, 12, 13, 14, 21, 23, 24] (fun j => [(25, .int .i64 j)]) [] (fun j => []) (fun j Bx => Bx = B1 ∧ j ≤ y.left.length ∧ ∀ z, z ∈ y.left.take j → (userFind x.users z).2 = true) (fun j => y.left.length - j) 0 ⟨rfl, trivial⟩ rfl (⟨rfl, Nat.zero_le _, by simp⟩) (fun j B7 hle7 hI => ?_)
      obtain ⟨rfl, hj, hb⟩ := hI
      refine wTd [(0, _), (4, _), (11, _), (12, _), (13, _), (14, _), (21, _), (23, _), (24, _), (25, _)] [_] ⟨rfl, rfl, rfl, rfl, rfl, rfl, rfl, rfl, rfl, rfl, trivial⟩ rfl ?_
      refine wSR ?_
      refine oX (w_lss rfl rfl rfl rfl ?_)
      refine wKp [(0, _), (4, _), (11, _), (12, _), (13, _), (14, _), (21, _), (23, _), (24, _), (25, _), (26, _)] ⟨rfl, rfl, rfl, rfl, rfl, rfl, rfl, rfl, rfl, rfl, rfl, trivial⟩ ?_
      refine w_seq ?_
      refine wCd rfl (fun g3 => ?_) (fun g3 => ?_)
      · try simp only [sQ1, sQ2, sQ3, sQ4, sQ5, sQ6, sQ7, sQ8, ne_eq] at g3
        refine w_skip ?_
        refine thn_n ?_
        refine w_seq ?_
        refine w_block ?_
        refine wSR ?_
        obtain ⟨z, hz⟩ := getLt (xs := y.left) (i := j) (by first | omega | (simp; done) | (simp; omega))
        obtain ⟨bb9, oo9, rfl⟩ := hi4.base hz
        obtain ⟨_, ⟨rfl, hb10⟩, hc10⟩ := hi4.elem hz
        refine oX (w_ixB rfl rfl Tryz.underlying98 sz9 rfl rfl (by first | omega | (simp; done) | (simp; omega)) (by first | omega | (simp; done) | (simp; omega)) ?_)
        refine oX (w_load1 rfl rfl lk9 rfl (hc10 _ 0 _ rfl) ?_)
        refine xAs ?_
        refine wKp [(0, _), (4, _), (6, _), (11, _), (12, _), (13, _), (14, _), (21, _), (23, _), (24, _), (25, _), (26, _)] ⟨rfl, rfl, rfl, rfl, rfl, rfl, rfl, rfl, rfl, rfl, rfl, rfl, trivial⟩ ?_
        refine wSR ?_
        refine xMv ?_
        refine xMv ?_
        refine oX (w_retB rfl rfl en54 rfl (isUser_c _ _ _ _ _ _ _ _ x z (by first | assumption | omega | (simp; done) | (simp; omega)) _ hh hu) ?_)
        refine oX (w_not rfl rfl rfl ?_)
        refine wKp [(0, _), (4, _), (6, _), (11, _), (12, _), (13, _), (14, _), (21, _), (23, _), (24, _), (25, _), (26, _), (32, _)] ⟨rfl, rfl, rfl, rfl, rfl, rfl, rfl, rfl, rfl, rfl, rfl, rfl, rfl, trivial⟩ ?_
        refine wCd rfl (fun g4 => ?_) (fun g4 => ?_)
        · try simp only [sQ1, sQ2, sQ3, sQ4, sQ5, sQ6, sQ7, sQ8, ne_eq] at g4
          refine wSR ?_
          refine xAs ?_
          refine wKp [(0, _), (2, _), (4, _), (6, _), (11, _), (12, _), (13, _), (14, _), (21, _), (23, _), (24, _), (25, _), (26, _), (32, _)] ⟨rfl, rfl, rfl, rfl, rfl, rfl, rfl, rfl, rfl, rfl, rfl, rfl, rfl, rfl, trivial⟩ ?_
          refine w_ret (inB_r (thn_r (rndE_r (inB_r (inB_r (thn_r (rndE_r (inB_r (thn_r ?_)))))))))
          exact end0 .ret (.inl rfl) [_] ⟨rfl, trivial⟩ ⟨bool_eq (allB_bad hy (by rw [itemFits, allB_bad hz g4, Bool.and_false])).symm, rfl, rfl⟩
        · try simp only [sQ1, sQ2, sQ3, sQ4, sQ5, sQ6, sQ7, sQ8, ne_eq] at g4
          refine w_skip ?_
          refine inB_n (thn_n ?_)
          refine w_region ?_
          refine oX (w_add rfl rfl rfl rfl (by first | exact wrI64 (by first | omega | (simp; done) | (simp; omega)) (by first | omega | (simp; done) | (simp; omega)) | rfl) ?_)
          refine xMv ?_
          exact rndE_n (j + 1) [0] (by first | omega | (simp only []; omega)) ⟨rfl, by omega, all_next hz hb g4⟩ ⟨rfl, rfl, rfl, rfl, rfl, rfl, rfl, rfl, rfl, rfl, trivial⟩ rfl
      · try simp only [sQ1, sQ2, sQ3, sQ4, sQ5, sQ6, sQ7, sQ8, ne_eq] at g3
        refine w_exit (thn_x (rndE_x (inB_hit (inB_n (thn_n ?_)))))
        refine w_region ?_
        refine oX (w_add rfl rfl rfl rfl (by first | exact wrI64 (by first | omega | (simp; done) | (simp; omega)) (by first | omega | (simp; done) | (simp; omega)) | rfl) ?_)
        refine xMv ?_
        exact rndE_n (k + 1) [] (by first | omega | (simp only []; omega)) ⟨rfl, by omega, all_next hy ha (by rw [itemFits, g2, allB_end (take_end (by omega) hb)]; rfl)⟩ ⟨rfl, rfl, rfl, rfl, trivial⟩ rfl
  · try simp only [sQ1, sQ2, sQ3, sQ4, sQ5, sQ6, sQ7, sQ8, ne_eq] at g1
    refine w_exit (thn_x (rndE_x (inB_hit (thn_n ?_))))
    refine wSR ?_
    refine xAs ?_
    refine wKp [(0, _), (2, _), (11, _), (12, _), (13, _), (14, _)] ⟨rfl, rfl, rfl, rfl, rfl, rfl, trivial⟩ ?_
    refine w_ret ?_
    exact end0 .ret (.inl rfl) [_] ⟨rfl, trivial⟩ ⟨bool_eq (allB_end (take_end (by omega) ha)).symm, rfl, rfl⟩

set_option maxRecDepth 4000 in
set_option maxHeartbeats 400000 in
theorem l31Less_c (f g : DFolder) (qa qb qc qd : Option Addr) (ca cb cc cd : Nat) (B : Kn) : RetB (pj J) 129 [.agg #[str f.owner, str f.name, .slice qa f.grants.length ca, .int .i64 f.next, .slice qb f.mail.length cb], .agg #[str g.owner, str g.name, .slice qc g.grants.length cc, .int .i64 g.next, .slice qd g.mail.length cd]] B (.bool (lessF f g)) := by
  refine cBB 24 Tryz.func129 rfl rfl rfl (Nat.le_of_ble_eq_true rfl) ?_
  refine wSR ?_
  refine oX (w_box (l := [_, _, _, _, _]) rfl rfl rfl rfl (fun b1 => ?_))
  refine oX (w_box (l := [_, _, _, _, _]) rfl rfl rfl rfl (fun b2 => ?_))
  refine xAs ?_
  refine wTd [(0, _), (1, _), (2, _), (3, _), (4, _)] [_, _] ⟨rfl, rfl, rfl, rfl, rfl, trivial⟩ rfl ?_
  refine wSR ?_
  refine oX (wFA rfl rfl fo40x0 rfl ?_)
  refine oX (w_load1 rfl rfl lk9 rfl (atL 0 rfl rfl rfl) ?_)
  refine oX (wFA rfl rfl fo40x0 rfl ?_)
  refine oX (w_load1 rfl rfl lk9 rfl (atL 1 rfl rfl rfl) ?_)
  refine oX (w_lssS rfl rfl rfl rfl ?_)
  refine xMv ?_
  refine r_split (d := 10) rfl (fun g1 => ?_) (fun g1 => ?_)
  · try simp only [sQ1, sQ2, sQ3, sQ4, sQ5, sQ6, sQ7, sQ8, ne_eq] at g1
    refine oX (w_pass rfl rfl ?_)
    refine oX (w_pass rfl rfl ?_)
    refine oX (w_pass rfl rfl ?_)
    refine oX (w_pass rfl rfl ?_)
    refine oX (w_pass rfl rfl ?_)
    refine oX (w_pass rfl rfl ?_)
    refine oX (w_pass rfl rfl ?_)
    refine oX (w_pass rfl rfl ?_)
    refine oX (w_pass rfl rfl ?_)
    refine oX (w_pass rfl rfl ?_)
    refine oX (w_pass rfl rfl ?_)
    refine oX (w_pass rfl rfl ?_)
    refine oX (w_pickT rfl rfl rfl rfl ?_)
    refine xAs ?_
    refine wKp [(0, _), (1, _), (2, _), (3, _), (4, _)] ⟨rfl, rfl, rfl, rfl, rfl, trivial⟩ ?_
    refine w_ret ?_
    exact end0 .ret (.inl rfl) [_] ⟨rfl, trivial⟩ ⟨bool_eq (by rw [Bool.eq_iff_iff]; simp [lessF, less_irr, g1]), rfl, rfl⟩
  · try simp only [sQ1, sQ2, sQ3, sQ4, sQ5, sQ6, sQ7, sQ8, ne_eq] at g1
    refine oX (wFA rfl rfl fo40x0 rfl ?_)
    refine oX (w_load1 rfl rfl lk9 rfl (atL 0 rfl rfl rfl) ?_)
    refine oX (wFA rfl rfl fo40x0 rfl ?_)
    refine oX (w_load1 rfl rfl lk9 rfl (atL 1 rfl rfl rfl) ?_)
    refine oX (w_eqlS rfl rfl rfl rfl ?_)
    refine xMv ?_
    refine r_split (d := 16) rfl (fun g2 => ?_) (fun g2 => ?_)
    · try simp only [sQ1, sQ2, sQ3, sQ4, sQ5, sQ6, sQ7, sQ8, ne_eq] at g2
      refine oX (wFA rfl rfl fo40x1 rfl ?_)
      refine oX (w_load1 rfl rfl lk9 rfl (atL 0 rfl rfl rfl) ?_)
      refine oX (wFA rfl rfl fo40x1 rfl ?_)
      refine oX (w_load1 rfl rfl lk9 rfl (atL 1 rfl rfl rfl) ?_)
      refine oX (w_lssS rfl rfl rfl rfl ?_)
      refine oX (w_pickT rfl rfl rfl rfl ?_)
      refine oX (w_pickF rfl rfl rfl rfl ?_)
      refine xAs ?_
      refine wKp [(0, _), (1, _), (2, _), (3, _), (4, _)] ⟨rfl, rfl, rfl, rfl, rfl, trivial⟩ ?_
      refine w_ret ?_
      exact end0 .ret (.inl rfl) [_] ⟨rfl, trivial⟩ ⟨bool_eq (by rw [Bool.eq_iff_iff]; simp [lessF, less_irr, g1, g2]), rfl, rfl⟩
    · try simp only [sQ1, sQ2, sQ3, sQ4, sQ5, sQ6, sQ7, sQ8, ne_eq] at g2
      refine oX (w_pass rfl rfl ?_)
      refine oX (w_pass rfl rfl ?_)
      refine oX (w_pass rfl rfl ?_)
      refine oX (w_pass rfl rfl ?_)
      refine oX (w_pass rfl rfl ?_)
      refine oX (w_pickF rfl rfl rfl rfl ?_)
      refine oX (w_pickF rfl rfl rfl rfl ?_)
      refine xAs ?_
      refine wKp [(0, _), (1, _), (2, _), (3, _), (4, _)] ⟨rfl, rfl, rfl, rfl, rfl, trivial⟩ ?_
      refine w_ret ?_
      exact end0 .ret (.inl rfl) [_] ⟨rfl, trivial⟩ ⟨bool_eq (by rw [Bool.eq_iff_iff]; simp [lessF, less_irr, g1, g2]), rfl, rfl⟩

set_option maxRecDepth 4000 in
set_option maxHeartbeats 400000 in
theorem specUsers_c (q : Option Addr) (cp : Nat) (us : List DUser) (B : Kn) (hu : SlK B q cp 3 UserR us) : RetB (pj J) 65 [.slice q us.length cp] B (.bool (usersOk us)) := by
  refine cBB 54 Tryz.func65 rfl rfl rfl (Nat.le_of_ble_eq_true rfl) ?_
  have hun := hu.len
  refine wSR ?_
  refine xAs ?_
  refine wKp [(0, _), (2, _)] ⟨rfl, rfl, trivial⟩ ?_
  refine w_seq ?_
  refine wSR ?_
  refine xAs ?_
  refine wKp [(0, _), (2, _), (3, _)] ⟨rfl, rfl, rfl, trivial⟩ ?_
  refine w_block ?_
  refine w_loopE (α := Nat × Str) [0] (fun g => [(3, .int .i64 g.1)]) [] (fun g => []) (fun g Bx => Bx = B ∧ g.1 ≤ us.length ∧ userScan (us.take g.1) = (true, g.2) ∧ Prev (fun y => y.name) ([] : Str) us g.1 g.2) (fun g => us.length - g.1) (0, []) ⟨rfl, trivial⟩ rfl (⟨rfl, Nat.zero_le _, scn_nil, .zero⟩) (fun g B1 hle1 hI => ?_)
  obtain ⟨rfl, hk, hs, hp⟩ := hI
  refine wTd [(0, _), (3, _)] [] ⟨rfl, rfl, trivial⟩ rfl ?_
  refine w_seq ?_
  refine wSR ?_
  refine xMv ?_
  refine xMv ?_
  refine oX (w_lenV rfl rfl Tryz.underlying23 rfl ?_)
  refine oX (w_lss rfl rfl rfl rfl ?_)
  refine wKp [(0, _), (3, _), (8, _)] ⟨rfl, rfl, rfl, trivial⟩ ?_
  refine wCd rfl (fun g1 => ?_) (fun g1 => ?_)
  · try simp only [sQ1, sQ2, sQ3, sQ4, sQ5, sQ6, sQ7, sQ8, ne_eq] at g1
    refine w_skip ?_
    refine thn_n ?_
    refine w_seq ?_
    refine w_block ?_
    refine wSR ?_
    refine xMv ?_
    refine xMv ?_
    obtain ⟨m, hm⟩ := getLt (xs := us) (i := g.1) (by first | omega | (simp; done) | (simp; omega))
    obtain ⟨bb3, oo3, rfl⟩ := hu.base hm
    obtain ⟨_, ⟨rfl, hb4, hb4b⟩, hc4⟩ := hu.elem hm
    refine oX (w_ixB rfl rfl Tryz.underlying23 sz44 rfl rfl (by first | omega | (simp; done) | (simp; omega)) (by first | omega | (simp; done) | (simp; omega)) ?_)
    refine oX (w_loadN [_, _, _] rfl rfl lk44 rfl (rowK hc4 0 rfl rfl) ?_)
    refine oX (w_alloc (l := [_, _, _]) rfl rfl zo44 rfl (fun b5 => ?_))
    refine oX (w_store [_, _, _] 0 [_, _, _] rfl rfl sz44 rfl rfl rfl rfl rfl rfl rfl rfl ?_)
    refine wTd [(0, _), (3, _), (4, _), (8, _)] [_] ⟨rfl, rfl, rfl, rfl, trivial⟩ rfl ?_
    refine w_seq ?_
    refine w_draw (same _ _) mo (by kernel_rfl) ⟨rfl, rfl⟩ (fun _ _ => ?_)
    refine aTk 0 rfl (by kernel_rfl) rfl (q_of fun D => wFA rfl rfl fo44x0 rfl ⟨rfl, rfl, rfl, rfl⟩) ?_
    refine aTk 1 rfl (by kernel_rfl) rfl (q_of fun D => w_load1 rfl rfl lk9 rfl (atL 0 rfl rfl rfl) ⟨rfl, rfl, rfl, rfl⟩) ?_
    refine aTk 2 rfl (by kernel_rfl) rfl (q_of fun D => w_retB rfl rfl en124 rfl (specName_c _ (by first | assumption | omega | (simp; done) | (simp; omega)) _) ⟨rfl, rfl, rfl, rfl⟩) ?_
    refine aTk 3 rfl (by kernel_rfl) rfl (q_of fun D => w_not rfl rfl rfl ⟨rfl, rfl, rfl, rfl⟩) ?_
    refine aTP 4 rfl (by kernel_rfl) rfl (fun D B L => w_move rfl rfl rfl ⟨rfl, rfl, rfl, rfl⟩) ?_
    refine a_split (d := 19) rfl (fun g2 => ?_) (fun g2 => ?_)
    · try simp only [sQ1, sQ2, sQ3, sQ4, sQ5, sQ6, sQ7, sQ8, ne_eq] at g2
      refine aTk 5 rfl (by kernel_rfl) rfl (q_of fun D => w_pass rfl rfl ⟨rfl, rfl, rfl, rfl⟩) ?_
      refine aTk 6 rfl (by kernel_rfl) rfl (q_of fun D => w_pass rfl rfl ⟨rfl, rfl, rfl, rfl⟩) ?_
      refine aTk 7 rfl (by kernel_rfl) rfl (q_of fun D => w_pass rfl rfl ⟨rfl, rfl, rfl, rfl⟩) ?_
      refine aTk 8 rfl (by kernel_rfl) rfl (q_of fun D => w_pickT rfl rfl rfl rfl ⟨rfl, rfl, rfl, rfl⟩) ?_
      refine aTP 9 rfl (by kernel_rfl) rfl (fun D B L => w_move rfl rfl rfl ⟨rfl, rfl, rfl, rfl⟩) ?_
      refine aTk 10 rfl (by kernel_rfl) rfl (q_of fun D => w_pass rfl rfl ⟨rfl, rfl, rfl, rfl⟩) ?_
      refine aTk 11 rfl (by kernel_rfl) rfl (q_of fun D => w_pass rfl rfl ⟨rfl, rfl, rfl, rfl⟩) ?_
      refine aTk 12 rfl (by kernel_rfl) rfl (q_of fun D => w_pass rfl rfl ⟨rfl, rfl, rfl, rfl⟩) ?_
      refine aTk 13 rfl (by kernel_rfl) rfl (q_of fun D => w_pass rfl rfl ⟨rfl, rfl, rfl, rfl⟩) ?_
      refine aTk 14 rfl (by kernel_rfl) rfl (q_of fun D => w_pickT rfl rfl rfl rfl ⟨rfl, rfl, rfl, rfl⟩) ?_
      refine aTP 15 rfl (by kernel_rfl) rfl (fun D B L => w_move rfl rfl rfl ⟨rfl, rfl, rfl, rfl⟩) ?_
      refine aTk 16 rfl (by kernel_rfl) rfl (q_of fun D => w_pass rfl rfl ⟨rfl, rfl, rfl, rfl⟩) ?_
      refine aTk 17 rfl (by kernel_rfl) rfl (q_of fun D => w_pass rfl rfl ⟨rfl, rfl, rfl, rfl⟩) ?_
      refine aTk 18 rfl (by kernel_rfl) rfl (q_of fun D => w_pass rfl rfl ⟨rfl, rfl, rfl, rfl⟩) ?_
      refine aTk 19 rfl (by kernel_rfl) rfl (q_of fun D => w_pass rfl rfl ⟨rfl, rfl, rfl, rfl⟩) ?_
      refine aTk 20 rfl (by kernel_rfl) rfl (q_of fun D => w_pickT rfl rfl rfl rfl ⟨rfl, rfl, rfl, rfl⟩) ?_
      refine aTP 21 rfl (by kernel_rfl) rfl (fun D B L => w_move rfl rfl rfl ⟨rfl, rfl, rfl, rfl⟩) ?_
      refine aTP 22 rfl (by kernel_rfl) rfl (fun D B L => w_pass rfl rfl ⟨rfl, rfl, rfl, rfl⟩) ?_
      refine aTk 23 rfl (by kernel_rfl) rfl (q_of fun D => w_pass rfl rfl ⟨rfl, rfl, rfl, rfl⟩) ?_
      refine aTP 24 rfl (by kernel_rfl) rfl (fun D B L => w_pass rfl rfl ⟨rfl, rfl, rfl, rfl⟩) ?_
      refine aTP 25 rfl (by kernel_rfl) rfl (fun D B L => w_pass rfl rfl ⟨rfl, rfl, rfl, rfl⟩) ?_
      refine aTP 26 rfl (by kernel_rfl) rfl (fun D B L => w_pass rfl rfl ⟨rfl, rfl, rfl, rfl⟩) ?_
      refine aTk 27 rfl (by kernel_rfl) rfl (q_of fun D => w_pass rfl rfl ⟨rfl, rfl, rfl, rfl⟩) ?_
      refine aTk 28 rfl (by kernel_rfl) rfl (q_of fun D => w_pass rfl rfl ⟨rfl, rfl, rfl, rfl⟩) ?_
      refine aTk 29 rfl (by kernel_rfl) rfl (q_of fun D => w_pass rfl rfl ⟨rfl, rfl, rfl, rfl⟩) ?_
      refine aTk 30 rfl (by kernel_rfl) rfl (q_of fun D => w_pass rfl rfl ⟨rfl, rfl, rfl, rfl⟩) ?_
      refine aTk 31 rfl (by kernel_rfl) rfl (q_of fun D => w_pass rfl rfl ⟨rfl, rfl, rfl, rfl⟩) ?_
      refine aTk 32 rfl (by kernel_rfl) rfl (q_of fun D => w_pass rfl rfl ⟨rfl, rfl, rfl, rfl⟩) ?_
      refine aTk 33 rfl (by kernel_rfl) rfl (q_of fun D => w_pass rfl rfl ⟨rfl, rfl, rfl, rfl⟩) ?_
      refine aTk 34 rfl (by kernel_rfl) rfl (q_of fun D => w_pass rfl rfl ⟨rfl, rfl, rfl, rfl⟩) ?_
      refine aTk 35 rfl (by kernel_rfl) rfl (q_of fun D => w_pickT rfl rfl rfl rfl ⟨rfl, rfl, rfl, rfl⟩) ?_
      refine any_done (by kernel_rfl) (by kernel_rfl) ?_
      refine thn_n ?_
      refine wKp [(0, _), (3, _), (4, _), (8, _), (50, _)] ⟨rfl, rfl, rfl, rfl, rfl, trivial⟩ ?_
      refine wCd (t := true) rfl (fun _ => ?_) (fun h => Bool.noConfusion h)
      refine wSR ?_
      refine xAs ?_
      refine wKp [(0, _), (2, _), (3, _), (4, _), (8, _), (50, _)] ⟨rfl, rfl, rfl, rfl, rfl, rfl, trivial⟩ ?_
      refine w_ret (inB_r (thn_r (rndE_r (inB_r (thn_r ?_)))))
      exact end0 .ret (.inl rfl) [_] ⟨rfl, trivial⟩ ⟨bool_eq (usersOk_hit hm hs (by simp [userP, userOk, anyone, g1, g2])).symm, rfl, rfl⟩
    · try simp only [sQ1, sQ2, sQ3, sQ4, sQ5, sQ6, sQ7, sQ8, ne_eq] at g2
      refine aTk 5 rfl (by kernel_rfl) rfl (q_of fun D => wFA rfl rfl fo44x0 rfl ⟨rfl, rfl, rfl, rfl⟩) ?_
      refine aTk 6 rfl (by kernel_rfl) rfl (q_of fun D => w_load1 rfl rfl lk9 rfl (atL 0 rfl rfl rfl) ⟨rfl, rfl, rfl, rfl⟩) ?_
      refine aTk 7 rfl (by kernel_rfl) rfl (q_of fun D => w_eqlS rfl rfl rfl rfl ⟨rfl, rfl, rfl, rfl⟩) ?_
      refine aTk 8 rfl (by kernel_rfl) rfl (q_of fun D => w_pickF rfl rfl rfl rfl ⟨rfl, rfl, rfl, rfl⟩) ?_
      refine aTP 9 rfl (by kernel_rfl) rfl (fun D B L => w_move rfl rfl rfl ⟨rfl, rfl, rfl, rfl⟩) ?_
      refine a_split (d := 24) rfl (fun g3 => ?_) (fun g3 => ?_)
      · try simp only [sQ1, sQ2, sQ3, sQ4, sQ5, sQ6, sQ7, sQ8, ne_eq] at g3
        refine aTk 10 rfl (by kernel_rfl) rfl (q_of fun D => w_pass rfl rfl ⟨rfl, rfl, rfl, rfl⟩) ?_
        refine aTk 11 rfl (by kernel_rfl) rfl (q_of fun D => w_pass rfl rfl ⟨rfl, rfl, rfl, rfl⟩) ?_
        refine aTk 12 rfl (by kernel_rfl) rfl (q_of fun D => w_pass rfl rfl ⟨rfl, rfl, rfl, rfl⟩) ?_
        refine aTk 13 rfl (by kernel_rfl) rfl (q_of fun D => w_pass rfl rfl ⟨rfl, rfl, rfl, rfl⟩) ?_
        refine aTk 14 rfl (by kernel_rfl) rfl (q_of fun D => w_pickT rfl rfl rfl rfl ⟨rfl, rfl, rfl, rfl⟩) ?_
        refine aTP 15 rfl (by kernel_rfl) rfl (fun D B L => w_move rfl rfl rfl ⟨rfl, rfl, rfl, rfl⟩) ?_
        refine aTk 16 rfl (by kernel_rfl) rfl (q_of fun D => w_pass rfl rfl ⟨rfl, rfl, rfl, rfl⟩) ?_
        refine aTk 17 rfl (by kernel_rfl) rfl (q_of fun D => w_pass rfl rfl ⟨rfl, rfl, rfl, rfl⟩) ?_
        refine aTk 18 rfl (by kernel_rfl) rfl (q_of fun D => w_pass rfl rfl ⟨rfl, rfl, rfl, rfl⟩) ?_
        refine aTk 19 rfl (by kernel_rfl) rfl (q_of fun D => w_pass rfl rfl ⟨rfl, rfl, rfl, rfl⟩) ?_
        refine aTk 20 rfl (by kernel_rfl) rfl (q_of fun D => w_pickT rfl rfl rfl rfl ⟨rfl, rfl, rfl, rfl⟩) ?_
        refine aTP 21 rfl (by kernel_rfl) rfl (fun D B L => w_move rfl rfl rfl ⟨rfl, rfl, rfl, rfl⟩) ?_
        refine aTP 22 rfl (by kernel_rfl) rfl (fun D B L => w_pass rfl rfl ⟨rfl, rfl, rfl, rfl⟩) ?_
        refine aTk 23 rfl (by kernel_rfl) rfl (q_of fun D => w_pass rfl rfl ⟨rfl, rfl, rfl, rfl⟩) ?_
        refine aTP 24 rfl (by kernel_rfl) rfl (fun D B L => w_pass rfl rfl ⟨rfl, rfl, rfl, rfl⟩) ?_
        refine aTP 25 rfl (by kernel_rfl) rfl (fun D B L => w_pass rfl rfl ⟨rfl, rfl, rfl, rfl⟩) ?_
        refine aTP 26 rfl (by kernel_rfl) rfl (fun D B L => w_pass rfl rfl ⟨rfl, rfl, rfl, rfl⟩) ?_
        refine aTk 27 rfl (by kernel_rfl) rfl (q_of fun D => w_pass rfl rfl ⟨rfl, rfl, rfl, rfl⟩) ?_
        refine aTk 28 rfl (by kernel_rfl) rfl (q_of fun D => w_pass rfl rfl ⟨rfl, rfl, rfl, rfl⟩) ?_
        refine aTk 29 rfl (by kernel_rfl) rfl (q_of fun D => w_pass rfl rfl ⟨rfl, rfl, rfl, rfl⟩) ?_
        refine aTk 30 rfl (by kernel_rfl) rfl (q_of fun D => w_pass rfl rfl ⟨rfl, rfl, rfl, rfl⟩) ?_
        refine aTk 31 rfl (by kernel_rfl) rfl (q_of fun D => w_pass rfl rfl ⟨rfl, rfl, rfl, rfl⟩) ?_
        refine aTk 32 rfl (by kernel_rfl) rfl (q_of fun D => w_pass rfl rfl ⟨rfl, rfl, rfl, rfl⟩) ?_
        refine aTk 33 rfl (by kernel_rfl) rfl (q_of fun D => w_pass rfl rfl ⟨rfl, rfl, rfl, rfl⟩) ?_
        refine aTk 34 rfl (by kernel_rfl) rfl (q_of fun D => w_pass rfl rfl ⟨rfl, rfl, rfl, rfl⟩) ?_
        refine aTk 35 rfl (by kernel_rfl) rfl (q_of fun D => w_pickT rfl rfl rfl rfl ⟨rfl, rfl, rfl, rfl⟩) ?_
        refine any_done (by kernel_rfl) (by kernel_rfl) ?_
        refine thn_n ?_
        refine wKp [(0, _), (3, _), (4, _), (8, _), (50, _)] ⟨rfl, rfl, rfl, rfl, rfl, trivial⟩ ?_
        refine wCd (t := true) rfl (fun _ => ?_) (fun h => Bool.noConfusion h)
        refine wSR ?_
        refine xAs ?_
        refine wKp [(0, _), (2, _), (3, _), (4, _), (8, _), (50, _)] ⟨rfl, rfl, rfl, rfl, rfl, rfl, trivial⟩ ?_
        refine w_ret (inB_r (thn_r (rndE_r (inB_r (thn_r ?_)))))
        exact end0 .ret (.inl rfl) [_] ⟨rfl, trivial⟩ ⟨bool_eq (usersOk_hit hm hs (by simp [userP, userOk, anyone, g1, g2, g3])).symm, rfl, rfl⟩
      · try simp only [sQ1, sQ2, sQ3, sQ4, sQ5, sQ6, sQ7, sQ8, ne_eq] at g3
        refine aTk 10 rfl (by kernel_rfl) rfl (q_of fun D => wFA rfl rfl fo44x1 rfl ⟨rfl, rfl, rfl, rfl⟩) ?_
        refine aTk 11 rfl (by kernel_rfl) rfl (q_of fun D => w_load1 rfl rfl lk9 rfl (atL 0 rfl rfl rfl) ⟨rfl, rfl, rfl, rfl⟩) ?_
        refine aTk 12 rfl (by kernel_rfl) rfl (q_of fun D => w_retB rfl rfl en124 rfl (specName_c _ (by first | assumption | omega | (simp; done) | (simp; omega)) _) ⟨rfl, rfl, rfl, rfl⟩) ?_
        refine aTk 13 rfl (by kernel_rfl) rfl (q_of fun D => w_not rfl rfl rfl ⟨rfl, rfl, rfl, rfl⟩) ?_
        refine aTk 14 rfl (by kernel_rfl) rfl (q_of fun D => w_pickF rfl rfl rfl rfl ⟨rfl, rfl, rfl, rfl⟩) ?_
        refine aTP 15 rfl (by kernel_rfl) rfl (fun D B L => w_move rfl rfl rfl ⟨rfl, rfl, rfl, rfl⟩) ?_
        refine a_split (d := 30) rfl (fun g4 => ?_) (fun g4 => ?_)
        · try simp only [sQ1, sQ2, sQ3, sQ4, sQ5, sQ6, sQ7, sQ8, ne_eq] at g4
          refine aTk 16 rfl (by kernel_rfl) rfl (q_of fun D => w_pass rfl rfl ⟨rfl, rfl, rfl, rfl⟩) ?_
          refine aTk 17 rfl (by kernel_rfl) rfl (q_of fun D => w_pass rfl rfl ⟨rfl, rfl, rfl, rfl⟩) ?_
          refine aTk 18 rfl (by kernel_rfl) rfl (q_of fun D => w_pass rfl rfl ⟨rfl, rfl, rfl, rfl⟩) ?_
          refine aTk 19 rfl (by kernel_rfl) rfl (q_of fun D => w_pass rfl rfl ⟨rfl, rfl, rfl, rfl⟩) ?_
          refine aTk 20 rfl (by kernel_rfl) rfl (q_of fun D => w_pickT rfl rfl rfl rfl ⟨rfl, rfl, rfl, rfl⟩) ?_
          refine aTP 21 rfl (by kernel_rfl) rfl (fun D B L => w_move rfl rfl rfl ⟨rfl, rfl, rfl, rfl⟩) ?_
          refine aTP 22 rfl (by kernel_rfl) rfl (fun D B L => w_pass rfl rfl ⟨rfl, rfl, rfl, rfl⟩) ?_
          refine aTk 23 rfl (by kernel_rfl) rfl (q_of fun D => w_pass rfl rfl ⟨rfl, rfl, rfl, rfl⟩) ?_
          refine aTP 24 rfl (by kernel_rfl) rfl (fun D B L => w_pass rfl rfl ⟨rfl, rfl, rfl, rfl⟩) ?_
          refine aTP 25 rfl (by kernel_rfl) rfl (fun D B L => w_pass rfl rfl ⟨rfl, rfl, rfl, rfl⟩) ?_
          refine aTP 26 rfl (by kernel_rfl) rfl (fun D B L => w_pass rfl rfl ⟨rfl, rfl, rfl, rfl⟩) ?_
          refine aTk 27 rfl (by kernel_rfl) rfl (q_of fun D => w_pass rfl rfl ⟨rfl, rfl, rfl, rfl⟩) ?_
          refine aTk 28 rfl (by kernel_rfl) rfl (q_of fun D => w_pass rfl rfl ⟨rfl, rfl, rfl, rfl⟩) ?_
          refine aTk 29 rfl (by kernel_rfl) rfl (q_of fun D => w_pass rfl rfl ⟨rfl, rfl, rfl, rfl⟩) ?_
          refine aTk 30 rfl (by kernel_rfl) rfl (q_of fun D => w_pass rfl rfl ⟨rfl, rfl, rfl, rfl⟩) ?_
          refine aTk 31 rfl (by kernel_rfl) rfl (q_of fun D => w_pass rfl rfl ⟨rfl, rfl, rfl, rfl⟩) ?_
          refine aTk 32 rfl (by kernel_rfl) rfl (q_of fun D => w_pass rfl rfl ⟨rfl, rfl, rfl, rfl⟩) ?_
          refine aTk 33 rfl (by kernel_rfl) rfl (q_of fun D => w_pass rfl rfl ⟨rfl, rfl, rfl, rfl⟩) ?_
          refine aTk 34 rfl (by kernel_rfl) rfl (q_of fun D => w_pass rfl rfl ⟨rfl, rfl, rfl, rfl⟩) ?_
          refine aTk 35 rfl (by kernel_rfl) rfl (q_of fun D => w_pickT rfl rfl rfl rfl ⟨rfl, rfl, rfl, rfl⟩) ?_
          refine any_done (by kernel_rfl) (by kernel_rfl) ?_
          refine thn_n ?_
          refine wKp [(0, _), (3, _), (4, _), (8, _), (50, _)] ⟨rfl, rfl, rfl, rfl, rfl, trivial⟩ ?_
          refine wCd (t := true) rfl (fun _ => ?_) (fun h => Bool.noConfusion h)
          refine wSR ?_
          refine xAs ?_
          refine wKp [(0, _), (2, _), (3, _), (4, _), (8, _), (50, _)] ⟨rfl, rfl, rfl, rfl, rfl, rfl, trivial⟩ ?_
          refine w_ret (inB_r (thn_r (rndE_r (inB_r (thn_r ?_)))))
          exact end0 .ret (.inl rfl) [_] ⟨rfl, trivial⟩ ⟨bool_eq (usersOk_hit hm hs (by simp [userP, userOk, anyone, g1, g2, g3, g4])).symm, rfl, rfl⟩
        · try simp only [sQ1, sQ2, sQ3, sQ4, sQ5, sQ6, sQ7, sQ8, ne_eq] at g4
          refine aTk 16 rfl (by kernel_rfl) rfl (q_of fun D => wFA rfl rfl fo44x2 rfl ⟨rfl, rfl, rfl, rfl⟩) ?_
          refine aTk 17 rfl (by kernel_rfl) rfl (q_of fun D => w_load1 rfl rfl lk3 rfl (atL 0 rfl rfl rfl) ⟨rfl, rfl, rfl, rfl⟩) ?_
          refine aTk 18 rfl (by kernel_rfl) rfl (q_of fun D => w_retB rfl rfl en125 rfl (l6In_c _ _ _ _) ⟨rfl, rfl, rfl, rfl⟩) ?_
          refine aTk 19 rfl (by kernel_rfl) rfl (q_of fun D => w_not rfl rfl rfl ⟨rfl, rfl, rfl, rfl⟩) ?_
          refine aTk 20 rfl (by kernel_rfl) rfl (q_of fun D => w_pickF rfl rfl rfl rfl ⟨rfl, rfl, rfl, rfl⟩) ?_
          refine aTP 21 rfl (by kernel_rfl) rfl (fun D B L => w_move rfl rfl rfl ⟨rfl, rfl, rfl, rfl⟩) ?_
          refine a_split (d := 36) rfl (fun g5 => ?_) (fun g5 => ?_)
          · try simp only [sQ1, sQ2, sQ3, sQ4, sQ5, sQ6, sQ7, sQ8, ne_eq] at g5
            refine aTP 22 rfl (by kernel_rfl) rfl (fun D B L => w_pass rfl rfl ⟨rfl, rfl, rfl, rfl⟩) ?_
            refine aTk 23 rfl (by kernel_rfl) rfl (q_of fun D => w_pass rfl rfl ⟨rfl, rfl, rfl, rfl⟩) ?_
            refine aTP 24 rfl (by kernel_rfl) rfl (fun D B L => w_pass rfl rfl ⟨rfl, rfl, rfl, rfl⟩) ?_
            refine aTP 25 rfl (by kernel_rfl) rfl (fun D B L => w_pass rfl rfl ⟨rfl, rfl, rfl, rfl⟩) ?_
            refine aTP 26 rfl (by kernel_rfl) rfl (fun D B L => w_pass rfl rfl ⟨rfl, rfl, rfl, rfl⟩) ?_
            refine aTk 27 rfl (by kernel_rfl) rfl (q_of fun D => w_pass rfl rfl ⟨rfl, rfl, rfl, rfl⟩) ?_
            refine aTk 28 rfl (by kernel_rfl) rfl (q_of fun D => w_pass rfl rfl ⟨rfl, rfl, rfl, rfl⟩) ?_
            refine aTk 29 rfl (by kernel_rfl) rfl (q_of fun D => w_pass rfl rfl ⟨rfl, rfl, rfl, rfl⟩) ?_
            refine aTk 30 rfl (by kernel_rfl) rfl (q_of fun D => w_pass rfl rfl ⟨rfl, rfl, rfl, rfl⟩) ?_
            refine aTk 31 rfl (by kernel_rfl) rfl (q_of fun D => w_pass rfl rfl ⟨rfl, rfl, rfl, rfl⟩) ?_
            refine aTk 32 rfl (by kernel_rfl) rfl (q_of fun D => w_pass rfl rfl ⟨rfl, rfl, rfl, rfl⟩) ?_
            refine aTk 33 rfl (by kernel_rfl) rfl (q_of fun D => w_pass rfl rfl ⟨rfl, rfl, rfl, rfl⟩) ?_
            refine aTk 34 rfl (by kernel_rfl) rfl (q_of fun D => w_pass rfl rfl ⟨rfl, rfl, rfl, rfl⟩) ?_
            refine aTk 35 rfl (by kernel_rfl) rfl (q_of fun D => w_pickT rfl rfl rfl rfl ⟨rfl, rfl, rfl, rfl⟩) ?_
            refine any_done (by kernel_rfl) (by kernel_rfl) ?_
            refine thn_n ?_
            refine wKp [(0, _), (3, _), (4, _), (8, _), (50, _)] ⟨rfl, rfl, rfl, rfl, rfl, trivial⟩ ?_
            refine wCd (t := true) rfl (fun _ => ?_) (fun h => Bool.noConfusion h)
            refine wSR ?_
            refine xAs ?_
            refine wKp [(0, _), (2, _), (3, _), (4, _), (8, _), (50, _)] ⟨rfl, rfl, rfl, rfl, rfl, rfl, trivial⟩ ?_
            refine w_ret (inB_r (thn_r (rndE_r (inB_r (thn_r ?_)))))
            exact end0 .ret (.inl rfl) [_] ⟨rfl, trivial⟩ ⟨bool_eq (usersOk_hit hm hs (by simp [userP, userOk, anyone, g1, g2, g3, g4, g5])).symm, rfl, rfl⟩
          · try simp only [sQ1, sQ2, sQ3, sQ4, sQ5, sQ6, sQ7, sQ8, ne_eq] at g5
            refine aTP 22 rfl (by kernel_rfl) rfl (fun D B L => w_move rfl rfl rfl ⟨rfl, rfl, rfl, rfl⟩) ?_
            refine aTk 23 rfl (by kernel_rfl) rfl (q_of fun D => w_gtr rfl rfl rfl rfl ⟨rfl, rfl, rfl, rfl⟩) ?_
            refine aTP 24 rfl (by kernel_rfl) rfl (fun D B L => w_move rfl rfl rfl ⟨rfl, rfl, rfl, rfl⟩) ?_
            refine a_split (d := 39) rfl (fun g6 => ?_) (fun g6 => ?_)
            · try simp only [sQ1, sQ2, sQ3, sQ4, sQ5, sQ6, sQ7, sQ8, ne_eq] at g6
              refine aTP 25 rfl (by kernel_rfl) rfl (fun D B L => w_move rfl rfl rfl ⟨rfl, rfl, rfl, rfl⟩) ?_
              refine aTP 26 rfl (by kernel_rfl) rfl (fun D B L => w_move rfl rfl rfl ⟨rfl, rfl, rfl, rfl⟩) ?_
              refine aTk 27 rfl (by kernel_rfl) rfl (q_of fun D => w_sub rfl rfl rfl rfl (by first | exact wrI64 (by first | omega | (simp; done) | (simp; omega)) (by first | omega | (simp; done) | (simp; omega)) | rfl) ⟨rfl, rfl, rfl, rfl⟩) ?_
              obtain ⟨y, hy⟩ := getI (xs := us) (i := (↑g.1 - 1)) (by first | omega | (simp; done) | (simp; omega)) (by first | omega | (simp; done) | (simp; omega))
              obtain ⟨_, ⟨rfl, hb10, hb10b⟩, hc10⟩ := hu.elem hy
              refine aTk 28 rfl (by kernel_rfl) rfl (q_of fun D => w_ixB rfl rfl Tryz.underlying23 sz44 rfl rfl (by first | omega | (simp; done) | (simp; omega)) (by first | omega | (simp; done) | (simp; omega)) ⟨rfl, rfl, rfl, rfl⟩) ?_
              have hpe := hp.at hy (by omega)
              refine aTk 29 rfl (by kernel_rfl) rfl (q_of fun D => wFA rfl rfl fo44x0 rfl ⟨rfl, rfl, rfl, rfl⟩) ?_
              refine aTk 30 rfl (by kernel_rfl) rfl (q_of fun D => w_load1 rfl rfl lk9 rfl (hc10 _ 0 _ rfl) ⟨rfl, rfl, rfl, rfl⟩) ?_
              refine aTk 31 rfl (by kernel_rfl) rfl (q_of fun D => wFA rfl rfl fo44x0 rfl ⟨rfl, rfl, rfl, rfl⟩) ?_
              refine aTk 32 rfl (by kernel_rfl) rfl (q_of fun D => w_load1 rfl rfl lk9 rfl (atL 0 rfl rfl rfl) ⟨rfl, rfl, rfl, rfl⟩) ?_
              refine aTk 33 rfl (by kernel_rfl) rfl (q_of fun D => w_geqS rfl rfl rfl rfl ⟨rfl, rfl, rfl, rfl⟩) ?_
              refine aTk 34 rfl (by kernel_rfl) rfl (q_of fun D => w_pickT rfl rfl rfl rfl ⟨rfl, rfl, rfl, rfl⟩) ?_
              refine aTk 35 rfl (by kernel_rfl) rfl (q_of fun D => w_pickF rfl rfl rfl rfl ⟨rfl, rfl, rfl, rfl⟩) ?_
              refine any_done (by kernel_rfl) (by kernel_rfl) ?_
              refine thn_n ?_
              refine wKp [(0, _), (3, _), (4, _), (8, _), (50, _)] ⟨rfl, rfl, rfl, rfl, rfl, trivial⟩ ?_
              refine wCd rfl (fun g7 => ?_) (fun g7 => ?_)
              · try simp only [sQ1, sQ2, sQ3, sQ4, sQ5, sQ6, sQ7, sQ8, ne_eq] at g7
                refine wSR ?_
                refine xAs ?_
                refine wKp [(0, _), (2, _), (3, _), (4, _), (8, _), (50, _)] ⟨rfl, rfl, rfl, rfl, rfl, rfl, trivial⟩ ?_
                refine w_ret (inB_r (thn_r (rndE_r (inB_r (thn_r ?_)))))
                exact end0 .ret (.inl rfl) [_] ⟨rfl, trivial⟩ ⟨bool_eq (usersOk_hit hm hs (by simp [userP, userOk, anyone, g1, g2, g3, g4, g5, g6, g7, hpe])).symm, rfl, rfl⟩
              · try simp only [sQ1, sQ2, sQ3, sQ4, sQ5, sQ6, sQ7, sQ8, ne_eq] at g7
                refine w_skip ?_
                refine inB_n (thn_n ?_)
                refine w_region ?_
                refine xMv ?_
                refine oX (w_add rfl rfl rfl rfl (by first | exact wrI64 (by first | omega | (simp; done) | (simp; omega)) (by first | omega | (simp; done) | (simp; omega)) | rfl) ?_)
                refine xAs ?_
                exact rndE_n (g.1 + 1, m.name) [] (by first | omega | (simp only []; omega)) ⟨rfl, by omega, scn_step hm hs (by rw [hpe]; simp [userP, userOk, anyone, g2, g3, g4, g7]; simp at g5; omega), .succ hm⟩ ⟨rfl, rfl, trivial⟩ rfl
            · try simp only [sQ1, sQ2, sQ3, sQ4, sQ5, sQ6, sQ7, sQ8, ne_eq] at g6
              refine aTP 25 rfl (by kernel_rfl) rfl (fun D B L => w_pass rfl rfl ⟨rfl, rfl, rfl, rfl⟩) ?_
              refine aTP 26 rfl (by kernel_rfl) rfl (fun D B L => w_pass rfl rfl ⟨rfl, rfl, rfl, rfl⟩) ?_
              refine aTk 27 rfl (by kernel_rfl) rfl (q_of fun D => w_pass rfl rfl ⟨rfl, rfl, rfl, rfl⟩) ?_
              refine aTk 28 rfl (by kernel_rfl) rfl (q_of fun D => w_pass rfl rfl ⟨rfl, rfl, rfl, rfl⟩) ?_
              refine aTk 29 rfl (by kernel_rfl) rfl (q_of fun D => w_pass rfl rfl ⟨rfl, rfl, rfl, rfl⟩) ?_
              refine aTk 30 rfl (by kernel_rfl) rfl (q_of fun D => w_pass rfl rfl ⟨rfl, rfl, rfl, rfl⟩) ?_
              refine aTk 31 rfl (by kernel_rfl) rfl (q_of fun D => w_pass rfl rfl ⟨rfl, rfl, rfl, rfl⟩) ?_
              refine aTk 32 rfl (by kernel_rfl) rfl (q_of fun D => w_pass rfl rfl ⟨rfl, rfl, rfl, rfl⟩) ?_
              refine aTk 33 rfl (by kernel_rfl) rfl (q_of fun D => w_pass rfl rfl ⟨rfl, rfl, rfl, rfl⟩) ?_
              refine aTk 34 rfl (by kernel_rfl) rfl (q_of fun D => w_pickF rfl rfl rfl rfl ⟨rfl, rfl, rfl, rfl⟩) ?_
              refine aTk 35 rfl (by kernel_rfl) rfl (q_of fun D => w_pickF rfl rfl rfl rfl ⟨rfl, rfl, rfl, rfl⟩) ?_
              refine any_done (by kernel_rfl) (by kernel_rfl) ?_
              refine thn_n ?_
              refine wKp [(0, _), (3, _), (4, _), (8, _), (50, _)] ⟨rfl, rfl, rfl, rfl, rfl, trivial⟩ ?_
              refine wCd (t := false) rfl (fun h => Bool.noConfusion h) (fun _ => ?_)
              refine w_skip ?_
              refine inB_n (thn_n ?_)
              refine w_region ?_
              refine xMv ?_
              refine oX (w_add rfl rfl rfl rfl (by first | exact wrI64 (by first | omega | (simp; done) | (simp; omega)) (by first | omega | (simp; done) | (simp; omega)) | rfl) ?_)
              refine xAs ?_
              exact rndE_n (g.1 + 1, m.name) [] (by first | omega | (simp only []; omega)) ⟨rfl, by omega, scn_step hm hs (by rw [hp.at0 (by omega)]; simp [userP, userOk, anyone, g2, g3, g4, nil_less (nameOk_pos g2)]; simp at g5; omega), .succ hm⟩ ⟨rfl, rfl, trivial⟩ rfl
  · try simp only [sQ1, sQ2, sQ3, sQ4, sQ5, sQ6, sQ7, sQ8, ne_eq] at g1
    refine w_exit (thn_x (rndE_x (inB_hit (thn_n ?_))))
    refine wSR ?_
    refine xMv ?_
    refine oX (w_lenV rfl rfl Tryz.underlying23 rfl ?_)
    refine oX (w_retB rfl rfl en125 rfl (l6In_c _ _ _ _) ?_)
    refine xAs ?_
    refine wKp [(0, _), (2, _), (3, _), (8, _)] ⟨rfl, rfl, rfl, rfl, trivial⟩ ?_
    refine w_ret ?_
    exact end0 .ret (.inl rfl) [_] ⟨rfl, trivial⟩ ⟨bool_eq (by rw [usersOk_end (scn_end hs (by omega)), Bool.eq_iff_iff]; simp; omega), rfl, rfl⟩

set_option maxRecDepth 4000 in
set_option maxHeartbeats 400000 in
theorem specAcl_c (q : Option Addr) (cp : Nat) (gs : List DGrant) (B : Kn) (hg : SlK B q cp 2 GrantR gs) : RetB (pj J) 127 [.slice q gs.length cp] B (.bool (aclOk gs)) := by
  refine cBB 47 Tryz.func127 rfl rfl rfl (Nat.le_of_ble_eq_true rfl) ?_
  have hgn := hg.len
  refine wSR ?_
  refine xAs ?_
  refine wKp [(0, _), (2, _)] ⟨rfl, rfl, trivial⟩ ?_
  refine w_seq ?_
  refine wSR ?_
  refine xAs ?_
  refine wKp [(0, _), (2, _), (3, _)] ⟨rfl, rfl, rfl, trivial⟩ ?_
  refine w_block ?_
  refine w_loopE (α := Nat × Str) [0] (fun g => [(3, .int .i64 g.1)]) [] (fun g => []) (fun g Bx => Bx = B ∧ g.1 ≤ gs.length ∧ grantScan (gs.take g.1) = (true, g.2) ∧ Prev (fun y => y.user) ([] : Str) gs g.1 g.2) (fun g => gs.length - g.1) (0, []) ⟨rfl, trivial⟩ rfl (⟨rfl, Nat.zero_le _, scn_nil, .zero⟩) (fun g B1 hle1 hI => ?_)
  obtain ⟨rfl, hk, hs, hp⟩ := hI
  refine wTd [(0, _), (3, _)] [] ⟨rfl, rfl, trivial⟩ rfl ?_
  refine w_seq ?_
  refine wSR ?_
  refine xMv ?_
  refine xMv ?_
  refine oX (w_lenV rfl rfl Tryz.underlying35 rfl ?_)
  refine oX (w_lss rfl rfl rfl rfl ?_)
  refine wKp [(0, _), (3, _), (7, _)] ⟨rfl, rfl, rfl, trivial⟩ ?_
  refine wCd rfl (fun g1 => ?_) (fun g1 => ?_)
  · try simp only [sQ1, sQ2, sQ3, sQ4, sQ5, sQ6, sQ7, sQ8, ne_eq] at g1
    refine w_skip ?_
    refine thn_n ?_
    refine w_seq ?_
    refine w_block ?_
    refine w_seq ?_
    refine w_draw (same _ _) mo (by kernel_rfl) ⟨rfl, rfl⟩ (fun _ _ => ?_)
    refine aTP 0 rfl (by kernel_rfl) rfl (fun D B L => w_move rfl rfl rfl ⟨rfl, rfl, rfl, rfl⟩) ?_
    refine aTP 1 rfl (by kernel_rfl) rfl (fun D B L => w_move rfl rfl rfl ⟨rfl, rfl, rfl, rfl⟩) ?_
    obtain ⟨m, hm⟩ := getLt (xs := gs) (i := g.1) (by first | omega | (simp; done) | (simp; omega))
    obtain ⟨bb3, oo3, rfl⟩ := hg.base hm
    obtain ⟨_, ⟨rfl, hb4⟩, hc4⟩ := hg.elem hm
    refine aTk 2 rfl (by kernel_rfl) rfl (q_of fun D => w_ixB rfl rfl Tryz.underlying35 sz174 rfl rfl (by first | omega | (simp; done) | (simp; omega)) (by first | omega | (simp; done) | (simp; omega)) ⟨rfl, rfl, rfl, rfl⟩) ?_
    refine aTk 3 rfl (by kernel_rfl) rfl (q_of fun D => wFA rfl rfl fo174x0 rfl ⟨rfl, rfl, rfl, rfl⟩) ?_
    refine aTk 4 rfl (by kernel_rfl) rfl (q_of fun D => w_load1 rfl rfl lk9 rfl (hc4 _ 0 _ rfl) ⟨rfl, rfl, rfl, rfl⟩) ?_
    refine aTk 5 rfl (by kernel_rfl) rfl (q_of fun D => w_retB rfl rfl en124 rfl (specName_c _ (by first | assumption | omega | (simp; done) | (simp; omega)) _) ⟨rfl, rfl, rfl, rfl⟩) ?_
    refine aTk 6 rfl (by kernel_rfl) rfl (q_of fun D => w_not rfl rfl rfl ⟨rfl, rfl, rfl, rfl⟩) ?_
    refine aTP 7 rfl (by kernel_rfl) rfl (fun D B L => w_move rfl rfl rfl ⟨rfl, rfl, rfl, rfl⟩) ?_
    refine a_split (d := 17) rfl (fun g2 => ?_) (fun g2 => ?_)
    · try simp only [sQ1, sQ2, sQ3, sQ4, sQ5, sQ6, sQ7, sQ8, ne_eq] at g2
      refine aTP 8 rfl (by kernel_rfl) rfl (fun D B L => w_pass rfl rfl ⟨rfl, rfl, rfl, rfl⟩) ?_
      refine aTP 9 rfl (by kernel_rfl) rfl (fun D B L => w_pass rfl rfl ⟨rfl, rfl, rfl, rfl⟩) ?_
      refine aTk 10 rfl (by kernel_rfl) rfl (q_of fun D => w_pass rfl rfl ⟨rfl, rfl, rfl, rfl⟩) ?_
      refine aTk 11 rfl (by kernel_rfl) rfl (q_of fun D => w_pass rfl rfl ⟨rfl, rfl, rfl, rfl⟩) ?_
      refine aTk 12 rfl (by kernel_rfl) rfl (q_of fun D => w_pass rfl rfl ⟨rfl, rfl, rfl, rfl⟩) ?_
      refine aTk 13 rfl (by kernel_rfl) rfl (q_of fun D => w_pass rfl rfl ⟨rfl, rfl, rfl, rfl⟩) ?_
      refine aTk 14 rfl (by kernel_rfl) rfl (q_of fun D => w_pass rfl rfl ⟨rfl, rfl, rfl, rfl⟩) ?_
      refine aTk 15 rfl (by kernel_rfl) rfl (q_of fun D => w_pickT rfl rfl rfl rfl ⟨rfl, rfl, rfl, rfl⟩) ?_
      refine aTP 16 rfl (by kernel_rfl) rfl (fun D B L => w_move rfl rfl rfl ⟨rfl, rfl, rfl, rfl⟩) ?_
      refine aTP 17 rfl (by kernel_rfl) rfl (fun D B L => w_pass rfl rfl ⟨rfl, rfl, rfl, rfl⟩) ?_
      refine aTk 18 rfl (by kernel_rfl) rfl (q_of fun D => w_pass rfl rfl ⟨rfl, rfl, rfl, rfl⟩) ?_
      refine aTP 19 rfl (by kernel_rfl) rfl (fun D B L => w_pass rfl rfl ⟨rfl, rfl, rfl, rfl⟩) ?_
      refine aTP 20 rfl (by kernel_rfl) rfl (fun D B L => w_pass rfl rfl ⟨rfl, rfl, rfl, rfl⟩) ?_
      refine aTP 21 rfl (by kernel_rfl) rfl (fun D B L => w_pass rfl rfl ⟨rfl, rfl, rfl, rfl⟩) ?_
      refine aTk 22 rfl (by kernel_rfl) rfl (q_of fun D => w_pass rfl rfl ⟨rfl, rfl, rfl, rfl⟩) ?_
      refine aTk 23 rfl (by kernel_rfl) rfl (q_of fun D => w_pass rfl rfl ⟨rfl, rfl, rfl, rfl⟩) ?_
      refine aTk 24 rfl (by kernel_rfl) rfl (q_of fun D => w_pass rfl rfl ⟨rfl, rfl, rfl, rfl⟩) ?_
      refine aTk 25 rfl (by kernel_rfl) rfl (q_of fun D => w_pass rfl rfl ⟨rfl, rfl, rfl, rfl⟩) ?_
      refine aTP 26 rfl (by kernel_rfl) rfl (fun D B L => w_pass rfl rfl ⟨rfl, rfl, rfl, rfl⟩) ?_
      refine aTP 27 rfl (by kernel_rfl) rfl (fun D B L => w_pass rfl rfl ⟨rfl, rfl, rfl, rfl⟩) ?_
      refine aTk 28 rfl (by kernel_rfl) rfl (q_of fun D => w_pass rfl rfl ⟨rfl, rfl, rfl, rfl⟩) ?_
      refine aTk 29 rfl (by kernel_rfl) rfl (q_of fun D => w_pass rfl rfl ⟨rfl, rfl, rfl, rfl⟩) ?_
      refine aTk 30 rfl (by kernel_rfl) rfl (q_of fun D => w_pass rfl rfl ⟨rfl, rfl, rfl, rfl⟩) ?_
      refine aTk 31 rfl (by kernel_rfl) rfl (q_of fun D => w_pass rfl rfl ⟨rfl, rfl, rfl, rfl⟩) ?_
      refine aTk 32 rfl (by kernel_rfl) rfl (q_of fun D => w_pass rfl rfl ⟨rfl, rfl, rfl, rfl⟩) ?_
      refine aTk 33 rfl (by kernel_rfl) rfl (q_of fun D => w_pickT rfl rfl rfl rfl ⟨rfl, rfl, rfl, rfl⟩) ?_
      refine any_done (by kernel_rfl) (by kernel_rfl) ?_
      refine thn_n ?_
      refine wKp [(0, _), (3, _), (7, _), (43, _)] ⟨rfl, rfl, rfl, rfl, trivial⟩ ?_
      refine wCd (t := true) rfl (fun _ => ?_) (fun h => Bool.noConfusion h)
      refine wSR ?_
      refine xAs ?_
      refine wKp [(0, _), (2, _), (3, _), (7, _), (43, _)] ⟨rfl, rfl, rfl, rfl, rfl, trivial⟩ ?_
      refine w_ret (inB_r (thn_r (rndE_r (inB_r (thn_r ?_)))))
      exact end0 .ret (.inl rfl) [_] ⟨rfl, trivial⟩ ⟨bool_eq (aclOk_hit hm hs (by simp [grantP, g1, g2])).symm, rfl, rfl⟩
    · try simp only [sQ1, sQ2, sQ3, sQ4, sQ5, sQ6, sQ7, sQ8, ne_eq] at g2
      refine aTP 8 rfl (by kernel_rfl) rfl (fun D B L => w_move rfl rfl rfl ⟨rfl, rfl, rfl, rfl⟩) ?_
      refine aTP 9 rfl (by kernel_rfl) rfl (fun D B L => w_move rfl rfl rfl ⟨rfl, rfl, rfl, rfl⟩) ?_
      refine aTk 10 rfl (by kernel_rfl) rfl (q_of fun D => w_ixB rfl rfl Tryz.underlying35 sz174 rfl rfl (by first | omega | (simp; done) | (simp; omega)) (by first | omega | (simp; done) | (simp; omega)) ⟨rfl, rfl, rfl, rfl⟩) ?_
      refine aTk 11 rfl (by kernel_rfl) rfl (q_of fun D => wFA rfl rfl fo174x1 rfl ⟨rfl, rfl, rfl, rfl⟩) ?_
      refine aTk 12 rfl (by kernel_rfl) rfl (q_of fun D => w_load1 rfl rfl lk3 rfl (hc4 _ 1 _ rfl) ⟨rfl, rfl, rfl, rfl⟩) ?_
      refine aTk 13 rfl (by kernel_rfl) rfl (q_of fun D => w_retB rfl rfl en125 rfl (l6In_c _ _ _ _) ⟨rfl, rfl, rfl, rfl⟩) ?_
      refine aTk 14 rfl (by kernel_rfl) rfl (q_of fun D => w_not rfl rfl rfl ⟨rfl, rfl, rfl, rfl⟩) ?_
      refine aTk 15 rfl (by kernel_rfl) rfl (q_of fun D => w_pickF rfl rfl rfl rfl ⟨rfl, rfl, rfl, rfl⟩) ?_
      refine aTP 16 rfl (by kernel_rfl) rfl (fun D B L => w_move rfl rfl rfl ⟨rfl, rfl, rfl, rfl⟩) ?_
      refine a_split (d := 26) rfl (fun g4 => ?_) (fun g4 => ?_)
      · try simp only [sQ1, sQ2, sQ3, sQ4, sQ5, sQ6, sQ7, sQ8, ne_eq] at g4
        refine aTP 17 rfl (by kernel_rfl) rfl (fun D B L => w_pass rfl rfl ⟨rfl, rfl, rfl, rfl⟩) ?_
        refine aTk 18 rfl (by kernel_rfl) rfl (q_of fun D => w_pass rfl rfl ⟨rfl, rfl, rfl, rfl⟩) ?_
        refine aTP 19 rfl (by kernel_rfl) rfl (fun D B L => w_pass rfl rfl ⟨rfl, rfl, rfl, rfl⟩) ?_
        refine aTP 20 rfl (by kernel_rfl) rfl (fun D B L => w_pass rfl rfl ⟨rfl, rfl, rfl, rfl⟩) ?_
        refine aTP 21 rfl (by kernel_rfl) rfl (fun D B L => w_pass rfl rfl ⟨rfl, rfl, rfl, rfl⟩) ?_
        refine aTk 22 rfl (by kernel_rfl) rfl (q_of fun D => w_pass rfl rfl ⟨rfl, rfl, rfl, rfl⟩) ?_
        refine aTk 23 rfl (by kernel_rfl) rfl (q_of fun D => w_pass rfl rfl ⟨rfl, rfl, rfl, rfl⟩) ?_
        refine aTk 24 rfl (by kernel_rfl) rfl (q_of fun D => w_pass rfl rfl ⟨rfl, rfl, rfl, rfl⟩) ?_
        refine aTk 25 rfl (by kernel_rfl) rfl (q_of fun D => w_pass rfl rfl ⟨rfl, rfl, rfl, rfl⟩) ?_
        refine aTP 26 rfl (by kernel_rfl) rfl (fun D B L => w_pass rfl rfl ⟨rfl, rfl, rfl, rfl⟩) ?_
        refine aTP 27 rfl (by kernel_rfl) rfl (fun D B L => w_pass rfl rfl ⟨rfl, rfl, rfl, rfl⟩) ?_
        refine aTk 28 rfl (by kernel_rfl) rfl (q_of fun D => w_pass rfl rfl ⟨rfl, rfl, rfl, rfl⟩) ?_
        refine aTk 29 rfl (by kernel_rfl) rfl (q_of fun D => w_pass rfl rfl ⟨rfl, rfl, rfl, rfl⟩) ?_
        refine aTk 30 rfl (by kernel_rfl) rfl (q_of fun D => w_pass rfl rfl ⟨rfl, rfl, rfl, rfl⟩) ?_
        refine aTk 31 rfl (by kernel_rfl) rfl (q_of fun D => w_pass rfl rfl ⟨rfl, rfl, rfl, rfl⟩) ?_
        refine aTk 32 rfl (by kernel_rfl) rfl (q_of fun D => w_pass rfl rfl ⟨rfl, rfl, rfl, rfl⟩) ?_
        refine aTk 33 rfl (by kernel_rfl) rfl (q_of fun D => w_pickT rfl rfl rfl rfl ⟨rfl, rfl, rfl, rfl⟩) ?_
        refine any_done (by kernel_rfl) (by kernel_rfl) ?_
        refine thn_n ?_
        refine wKp [(0, _), (3, _), (7, _), (43, _)] ⟨rfl, rfl, rfl, rfl, trivial⟩ ?_
        refine wCd (t := true) rfl (fun _ => ?_) (fun h => Bool.noConfusion h)
        refine wSR ?_
        refine xAs ?_
        refine wKp [(0, _), (2, _), (3, _), (7, _), (43, _)] ⟨rfl, rfl, rfl, rfl, rfl, trivial⟩ ?_
        refine w_ret (inB_r (thn_r (rndE_r (inB_r (thn_r ?_)))))
        exact end0 .ret (.inl rfl) [_] ⟨rfl, trivial⟩ ⟨bool_eq (aclOk_hit hm hs (by simp [grantP, g1, g2, g4])).symm, rfl, rfl⟩
      · try simp only [sQ1, sQ2, sQ3, sQ4, sQ5, sQ6, sQ7, sQ8, ne_eq] at g4
        refine aTP 17 rfl (by kernel_rfl) rfl (fun D B L => w_move rfl rfl rfl ⟨rfl, rfl, rfl, rfl⟩) ?_
        refine aTk 18 rfl (by kernel_rfl) rfl (q_of fun D => w_gtr rfl rfl rfl rfl ⟨rfl, rfl, rfl, rfl⟩) ?_
        refine aTP 19 rfl (by kernel_rfl) rfl (fun D B L => w_move rfl rfl rfl ⟨rfl, rfl, rfl, rfl⟩) ?_
        refine a_split (d := 29) rfl (fun g6 => ?_) (fun g6 => ?_)
        · try simp only [sQ1, sQ2, sQ3, sQ4, sQ5, sQ6, sQ7, sQ8, ne_eq] at g6
          refine aTP 20 rfl (by kernel_rfl) rfl (fun D B L => w_move rfl rfl rfl ⟨rfl, rfl, rfl, rfl⟩) ?_
          refine aTP 21 rfl (by kernel_rfl) rfl (fun D B L => w_move rfl rfl rfl ⟨rfl, rfl, rfl, rfl⟩) ?_
          refine aTk 22 rfl (by kernel_rfl) rfl (q_of fun D => w_sub rfl rfl rfl rfl (by first | exact wrI64 (by first | omega | (simp; done) | (simp; omega)) (by first | omega | (simp; done) | (simp; omega)) | rfl) ⟨rfl, rfl, rfl, rfl⟩) ?_
          obtain ⟨y, hy⟩ := getI (xs := gs) (i := (↑g.1 - 1)) (by first | omega | (simp; done) | (simp; omega)) (by first | omega | (simp; done) | (simp; omega))
          obtain ⟨_, ⟨rfl, hb8⟩, hc8⟩ := hg.elem hy
          refine aTk 23 rfl (by kernel_rfl) rfl (q_of fun D => w_ixB rfl rfl Tryz.underlying35 sz174 rfl rfl (by first | omega | (simp; done) | (simp; omega)) (by first | omega | (simp; done) | (simp; omega)) ⟨rfl, rfl, rfl, rfl⟩) ?_
          have hpe := hp.at hy (by omega)
          refine aTk 24 rfl (by kernel_rfl) rfl (q_of fun D => wFA rfl rfl fo174x0 rfl ⟨rfl, rfl, rfl, rfl⟩) ?_
          refine aTk 25 rfl (by kernel_rfl) rfl (q_of fun D => w_load1 rfl rfl lk9 rfl (hc8 _ 0 _ rfl) ⟨rfl, rfl, rfl, rfl⟩) ?_
          refine aTP 26 rfl (by kernel_rfl) rfl (fun D B L => w_move rfl rfl rfl ⟨rfl, rfl, rfl, rfl⟩) ?_
          refine aTP 27 rfl (by kernel_rfl) rfl (fun D B L => w_move rfl rfl rfl ⟨rfl, rfl, rfl, rfl⟩) ?_
          refine aTk 28 rfl (by kernel_rfl) rfl (q_of fun D => w_ixB rfl rfl Tryz.underlying35 sz174 rfl rfl (by first | omega | (simp; done) | (simp; omega)) (by first | omega | (simp; done) | (simp; omega)) ⟨rfl, rfl, rfl, rfl⟩) ?_
          refine aTk 29 rfl (by kernel_rfl) rfl (q_of fun D => wFA rfl rfl fo174x0 rfl ⟨rfl, rfl, rfl, rfl⟩) ?_
          refine aTk 30 rfl (by kernel_rfl) rfl (q_of fun D => w_load1 rfl rfl lk9 rfl (hc4 _ 0 _ rfl) ⟨rfl, rfl, rfl, rfl⟩) ?_
          refine aTk 31 rfl (by kernel_rfl) rfl (q_of fun D => w_geqS rfl rfl rfl rfl ⟨rfl, rfl, rfl, rfl⟩) ?_
          refine aTk 32 rfl (by kernel_rfl) rfl (q_of fun D => w_pickT rfl rfl rfl rfl ⟨rfl, rfl, rfl, rfl⟩) ?_
          refine aTk 33 rfl (by kernel_rfl) rfl (q_of fun D => w_pickF rfl rfl rfl rfl ⟨rfl, rfl, rfl, rfl⟩) ?_
          refine any_done (by kernel_rfl) (by kernel_rfl) ?_
          refine thn_n ?_
          refine wKp [(0, _), (3, _), (7, _), (43, _)] ⟨rfl, rfl, rfl, rfl, trivial⟩ ?_
          refine wCd rfl (fun g7 => ?_) (fun g7 => ?_)
          · try simp only [sQ1, sQ2, sQ3, sQ4, sQ5, sQ6, sQ7, sQ8, ne_eq] at g7
            refine wSR ?_
            refine xAs ?_
            refine wKp [(0, _), (2, _), (3, _), (7, _), (43, _)] ⟨rfl, rfl, rfl, rfl, rfl, trivial⟩ ?_
            refine w_ret (inB_r (thn_r (rndE_r (inB_r (thn_r ?_)))))
            exact end0 .ret (.inl rfl) [_] ⟨rfl, trivial⟩ ⟨bool_eq (aclOk_hit hm hs (by simp [grantP, g1, g2, g4, g6, g7, hpe])).symm, rfl, rfl⟩
          · try simp only [sQ1, sQ2, sQ3, sQ4, sQ5, sQ6, sQ7, sQ8, ne_eq] at g7
            refine w_skip ?_
            refine inB_n (thn_n ?_)
            refine w_region ?_
            refine xMv ?_
            refine oX (w_add rfl rfl rfl rfl (by first | exact wrI64 (by first | omega | (simp; done) | (simp; omega)) (by first | omega | (simp; done) | (simp; omega)) | rfl) ?_)
            refine xAs ?_
            exact rndE_n (g.1 + 1, m.user) [] (by first | omega | (simp only []; omega)) ⟨rfl, by omega, scn_step hm hs (by rw [hpe]; simp [grantP, g2, g7]; simp at g4; omega), .succ hm⟩ ⟨rfl, rfl, trivial⟩ rfl
        · try simp only [sQ1, sQ2, sQ3, sQ4, sQ5, sQ6, sQ7, sQ8, ne_eq] at g6
          refine aTP 20 rfl (by kernel_rfl) rfl (fun D B L => w_pass rfl rfl ⟨rfl, rfl, rfl, rfl⟩) ?_
          refine aTP 21 rfl (by kernel_rfl) rfl (fun D B L => w_pass rfl rfl ⟨rfl, rfl, rfl, rfl⟩) ?_
          refine aTk 22 rfl (by kernel_rfl) rfl (q_of fun D => w_pass rfl rfl ⟨rfl, rfl, rfl, rfl⟩) ?_
          refine aTk 23 rfl (by kernel_rfl) rfl (q_of fun D => w_pass rfl rfl ⟨rfl, rfl, rfl, rfl⟩) ?_
          refine aTk 24 rfl (by kernel_rfl) rfl (q_of fun D => w_pass rfl rfl ⟨rfl, rfl, rfl, rfl⟩) ?_
          refine aTk 25 rfl (by kernel_rfl) rfl (q_of fun D => w_pass rfl rfl ⟨rfl, rfl, rfl, rfl⟩) ?_
          refine aTP 26 rfl (by kernel_rfl) rfl (fun D B L => w_pass rfl rfl ⟨rfl, rfl, rfl, rfl⟩) ?_
          refine aTP 27 rfl (by kernel_rfl) rfl (fun D B L => w_pass rfl rfl ⟨rfl, rfl, rfl, rfl⟩) ?_
          refine aTk 28 rfl (by kernel_rfl) rfl (q_of fun D => w_pass rfl rfl ⟨rfl, rfl, rfl, rfl⟩) ?_
          refine aTk 29 rfl (by kernel_rfl) rfl (q_of fun D => w_pass rfl rfl ⟨rfl, rfl, rfl, rfl⟩) ?_
          refine aTk 30 rfl (by kernel_rfl) rfl (q_of fun D => w_pass rfl rfl ⟨rfl, rfl, rfl, rfl⟩) ?_
          refine aTk 31 rfl (by kernel_rfl) rfl (q_of fun D => w_pass rfl rfl ⟨rfl, rfl, rfl, rfl⟩) ?_
          refine aTk 32 rfl (by kernel_rfl) rfl (q_of fun D => w_pickF rfl rfl rfl rfl ⟨rfl, rfl, rfl, rfl⟩) ?_
          refine aTk 33 rfl (by kernel_rfl) rfl (q_of fun D => w_pickF rfl rfl rfl rfl ⟨rfl, rfl, rfl, rfl⟩) ?_
          refine any_done (by kernel_rfl) (by kernel_rfl) ?_
          refine thn_n ?_
          refine wKp [(0, _), (3, _), (7, _), (43, _)] ⟨rfl, rfl, rfl, rfl, trivial⟩ ?_
          refine wCd (t := false) rfl (fun h => Bool.noConfusion h) (fun _ => ?_)
          refine w_skip ?_
          refine inB_n (thn_n ?_)
          refine w_region ?_
          refine xMv ?_
          refine oX (w_add rfl rfl rfl rfl (by first | exact wrI64 (by first | omega | (simp; done) | (simp; omega)) (by first | omega | (simp; done) | (simp; omega)) | rfl) ?_)
          refine xAs ?_
          exact rndE_n (g.1 + 1, m.user) [] (by first | omega | (simp only []; omega)) ⟨rfl, by omega, scn_step hm hs (by rw [hp.at0 (by omega)]; simp [grantP, g2, nil_less (nameOk_pos g2)]; simp at g4; omega), .succ hm⟩ ⟨rfl, rfl, trivial⟩ rfl
  · try simp only [sQ1, sQ2, sQ3, sQ4, sQ5, sQ6, sQ7, sQ8, ne_eq] at g1
    refine w_exit (thn_x (rndE_x (inB_hit (thn_n ?_))))
    refine wSR ?_
    refine xMv ?_
    refine oX (w_lenV rfl rfl Tryz.underlying35 rfl ?_)
    refine oX (w_leq rfl rfl rfl rfl ?_)
    refine xAs ?_
    refine wKp [(0, _), (2, _), (3, _), (7, _)] ⟨rfl, rfl, rfl, rfl, trivial⟩ ?_
    refine w_ret ?_
    exact end0 .ret (.inl rfl) [_] ⟨rfl, trivial⟩ ⟨bool_eq (by rw [aclOk_end (scn_end hs (by omega)), Bool.eq_iff_iff]; simp; try omega), rfl, rfl⟩

end Go.Proofs.YtgbecfimpgknnaaGreat
