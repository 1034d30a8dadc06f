/-
  WHAT THE FUNCTIONS THAT THE LAWS REACH COMPUTE: each function's contract, proved off its printed body (the text is written by program). No condition beyond those that each theorem states.
-/
import Derived.Test.YtjechkhbcnpmfaaC0
namespace Go.Proofs.Ytjechkhbcnpmfaa
open Go Go.BL
set_option linter.unusedVariables false
set_option linter.unusedSimpArgs false
variable {J : JoinT}
set_option maxRecDepth 4000 in
set_option maxHeartbeats 400000 in
theorem specUsers_c (q : Option Addr) (cp : Nat) (us : List DUser) (B : Kn) (hu : SlK B q cp 3 UserR us) : RetB (pj J) 25 [.slice q us.length cp] B (.bool (usersOk us)) := by
  refine cBB 54 Try.func25 rfl rfl rfl (Nat.le_of_ble_eq_true rfl) ?_
  have hun := hu.len
  refine wSR ?_
  refine xAs ?_
  refine wKp [(0, _), (2, _)] ⟨rfl, rfl, trivial⟩ ?_
  refine w_seq ?_
  refine wSR ?_
  refine xAs ?_
  refine wKp [(0, _), (2, _), (3, _)] ⟨rfl, rfl, rfl, trivial⟩ ?_
  refine w_block ?_
  refine w_loopE (α := Nat × Str) [0] (fun g => [(3, .int .i64 g.1)]) [] (fun g => []) (fun g Bx => Bx = B ∧ g.1 ≤ us.length ∧ userScan (us.take g.1) = (true, g.2) ∧ Prev (fun y => y.name) ([] : Str) us g.1 g.2) (fun g => us.length - g.1) (0, []) ⟨rfl, trivial⟩ rfl (⟨rfl, Nat.zero_le _, scn_nil, .zero⟩) (fun g B1 hle1 hI => ?_)
  obtain ⟨rfl, hk, hs, hp⟩ := hI
  refine wTd [(0, _), (3, _)] [] ⟨rfl, rfl, trivial⟩ rfl ?_
  refine w_seq ?_
  refine wSR ?_
  refine xMv ?_
  refine xMv ?_
  refine oX (w_lenV rfl rfl Try.underlying23 rfl ?_)
  refine oX (w_lss rfl rfl rfl rfl ?_)
  refine wKp [(0, _), (3, _), (8, _)] ⟨rfl, rfl, rfl, trivial⟩ ?_
  refine wCd rfl (fun g1 => ?_) (fun g1 => ?_)
  · try simp only [sQ1, sQ2, sQ3, sQ4, sQ5, sQ6, sQ7, sQ8, ne_eq] at g1
    refine w_skip ?_
    refine thn_n ?_
    refine w_seq ?_
    refine w_block ?_
    refine wSR ?_
    refine xMv ?_
    refine xMv ?_
    obtain ⟨m, hm⟩ := getLt (xs := us) (i := g.1) (by first | omega | (simp; done) | (simp; omega))
    obtain ⟨bb3, oo3, rfl⟩ := hu.base hm
    obtain ⟨_, ⟨rfl, hb4, hb4b⟩, hc4⟩ := hu.elem hm
    refine oX (w_ixB rfl rfl Try.underlying23 sz43 rfl rfl (by first | omega | (simp; done) | (simp; omega)) (by first | omega | (simp; done) | (simp; omega)) ?_)
    refine oX (w_loadN [_, _, _] rfl rfl lk43 rfl (rowK hc4 0 rfl rfl) ?_)
    refine oX (w_alloc (l := [_, _, _]) rfl rfl zo43 rfl (fun b5 => ?_))
    refine oX (w_store [_, _, _] 0 [_, _, _] rfl rfl sz43 rfl rfl rfl rfl rfl rfl rfl rfl ?_)
    refine wTd [(0, _), (3, _), (4, _), (8, _)] [_] ⟨rfl, rfl, rfl, rfl, trivial⟩ rfl ?_
    refine w_seq ?_
    refine w_draw (same _ _) mo (by kernel_rfl) ⟨rfl, rfl⟩ (fun _ _ => ?_)
    refine aTk 0 rfl (by kernel_rfl) rfl (q_of fun D => wFA rfl rfl fo43x0 rfl ⟨rfl, rfl, rfl, rfl⟩) ?_
    refine aTk 1 rfl (by kernel_rfl) rfl (q_of fun D => w_load1 rfl rfl lk9 rfl (atL 0 rfl rfl rfl) ⟨rfl, rfl, rfl, rfl⟩) ?_
    refine aTk 2 rfl (by kernel_rfl) rfl (q_of fun D => w_retB rfl rfl en38 rfl (specName_c _ (by first | assumption | omega | (simp; done) | (simp; omega)) _) ⟨rfl, rfl, rfl, rfl⟩) ?_
    refine aTk 3 rfl (by kernel_rfl) rfl (q_of fun D => w_not rfl rfl rfl ⟨rfl, rfl, rfl, rfl⟩) ?_
    refine aTP 4 rfl (by kernel_rfl) rfl (fun D B L => w_move rfl rfl rfl ⟨rfl, rfl, rfl, rfl⟩) ?_
    refine a_split (d := 19) rfl (fun g2 => ?_) (fun g2 => ?_)
    · try simp only [sQ1, sQ2, sQ3, sQ4, sQ5, sQ6, sQ7, sQ8, ne_eq] at g2
      refine aTk 5 rfl (by kernel_rfl) rfl (q_of fun D => w_pass rfl rfl ⟨rfl, rfl, rfl, rfl⟩) ?_
      refine aTk 6 rfl (by kernel_rfl) rfl (q_of fun D => w_pass rfl rfl ⟨rfl, rfl, rfl, rfl⟩) ?_
      refine aTk 7 rfl (by kernel_rfl) rfl (q_of fun D => w_pass rfl rfl ⟨rfl, rfl, rfl, rfl⟩) ?_
      refine aTk 8 rfl (by kernel_rfl) rfl (q_of fun D => w_pickT rfl rfl rfl rfl ⟨rfl, rfl, rfl, rfl⟩) ?_
      refine aTP 9 rfl (by kernel_rfl) rfl (fun D B L => w_move rfl rfl rfl ⟨rfl, rfl, rfl, rfl⟩) ?_
      refine aTk 10 rfl (by kernel_rfl) rfl (q_of fun D => w_pass rfl rfl ⟨rfl, rfl, rfl, rfl⟩) ?_
      refine aTk 11 rfl (by kernel_rfl) rfl (q_of fun D => w_pass rfl rfl ⟨rfl, rfl, rfl, rfl⟩) ?_
      refine aTk 12 rfl (by kernel_rfl) rfl (q_of fun D => w_pass rfl rfl ⟨rfl, rfl, rfl, rfl⟩) ?_
      refine aTk 13 rfl (by kernel_rfl) rfl (q_of fun D => w_pass rfl rfl ⟨rfl, rfl, rfl, rfl⟩) ?_
      refine aTk 14 rfl (by kernel_rfl) rfl (q_of fun D => w_pickT rfl rfl rfl rfl ⟨rfl, rfl, rfl, rfl⟩) ?_
      refine aTP 15 rfl (by kernel_rfl) rfl (fun D B L => w_move rfl rfl rfl ⟨rfl, rfl, rfl, rfl⟩) ?_
      refine aTk 16 rfl (by kernel_rfl) rfl (q_of fun D => w_pass rfl rfl ⟨rfl, rfl, rfl, rfl⟩) ?_
      refine aTk 17 rfl (by kernel_rfl) rfl (q_of fun D => w_pass rfl rfl ⟨rfl, rfl, rfl, rfl⟩) ?_
      refine aTk 18 rfl (by kernel_rfl) rfl (q_of fun D => w_pass rfl rfl ⟨rfl, rfl, rfl, rfl⟩) ?_
      refine aTk 19 rfl (by kernel_rfl) rfl (q_of fun D => w_pass rfl rfl ⟨rfl, rfl, rfl, rfl⟩) ?_
      refine aTk 20 rfl (by kernel_rfl) rfl (q_of fun D => w_pickT rfl rfl rfl rfl ⟨rfl, rfl, rfl, rfl⟩) ?_
      refine aTP 21 rfl (by kernel_rfl) rfl (fun D B L => w_move rfl rfl rfl ⟨rfl, rfl, rfl, rfl⟩) ?_
      refine aTP 22 rfl (by kernel_rfl) rfl (fun D B L => w_pass rfl rfl ⟨rfl, rfl, rfl, rfl⟩) ?_
      refine aTk 23 rfl (by kernel_rfl) rfl (q_of fun D => w_pass rfl rfl ⟨rfl, rfl, rfl, rfl⟩) ?_
      refine aTP 24 rfl (by kernel_rfl) rfl (fun D B L => w_pass rfl rfl ⟨rfl, rfl, rfl, rfl⟩) ?_
      refine aTP 25 rfl (by kernel_rfl) rfl (fun D B L => w_pass rfl rfl ⟨rfl, rfl, rfl, rfl⟩) ?_
      refine aTP 26 rfl (by kernel_rfl) rfl (fun D B L => w_pass rfl rfl ⟨rfl, rfl, rfl, rfl⟩) ?_
      refine aTk 27 rfl (by kernel_rfl) rfl (q_of fun D => w_pass rfl rfl ⟨rfl, rfl, rfl, rfl⟩) ?_
      refine aTk 28 rfl (by kernel_rfl) rfl (q_of fun D => w_pass rfl rfl ⟨rfl, rfl, rfl, rfl⟩) ?_
      refine aTk 29 rfl (by kernel_rfl) rfl (q_of fun D => w_pass rfl rfl ⟨rfl, rfl, rfl, rfl⟩) ?_
      refine aTk 30 rfl (by kernel_rfl) rfl (q_of fun D => w_pass rfl rfl ⟨rfl, rfl, rfl, rfl⟩) ?_
      refine aTk 31 rfl (by kernel_rfl) rfl (q_of fun D => w_pass rfl rfl ⟨rfl, rfl, rfl, rfl⟩) ?_
      refine aTk 32 rfl (by kernel_rfl) rfl (q_of fun D => w_pass rfl rfl ⟨rfl, rfl, rfl, rfl⟩) ?_
      refine aTk 33 rfl (by kernel_rfl) rfl (q_of fun D => w_pass rfl rfl ⟨rfl, rfl, rfl, rfl⟩) ?_
      refine aTk 34 rfl (by kernel_rfl) rfl (q_of fun D => w_pass rfl rfl ⟨rfl, rfl, rfl, rfl⟩) ?_
      refine aTk 35 rfl (by kernel_rfl) rfl (q_of fun D => w_pickT rfl rfl rfl rfl ⟨rfl, rfl, rfl, rfl⟩) ?_
      refine any_done (by kernel_rfl) (by kernel_rfl) ?_
      refine thn_n ?_
      refine wKp [(0, _), (3, _), (4, _), (8, _), (50, _)] ⟨rfl, rfl, rfl, rfl, rfl, trivial⟩ ?_
      refine wCd (t := true) rfl (fun _ => ?_) (fun h => Bool.noConfusion h)
      refine wSR ?_
      refine xAs ?_
      refine wKp [(0, _), (2, _), (3, _), (4, _), (8, _), (50, _)] ⟨rfl, rfl, rfl, rfl, rfl, rfl, trivial⟩ ?_
      refine w_ret (inB_r (thn_r (rndE_r (inB_r (thn_r ?_)))))
      exact end0 .ret (.inl rfl) [_] ⟨rfl, trivial⟩ ⟨bool_eq (usersOk_hit hm hs (by simp [userP, userOk, anyone, g1, g2])).symm, rfl, rfl⟩
    · try simp only [sQ1, sQ2, sQ3, sQ4, sQ5, sQ6, sQ7, sQ8, ne_eq] at g2
      refine aTk 5 rfl (by kernel_rfl) rfl (q_of fun D => wFA rfl rfl fo43x0 rfl ⟨rfl, rfl, rfl, rfl⟩) ?_
      refine aTk 6 rfl (by kernel_rfl) rfl (q_of fun D => w_load1 rfl rfl lk9 rfl (atL 0 rfl rfl rfl) ⟨rfl, rfl, rfl, rfl⟩) ?_
      refine aTk 7 rfl (by kernel_rfl) rfl (q_of fun D => w_eqlS rfl rfl rfl rfl ⟨rfl, rfl, rfl, rfl⟩) ?_
      refine aTk 8 rfl (by kernel_rfl) rfl (q_of fun D => w_pickF rfl rfl rfl rfl ⟨rfl, rfl, rfl, rfl⟩) ?_
      refine aTP 9 rfl (by kernel_rfl) rfl (fun D B L => w_move rfl rfl rfl ⟨rfl, rfl, rfl, rfl⟩) ?_
      refine a_split (d := 24) rfl (fun g3 => ?_) (fun g3 => ?_)
      · try simp only [sQ1, sQ2, sQ3, sQ4, sQ5, sQ6, sQ7, sQ8, ne_eq] at g3
        refine aTk 10 rfl (by kernel_rfl) rfl (q_of fun D => w_pass rfl rfl ⟨rfl, rfl, rfl, rfl⟩) ?_
        refine aTk 11 rfl (by kernel_rfl) rfl (q_of fun D => w_pass rfl rfl ⟨rfl, rfl, rfl, rfl⟩) ?_
        refine aTk 12 rfl (by kernel_rfl) rfl (q_of fun D => w_pass rfl rfl ⟨rfl, rfl, rfl, rfl⟩) ?_
        refine aTk 13 rfl (by kernel_rfl) rfl (q_of fun D => w_pass rfl rfl ⟨rfl, rfl, rfl, rfl⟩) ?_
        refine aTk 14 rfl (by kernel_rfl) rfl (q_of fun D => w_pickT rfl rfl rfl rfl ⟨rfl, rfl, rfl, rfl⟩) ?_
        refine aTP 15 rfl (by kernel_rfl) rfl (fun D B L => w_move rfl rfl rfl ⟨rfl, rfl, rfl, rfl⟩) ?_
        refine aTk 16 rfl (by kernel_rfl) rfl (q_of fun D => w_pass rfl rfl ⟨rfl, rfl, rfl, rfl⟩) ?_
        refine aTk 17 rfl (by kernel_rfl) rfl (q_of fun D => w_pass rfl rfl ⟨rfl, rfl, rfl, rfl⟩) ?_
        refine aTk 18 rfl (by kernel_rfl) rfl (q_of fun D => w_pass rfl rfl ⟨rfl, rfl, rfl, rfl⟩) ?_
        refine aTk 19 rfl (by kernel_rfl) rfl (q_of fun D => w_pass rfl rfl ⟨rfl, rfl, rfl, rfl⟩) ?_
        refine aTk 20 rfl (by kernel_rfl) rfl (q_of fun D => w_pickT rfl rfl rfl rfl ⟨rfl, rfl, rfl, rfl⟩) ?_
        refine aTP 21 rfl (by kernel_rfl) rfl (fun D B L => w_move rfl rfl rfl ⟨rfl, rfl, rfl, rfl⟩) ?_
        refine aTP 22 rfl (by kernel_rfl) rfl (fun D B L => w_pass rfl rfl ⟨rfl, rfl, rfl, rfl⟩) ?_
        refine aTk 23 rfl (by kernel_rfl) rfl (q_of fun D => w_pass rfl rfl ⟨rfl, rfl, rfl, rfl⟩) ?_
        refine aTP 24 rfl (by kernel_rfl) rfl (fun D B L => w_pass rfl rfl ⟨rfl, rfl, rfl, rfl⟩) ?_
        refine aTP 25 rfl (by kernel_rfl) rfl (fun D B L => w_pass rfl rfl ⟨rfl, rfl, rfl, rfl⟩) ?_
        refine aTP 26 rfl (by kernel_rfl) rfl (fun D B L => w_pass rfl rfl ⟨rfl, rfl, rfl, rfl⟩) ?_
        refine aTk 27 rfl (by kernel_rfl) rfl (q_of fun D => w_pass rfl rfl ⟨rfl, rfl, rfl, rfl⟩) ?_
        refine aTk 28 rfl (by kernel_rfl) rfl (q_of fun D => w_pass rfl rfl ⟨rfl, rfl, rfl, rfl⟩) ?_
        refine aTk 29 rfl (by kernel_rfl) rfl (q_of fun D => w_pass rfl rfl ⟨rfl, rfl, rfl, rfl⟩) ?_
        refine aTk 30 rfl (by kernel_rfl) rfl (q_of fun D => w_pass rfl rfl ⟨rfl, rfl, rfl, rfl⟩) ?_
        refine aTk 31 rfl (by kernel_rfl) rfl (q_of fun D => w_pass rfl rfl ⟨rfl, rfl, rfl, rfl⟩) ?_
        refine aTk 32 rfl (by kernel_rfl) rfl (q_of fun D => w_pass rfl rfl ⟨rfl, rfl, rfl, rfl⟩) ?_
        refine aTk 33 rfl (by kernel_rfl) rfl (q_of fun D => w_pass rfl rfl ⟨rfl, rfl, rfl, rfl⟩) ?_
        refine aTk 34 rfl (by kernel_rfl) rfl (q_of fun D => w_pass rfl rfl ⟨rfl, rfl, rfl, rfl⟩) ?_
        refine aTk 35 rfl (by kernel_rfl) rfl (q_of fun D => w_pickT rfl rfl rfl rfl ⟨rfl, rfl, rfl, rfl⟩) ?_
        refine any_done (by kernel_rfl) (by kernel_rfl) ?_
        refine thn_n ?_
        refine wKp [(0, _), (3, _), (4, _), (8, _), (50, _)] ⟨rfl, rfl, rfl, rfl, rfl, trivial⟩ ?_
        refine wCd (t := true) rfl (fun _ => ?_) (fun h => Bool.noConfusion h)
        refine wSR ?_
        refine xAs ?_
        refine wKp [(0, _), (2, _), (3, _), (4, _), (8, _), (50, _)] ⟨rfl, rfl, rfl, rfl, rfl, rfl, trivial⟩ ?_
        refine w_ret (inB_r (thn_r (rndE_r (inB_r (thn_r ?_)))))
        exact end0 .ret (.inl rfl) [_] ⟨rfl, trivial⟩ ⟨bool_eq (usersOk_hit hm hs (by simp [userP, userOk, anyone, g1, g2, g3])).symm, rfl, rfl⟩
      · try simp only [sQ1, sQ2, sQ3, sQ4, sQ5, sQ6, sQ7, sQ8, ne_eq] at g3
        refine aTk 10 rfl (by kernel_rfl) rfl (q_of fun D => wFA rfl rfl fo43x1 rfl ⟨rfl, rfl, rfl, rfl⟩) ?_
        refine aTk 11 rfl (by kernel_rfl) rfl (q_of fun D => w_load1 rfl rfl lk9 rfl (atL 0 rfl rfl rfl) ⟨rfl, rfl, rfl, rfl⟩) ?_
        refine aTk 12 rfl (by kernel_rfl) rfl (q_of fun D => w_retB rfl rfl en38 rfl (specName_c _ (by first | assumption | omega | (simp; done) | (simp; omega)) _) ⟨rfl, rfl, rfl, rfl⟩) ?_
        refine aTk 13 rfl (by kernel_rfl) rfl (q_of fun D => w_not rfl rfl rfl ⟨rfl, rfl, rfl, rfl⟩) ?_
        refine aTk 14 rfl (by kernel_rfl) rfl (q_of fun D => w_pickF rfl rfl rfl rfl ⟨rfl, rfl, rfl, rfl⟩) ?_
        refine aTP 15 rfl (by kernel_rfl) rfl (fun D B L => w_move rfl rfl rfl ⟨rfl, rfl, rfl, rfl⟩) ?_
        refine a_split (d := 30) rfl (fun g4 => ?_) (fun g4 => ?_)
        · try simp only [sQ1, sQ2, sQ3, sQ4, sQ5, sQ6, sQ7, sQ8, ne_eq] at g4
          refine aTk 16 rfl (by kernel_rfl) rfl (q_of fun D => w_pass rfl rfl ⟨rfl, rfl, rfl, rfl⟩) ?_
          refine aTk 17 rfl (by kernel_rfl) rfl (q_of fun D => w_pass rfl rfl ⟨rfl, rfl, rfl, rfl⟩) ?_
          refine aTk 18 rfl (by kernel_rfl) rfl (q_of fun D => w_pass rfl rfl ⟨rfl, rfl, rfl, rfl⟩) ?_
          refine aTk 19 rfl (by kernel_rfl) rfl (q_of fun D => w_pass rfl rfl ⟨rfl, rfl, rfl, rfl⟩) ?_
          refine aTk 20 rfl (by kernel_rfl) rfl (q_of fun D => w_pickT rfl rfl rfl rfl ⟨rfl, rfl, rfl, rfl⟩) ?_
          refine aTP 21 rfl (by kernel_rfl) rfl (fun D B L => w_move rfl rfl rfl ⟨rfl, rfl, rfl, rfl⟩) ?_
          refine aTP 22 rfl (by kernel_rfl) rfl (fun D B L => w_pass rfl rfl ⟨rfl, rfl, rfl, rfl⟩) ?_
          refine aTk 23 rfl (by kernel_rfl) rfl (q_of fun D => w_pass rfl rfl ⟨rfl, rfl, rfl, rfl⟩) ?_
          refine aTP 24 rfl (by kernel_rfl) rfl (fun D B L => w_pass rfl rfl ⟨rfl, rfl, rfl, rfl⟩) ?_
          refine aTP 25 rfl (by kernel_rfl) rfl (fun D B L => w_pass rfl rfl ⟨rfl, rfl, rfl, rfl⟩) ?_
          refine aTP 26 rfl (by kernel_rfl) rfl (fun D B L => w_pass rfl rfl ⟨rfl, rfl, rfl, rfl⟩) ?_
          refine aTk 27 rfl (by kernel_rfl) rfl (q_of fun D => w_pass rfl rfl ⟨rfl, rfl, rfl, rfl⟩) ?_
          refine aTk 28 rfl (by kernel_rfl) rfl (q_of fun D => w_pass rfl rfl ⟨rfl, rfl, rfl, rfl⟩) ?_
          refine aTk 29 rfl (by kernel_rfl) rfl (q_of fun D => w_pass rfl rfl ⟨rfl, rfl, rfl, rfl⟩) ?_
          refine aTk 30 rfl (by kernel_rfl) rfl (q_of fun D => w_pass rfl rfl ⟨rfl, rfl, rfl, rfl⟩) ?_
          refine aTk 31 rfl (by kernel_rfl) rfl (q_of fun D => w_pass rfl rfl ⟨rfl, rfl, rfl, rfl⟩) ?_
          refine aTk 32 rfl (by kernel_rfl) rfl (q_of fun D => w_pass rfl rfl ⟨rfl, rfl, rfl, rfl⟩) ?_
          refine aTk 33 rfl (by kernel_rfl) rfl (q_of fun D => w_pass rfl rfl ⟨rfl, rfl, rfl, rfl⟩) ?_
          refine aTk 34 rfl (by kernel_rfl) rfl (q_of fun D => w_pass rfl rfl ⟨rfl, rfl, rfl, rfl⟩) ?_
          refine aTk 35 rfl (by kernel_rfl) rfl (q_of fun D => w_pickT rfl rfl rfl rfl ⟨rfl, rfl, rfl, rfl⟩) ?_
          refine any_done (by kernel_rfl) (by kernel_rfl) ?_
          refine thn_n ?_
          refine wKp [(0, _), (3, _), (4, _), (8, _), (50, _)] ⟨rfl, rfl, rfl, rfl, rfl, trivial⟩ ?_
          refine wCd (t := true) rfl (fun _ => ?_) (fun h => Bool.noConfusion h)
          refine wSR ?_
          refine xAs ?_
          refine wKp [(0, _), (2, _), (3, _), (4, _), (8, _), (50, _)] ⟨rfl, rfl, rfl, rfl, rfl, rfl, trivial⟩ ?_
          refine w_ret (inB_r (thn_r (rndE_r (inB_r (thn_r ?_)))))
          exact end0 .ret (.inl rfl) [_] ⟨rfl, trivial⟩ ⟨bool_eq (usersOk_hit hm hs (by simp [userP, userOk, anyone, g1, g2, g3, g4])).symm, rfl, rfl⟩
        · try simp only [sQ1, sQ2, sQ3, sQ4, sQ5, sQ6, sQ7, sQ8, ne_eq] at g4
          refine aTk 16 rfl (by kernel_rfl) rfl (q_of fun D => wFA rfl rfl fo43x2 rfl ⟨rfl, rfl, rfl, rfl⟩) ?_
          refine aTk 17 rfl (by kernel_rfl) rfl (q_of fun D => w_load1 rfl rfl lk3 rfl (atL 0 rfl rfl rfl) ⟨rfl, rfl, rfl, rfl⟩) ?_
          refine aTk 18 rfl (by kernel_rfl) rfl (q_of fun D => w_retB rfl rfl en39 rfl (l6In_c _ _ _ _) ⟨rfl, rfl, rfl, rfl⟩) ?_
          refine aTk 19 rfl (by kernel_rfl) rfl (q_of fun D => w_not rfl rfl rfl ⟨rfl, rfl, rfl, rfl⟩) ?_
          refine aTk 20 rfl (by kernel_rfl) rfl (q_of fun D => w_pickF rfl rfl rfl rfl ⟨rfl, rfl, rfl, rfl⟩) ?_
          refine aTP 21 rfl (by kernel_rfl) rfl (fun D B L => w_move rfl rfl rfl ⟨rfl, rfl, rfl, rfl⟩) ?_
          refine a_split (d := 36) rfl (fun g5 => ?_) (fun g5 => ?_)
          · try simp only [sQ1, sQ2, sQ3, sQ4, sQ5, sQ6, sQ7, sQ8, ne_eq] at g5
            refine aTP 22 rfl (by kernel_rfl) rfl (fun D B L => w_pass rfl rfl ⟨rfl, rfl, rfl, rfl⟩) ?_
            refine aTk 23 rfl (by kernel_rfl) rfl (q_of fun D => w_pass rfl rfl ⟨rfl, rfl, rfl, rfl⟩) ?_
            refine aTP 24 rfl (by kernel_rfl) rfl (fun D B L => w_pass rfl rfl ⟨rfl, rfl, rfl, rfl⟩) ?_
            refine aTP 25 rfl (by kernel_rfl) rfl (fun D B L => w_pass rfl rfl ⟨rfl, rfl, rfl, rfl⟩) ?_
            refine aTP 26 rfl (by kernel_rfl) rfl (fun D B L => w_pass rfl rfl ⟨rfl, rfl, rfl, rfl⟩) ?_
            refine aTk 27 rfl (by kernel_rfl) rfl (q_of fun D => w_pass rfl rfl ⟨rfl, rfl, rfl, rfl⟩) ?_
            refine aTk 28 rfl (by kernel_rfl) rfl (q_of fun D => w_pass rfl rfl ⟨rfl, rfl, rfl, rfl⟩) ?_
            refine aTk 29 rfl (by kernel_rfl) rfl (q_of fun D => w_pass rfl rfl ⟨rfl, rfl, rfl, rfl⟩) ?_
            refine aTk 30 rfl (by kernel_rfl) rfl (q_of fun D => w_pass rfl rfl ⟨rfl, rfl, rfl, rfl⟩) ?_
            refine aTk 31 rfl (by kernel_rfl) rfl (q_of fun D => w_pass rfl rfl ⟨rfl, rfl, rfl, rfl⟩) ?_
            refine aTk 32 rfl (by kernel_rfl) rfl (q_of fun D => w_pass rfl rfl ⟨rfl, rfl, rfl, rfl⟩) ?_
            refine aTk 33 rfl (by kernel_rfl) rfl (q_of fun D => w_pass rfl rfl ⟨rfl, rfl, rfl, rfl⟩) ?_
            refine aTk 34 rfl (by kernel_rfl) rfl (q_of fun D => w_pass rfl rfl ⟨rfl, rfl, rfl, rfl⟩) ?_
            refine aTk 35 rfl (by kernel_rfl) rfl (q_of fun D => w_pickT rfl rfl rfl rfl ⟨rfl, rfl, rfl, rfl⟩) ?_
            refine any_done (by kernel_rfl) (by kernel_rfl) ?_
            refine thn_n ?_
            refine wKp [(0, _), (3, _), (4, _), (8, _), (50, _)] ⟨rfl, rfl, rfl, rfl, rfl, trivial⟩ ?_
            refine wCd (t := true) rfl (fun _ => ?_) (fun h => Bool.noConfusion h)
            refine wSR ?_
            refine xAs ?_
            refine wKp [(0, _), (2, _), (3, _), (4, _), (8, _), (50, _)] ⟨rfl, rfl, rfl, rfl, rfl, rfl, trivial⟩ ?_
            refine w_ret (inB_r (thn_r (rndE_r (inB_r (thn_r ?_)))))
            exact end0 .ret (.inl rfl) [_] ⟨rfl, trivial⟩ ⟨bool_eq (usersOk_hit hm hs (by simp [userP, userOk, anyone, g1, g2, g3, g4, g5])).symm, rfl, rfl⟩
          · try simp only [sQ1, sQ2, sQ3, sQ4, sQ5, sQ6, sQ7, sQ8, ne_eq] at g5
            refine aTP 22 rfl (by kernel_rfl) rfl (fun D B L => w_move rfl rfl rfl ⟨rfl, rfl, rfl, rfl⟩) ?_
            refine aTk 23 rfl (by kernel_rfl) rfl (q_of fun D => w_gtr rfl rfl rfl rfl ⟨rfl, rfl, rfl, rfl⟩) ?_
            refine aTP 24 rfl (by kernel_rfl) rfl (fun D B L => w_move rfl rfl rfl ⟨rfl, rfl, rfl, rfl⟩) ?_
            refine a_split (d := 39) rfl (fun g6 => ?_) (fun g6 => ?_)
            · try simp only [sQ1, sQ2, sQ3, sQ4, sQ5, sQ6, sQ7, sQ8, ne_eq] at g6
              refine aTP 25 rfl (by kernel_rfl) rfl (fun D B L => w_move rfl rfl rfl ⟨rfl, rfl, rfl, rfl⟩) ?_
              refine aTP 26 rfl (by kernel_rfl) rfl (fun D B L => w_move rfl rfl rfl ⟨rfl, rfl, rfl, rfl⟩) ?_
              refine aTk 27 rfl (by kernel_rfl) rfl (q_of fun D => w_sub rfl rfl rfl rfl (by first | exact wrI64 (by first | omega | (simp; done) | (simp; omega)) (by first | omega | (simp; done) | (simp; omega)) | rfl) ⟨rfl, rfl, rfl, rfl⟩) ?_
              obtain ⟨y, hy⟩ := getI (xs := us) (i := (↑g.1 - 1)) (by first | omega | (simp; done) | (simp; omega)) (by first | omega | (simp; done) | (simp; omega))
              obtain ⟨_, ⟨rfl, hb10, hb10b⟩, hc10⟩ := hu.elem hy
              refine aTk 28 rfl (by kernel_rfl) rfl (q_of fun D => w_ixB rfl rfl Try.underlying23 sz43 rfl rfl (by first | omega | (simp; done) | (simp; omega)) (by first | omega | (simp; done) | (simp; omega)) ⟨rfl, rfl, rfl, rfl⟩) ?_
              have hpe := hp.at hy (by omega)
              refine aTk 29 rfl (by kernel_rfl) rfl (q_of fun D => wFA rfl rfl fo43x0 rfl ⟨rfl, rfl, rfl, rfl⟩) ?_
              refine aTk 30 rfl (by kernel_rfl) rfl (q_of fun D => w_load1 rfl rfl lk9 rfl (hc10 _ 0 _ rfl) ⟨rfl, rfl, rfl, rfl⟩) ?_
              refine aTk 31 rfl (by kernel_rfl) rfl (q_of fun D => wFA rfl rfl fo43x0 rfl ⟨rfl, rfl, rfl, rfl⟩) ?_
              refine aTk 32 rfl (by kernel_rfl) rfl (q_of fun D => w_load1 rfl rfl lk9 rfl (atL 0 rfl rfl rfl) ⟨rfl, rfl, rfl, rfl⟩) ?_
              refine aTk 33 rfl (by kernel_rfl) rfl (q_of fun D => w_geqS rfl rfl rfl rfl ⟨rfl, rfl, rfl, rfl⟩) ?_
              refine aTk 34 rfl (by kernel_rfl) rfl (q_of fun D => w_pickT rfl rfl rfl rfl ⟨rfl, rfl, rfl, rfl⟩) ?_
              refine aTk 35 rfl (by kernel_rfl) rfl (q_of fun D => w_pickF rfl rfl rfl rfl ⟨rfl, rfl, rfl, rfl⟩) ?_
              refine any_done (by kernel_rfl) (by kernel_rfl) ?_
              refine thn_n ?_
              refine wKp [(0, _), (3, _), (4, _), (8, _), (50, _)] ⟨rfl, rfl, rfl, rfl, rfl, trivial⟩ ?_
              refine wCd rfl (fun g7 => ?_) (fun g7 => ?_)
              · try simp only [sQ1, sQ2, sQ3, sQ4, sQ5, sQ6, sQ7, sQ8, ne_eq] at g7
                refine wSR ?_
                refine xAs ?_
                refine wKp [(0, _), (2, _), (3, _), (4, _), (8, _), (50, _)] ⟨rfl, rfl, rfl, rfl, rfl, rfl, trivial⟩ ?_
                refine w_ret (inB_r (thn_r (rndE_r (inB_r (thn_r ?_)))))
                exact end0 .ret (.inl rfl) [_] ⟨rfl, trivial⟩ ⟨bool_eq (usersOk_hit hm hs (by simp [userP, userOk, anyone, g1, g2, g3, g4, g5, g6, g7, hpe])).symm, rfl, rfl⟩
              · try simp only [sQ1, sQ2, sQ3, sQ4, sQ5, sQ6, sQ7, sQ8, ne_eq] at g7
                refine w_skip ?_
                refine inB_n (thn_n ?_)
                refine w_region ?_
                refine xMv ?_
                refine oX (w_add rfl rfl rfl rfl (by first | exact wrI64 (by first | omega | (simp; done) | (simp; omega)) (by first | omega | (simp; done) | (simp; omega)) | rfl) ?_)
                refine xAs ?_
                exact rndE_n (g.1 + 1, m.name) [] (by first | omega | (simp only []; omega)) ⟨rfl, by omega, scn_step hm hs (by rw [hpe]; simp [userP, userOk, anyone, g2, g3, g4, g7]; simp at g5; omega), .succ hm⟩ ⟨rfl, rfl, trivial⟩ rfl
            · try simp only [sQ1, sQ2, sQ3, sQ4, sQ5, sQ6, sQ7, sQ8, ne_eq] at g6
              refine aTP 25 rfl (by kernel_rfl) rfl (fun D B L => w_pass rfl rfl ⟨rfl, rfl, rfl, rfl⟩) ?_
              refine aTP 26 rfl (by kernel_rfl) rfl (fun D B L => w_pass rfl rfl ⟨rfl, rfl, rfl, rfl⟩) ?_
              refine aTk 27 rfl (by kernel_rfl) rfl (q_of fun D => w_pass rfl rfl ⟨rfl, rfl, rfl, rfl⟩) ?_
              refine aTk 28 rfl (by kernel_rfl) rfl (q_of fun D => w_pass rfl rfl ⟨rfl, rfl, rfl, rfl⟩) ?_
              refine aTk 29 rfl (by kernel_rfl) rfl (q_of fun D => w_pass rfl rfl ⟨rfl, rfl, rfl, rfl⟩) ?_
              refine aTk 30 rfl (by kernel_rfl) rfl (q_of fun D => w_pass rfl rfl ⟨rfl, rfl, rfl, rfl⟩) ?_
              refine aTk 31 rfl (by kernel_rfl) rfl (q_of fun D => w_pass rfl rfl ⟨rfl, rfl, rfl, rfl⟩) ?_
              refine aTk 32 rfl (by kernel_rfl) rfl (q_of fun D => w_pass rfl rfl ⟨rfl, rfl, rfl, rfl⟩) ?_
              refine aTk 33 rfl (by kernel_rfl) rfl (q_of fun D => w_pass rfl rfl ⟨rfl, rfl, rfl, rfl⟩) ?_
              refine aTk 34 rfl (by kernel_rfl) rfl (q_of fun D => w_pickF rfl rfl rfl rfl ⟨rfl, rfl, rfl, rfl⟩) ?_
              refine aTk 35 rfl (by kernel_rfl) rfl (q_of fun D => w_pickF rfl rfl rfl rfl ⟨rfl, rfl, rfl, rfl⟩) ?_
              refine any_done (by kernel_rfl) (by kernel_rfl) ?_
              refine thn_n ?_
              refine wKp [(0, _), (3, _), (4, _), (8, _), (50, _)] ⟨rfl, rfl, rfl, rfl, rfl, trivial⟩ ?_
              refine wCd (t := false) rfl (fun h => Bool.noConfusion h) (fun _ => ?_)
              refine w_skip ?_
              refine inB_n (thn_n ?_)
              refine w_region ?_
              refine xMv ?_
              refine oX (w_add rfl rfl rfl rfl (by first | exact wrI64 (by first | omega | (simp; done) | (simp; omega)) (by first | omega | (simp; done) | (simp; omega)) | rfl) ?_)
              refine xAs ?_
              exact rndE_n (g.1 + 1, m.name) [] (by first | omega | (simp only []; omega)) ⟨rfl, by omega, scn_step hm hs (by rw [hp.at0 (by omega)]; simp [userP, userOk, anyone, g2, g3, g4, nil_less (nameOk_pos g2)]; simp at g5; omega), .succ hm⟩ ⟨rfl, rfl, trivial⟩ rfl
  · try simp only [sQ1, sQ2, sQ3, sQ4, sQ5, sQ6, sQ7, sQ8, ne_eq] at g1
    refine w_exit (thn_x (rndE_x (inB_hit (thn_n ?_))))
    refine wSR ?_
    refine xMv ?_
    refine oX (w_lenV rfl rfl Try.underlying23 rfl ?_)
    refine oX (w_retB rfl rfl en39 rfl (l6In_c _ _ _ _) ?_)
    refine xAs ?_
    refine wKp [(0, _), (2, _), (3, _), (8, _)] ⟨rfl, rfl, rfl, rfl, trivial⟩ ?_
    refine w_ret ?_
    exact end0 .ret (.inl rfl) [_] ⟨rfl, trivial⟩ ⟨bool_eq (by rw [usersOk_end (scn_end hs (by omega)), Bool.eq_iff_iff]; simp; omega), rfl, rfl⟩

set_option maxRecDepth 4000 in
set_option maxHeartbeats 400000 in
theorem specAcl_c (q : Option Addr) (cp : Nat) (gs : List DGrant) (B : Kn) (hg : SlK B q cp 2 GrantR gs) : RetB (pj J) 41 [.slice q gs.length cp] B (.bool (aclOk gs)) := by
  refine cBB 47 Try.func41 rfl rfl rfl (Nat.le_of_ble_eq_true rfl) ?_
  have hgn := hg.len
  refine wSR ?_
  refine xAs ?_
  refine wKp [(0, _), (2, _)] ⟨rfl, rfl, trivial⟩ ?_
  refine w_seq ?_
  refine wSR ?_
  refine xAs ?_
  refine wKp [(0, _), (2, _), (3, _)] ⟨rfl, rfl, rfl, trivial⟩ ?_
  refine w_block ?_
  refine w_loopE (α := Nat × Str) [0] (fun g => [(3, .int .i64 g.1)]) [] (fun g => []) (fun g Bx => Bx = B ∧ g.1 ≤ gs.length ∧ grantScan (gs.take g.1) = (true, g.2) ∧ Prev (fun y => y.user) ([] : Str) gs g.1 g.2) (fun g => gs.length - g.1) (0, []) ⟨rfl, trivial⟩ rfl (⟨rfl, Nat.zero_le _, scn_nil, .zero⟩) (fun g B1 hle1 hI => ?_)
  obtain ⟨rfl, hk, hs, hp⟩ := hI
  refine wTd [(0, _), (3, _)] [] ⟨rfl, rfl, trivial⟩ rfl ?_
  refine w_seq ?_
  refine wSR ?_
  refine xMv ?_
  refine xMv ?_
  refine oX (w_lenV rfl rfl Try.underlying44 rfl ?_)
  refine oX (w_lss rfl rfl rfl rfl ?_)
  refine wKp [(0, _), (3, _), (7, _)] ⟨rfl, rfl, rfl, trivial⟩ ?_
  refine wCd rfl (fun g1 => ?_) (fun g1 => ?_)
  · try simp only [sQ1, sQ2, sQ3, sQ4, sQ5, sQ6, sQ7, sQ8, ne_eq] at g1
    refine w_skip ?_
    refine thn_n ?_
    refine w_seq ?_
    refine w_block ?_
    refine w_seq ?_
    refine w_draw (same _ _) mo (by kernel_rfl) ⟨rfl, rfl⟩ (fun _ _ => ?_)
    refine aTP 0 rfl (by kernel_rfl) rfl (fun D B L => w_move rfl rfl rfl ⟨rfl, rfl, rfl, rfl⟩) ?_
    refine aTP 1 rfl (by kernel_rfl) rfl (fun D B L => w_move rfl rfl rfl ⟨rfl, rfl, rfl, rfl⟩) ?_
    obtain ⟨m, hm⟩ := getLt (xs := gs) (i := g.1) (by first | omega | (simp; done) | (simp; omega))
    obtain ⟨bb3, oo3, rfl⟩ := hg.base hm
    obtain ⟨_, ⟨rfl, hb4⟩, hc4⟩ := hg.elem hm
    refine aTk 2 rfl (by kernel_rfl) rfl (q_of fun D => w_ixB rfl rfl Try.underlying44 sz90 rfl rfl (by first | omega | (simp; done) | (simp; omega)) (by first | omega | (simp; done) | (simp; omega)) ⟨rfl, rfl, rfl, rfl⟩) ?_
    refine aTk 3 rfl (by kernel_rfl) rfl (q_of fun D => wFA rfl rfl fo90x0 rfl ⟨rfl, rfl, rfl, rfl⟩) ?_
    refine aTk 4 rfl (by kernel_rfl) rfl (q_of fun D => w_load1 rfl rfl lk9 rfl (hc4 _ 0 _ rfl) ⟨rfl, rfl, rfl, rfl⟩) ?_
    refine aTk 5 rfl (by kernel_rfl) rfl (q_of fun D => w_retB rfl rfl en38 rfl (specName_c _ (by first | assumption | omega | (simp; done) | (simp; omega)) _) ⟨rfl, rfl, rfl, rfl⟩) ?_
    refine aTk 6 rfl (by kernel_rfl) rfl (q_of fun D => w_not rfl rfl rfl ⟨rfl, rfl, rfl, rfl⟩) ?_
    refine aTP 7 rfl (by kernel_rfl) rfl (fun D B L => w_move rfl rfl rfl ⟨rfl, rfl, rfl, rfl⟩) ?_
    refine a_split (d := 17) rfl (fun g2 => ?_) (fun g2 => ?_)
    · try simp only [sQ1, sQ2, sQ3, sQ4, sQ5, sQ6, sQ7, sQ8, ne_eq] at g2
      refine aTP 8 rfl (by kernel_rfl) rfl (fun D B L => w_pass rfl rfl ⟨rfl, rfl, rfl, rfl⟩) ?_
      refine aTP 9 rfl (by kernel_rfl) rfl (fun D B L => w_pass rfl rfl ⟨rfl, rfl, rfl, rfl⟩) ?_
      refine aTk 10 rfl (by kernel_rfl) rfl (q_of fun D => w_pass rfl rfl ⟨rfl, rfl, rfl, rfl⟩) ?_
      refine aTk 11 rfl (by kernel_rfl) rfl (q_of fun D => w_pass rfl rfl ⟨rfl, rfl, rfl, rfl⟩) ?_
      refine aTk 12 rfl (by kernel_rfl) rfl (q_of fun D => w_pass rfl rfl ⟨rfl, rfl, rfl, rfl⟩) ?_
      refine aTk 13 rfl (by kernel_rfl) rfl (q_of fun D => w_pass rfl rfl ⟨rfl, rfl, rfl, rfl⟩) ?_
      refine aTk 14 rfl (by kernel_rfl) rfl (q_of fun D => w_pass rfl rfl ⟨rfl, rfl, rfl, rfl⟩) ?_
      refine aTk 15 rfl (by kernel_rfl) rfl (q_of fun D => w_pickT rfl rfl rfl rfl ⟨rfl, rfl, rfl, rfl⟩) ?_
      refine aTP 16 rfl (by kernel_rfl) rfl (fun D B L => w_move rfl rfl rfl ⟨rfl, rfl, rfl, rfl⟩) ?_
      refine aTP 17 rfl (by kernel_rfl) rfl (fun D B L => w_pass rfl rfl ⟨rfl, rfl, rfl, rfl⟩) ?_
      refine aTk 18 rfl (by kernel_rfl) rfl (q_of fun D => w_pass rfl rfl ⟨rfl, rfl, rfl, rfl⟩) ?_
      refine aTP 19 rfl (by kernel_rfl) rfl (fun D B L => w_pass rfl rfl ⟨rfl, rfl, rfl, rfl⟩) ?_
      refine aTP 20 rfl (by kernel_rfl) rfl (fun D B L => w_pass rfl rfl ⟨rfl, rfl, rfl, rfl⟩) ?_
      refine aTP 21 rfl (by kernel_rfl) rfl (fun D B L => w_pass rfl rfl ⟨rfl, rfl, rfl, rfl⟩) ?_
      refine aTk 22 rfl (by kernel_rfl) rfl (q_of fun D => w_pass rfl rfl ⟨rfl, rfl, rfl, rfl⟩) ?_
      refine aTk 23 rfl (by kernel_rfl) rfl (q_of fun D => w_pass rfl rfl ⟨rfl, rfl, rfl, rfl⟩) ?_
      refine aTk 24 rfl (by kernel_rfl) rfl (q_of fun D => w_pass rfl rfl ⟨rfl, rfl, rfl, rfl⟩) ?_
      refine aTk 25 rfl (by kernel_rfl) rfl (q_of fun D => w_pass rfl rfl ⟨rfl, rfl, rfl, rfl⟩) ?_
      refine aTP 26 rfl (by kernel_rfl) rfl (fun D B L => w_pass rfl rfl ⟨rfl, rfl, rfl, rfl⟩) ?_
      refine aTP 27 rfl (by kernel_rfl) rfl (fun D B L => w_pass rfl rfl ⟨rfl, rfl, rfl, rfl⟩) ?_
      refine aTk 28 rfl (by kernel_rfl) rfl (q_of fun D => w_pass rfl rfl ⟨rfl, rfl, rfl, rfl⟩) ?_
      refine aTk 29 rfl (by kernel_rfl) rfl (q_of fun D => w_pass rfl rfl ⟨rfl, rfl, rfl, rfl⟩) ?_
      refine aTk 30 rfl (by kernel_rfl) rfl (q_of fun D => w_pass rfl rfl ⟨rfl, rfl, rfl, rfl⟩) ?_
      refine aTk 31 rfl (by kernel_rfl) rfl (q_of fun D => w_pass rfl rfl ⟨rfl, rfl, rfl, rfl⟩) ?_
      refine aTk 32 rfl (by kernel_rfl) rfl (q_of fun D => w_pass rfl rfl ⟨rfl, rfl, rfl, rfl⟩) ?_
      refine aTk 33 rfl (by kernel_rfl) rfl (q_of fun D => w_pickT rfl rfl rfl rfl ⟨rfl, rfl, rfl, rfl⟩) ?_
      refine any_done (by kernel_rfl) (by kernel_rfl) ?_
      refine thn_n ?_
      refine wKp [(0, _), (3, _), (7, _), (43, _)] ⟨rfl, rfl, rfl, rfl, trivial⟩ ?_
      refine wCd (t := true) rfl (fun _ => ?_) (fun h => Bool.noConfusion h)
      refine wSR ?_
      refine xAs ?_
      refine wKp [(0, _), (2, _), (3, _), (7, _), (43, _)] ⟨rfl, rfl, rfl, rfl, rfl, trivial⟩ ?_
      refine w_ret (inB_r (thn_r (rndE_r (inB_r (thn_r ?_)))))
      exact end0 .ret (.inl rfl) [_] ⟨rfl, trivial⟩ ⟨bool_eq (aclOk_hit hm hs (by simp [grantP, g1, g2])).symm, rfl, rfl⟩
    · try simp only [sQ1, sQ2, sQ3, sQ4, sQ5, sQ6, sQ7, sQ8, ne_eq] at g2
      refine aTP 8 rfl (by kernel_rfl) rfl (fun D B L => w_move rfl rfl rfl ⟨rfl, rfl, rfl, rfl⟩) ?_
      refine aTP 9 rfl (by kernel_rfl) rfl (fun D B L => w_move rfl rfl rfl ⟨rfl, rfl, rfl, rfl⟩) ?_
      refine aTk 10 rfl (by kernel_rfl) rfl (q_of fun D => w_ixB rfl rfl Try.underlying44 sz90 rfl rfl (by first | omega | (simp; done) | (simp; omega)) (by first | omega | (simp; done) | (simp; omega)) ⟨rfl, rfl, rfl, rfl⟩) ?_
      refine aTk 11 rfl (by kernel_rfl) rfl (q_of fun D => wFA rfl rfl fo90x1 rfl ⟨rfl, rfl, rfl, rfl⟩) ?_
      refine aTk 12 rfl (by kernel_rfl) rfl (q_of fun D => w_load1 rfl rfl lk3 rfl (hc4 _ 1 _ rfl) ⟨rfl, rfl, rfl, rfl⟩) ?_
      refine aTk 13 rfl (by kernel_rfl) rfl (q_of fun D => w_retB rfl rfl en39 rfl (l6In_c _ _ _ _) ⟨rfl, rfl, rfl, rfl⟩) ?_
      refine aTk 14 rfl (by kernel_rfl) rfl (q_of fun D => w_not rfl rfl rfl ⟨rfl, rfl, rfl, rfl⟩) ?_
      refine aTk 15 rfl (by kernel_rfl) rfl (q_of fun D => w_pickF rfl rfl rfl rfl ⟨rfl, rfl, rfl, rfl⟩) ?_
      refine aTP 16 rfl (by kernel_rfl) rfl (fun D B L => w_move rfl rfl rfl ⟨rfl, rfl, rfl, rfl⟩) ?_
      refine a_split (d := 26) rfl (fun g4 => ?_) (fun g4 => ?_)
      · try simp only [sQ1, sQ2, sQ3, sQ4, sQ5, sQ6, sQ7, sQ8, ne_eq] at g4
        refine aTP 17 rfl (by kernel_rfl) rfl (fun D B L => w_pass rfl rfl ⟨rfl, rfl, rfl, rfl⟩) ?_
        refine aTk 18 rfl (by kernel_rfl) rfl (q_of fun D => w_pass rfl rfl ⟨rfl, rfl, rfl, rfl⟩) ?_
        refine aTP 19 rfl (by kernel_rfl) rfl (fun D B L => w_pass rfl rfl ⟨rfl, rfl, rfl, rfl⟩) ?_
        refine aTP 20 rfl (by kernel_rfl) rfl (fun D B L => w_pass rfl rfl ⟨rfl, rfl, rfl, rfl⟩) ?_
        refine aTP 21 rfl (by kernel_rfl) rfl (fun D B L => w_pass rfl rfl ⟨rfl, rfl, rfl, rfl⟩) ?_
        refine aTk 22 rfl (by kernel_rfl) rfl (q_of fun D => w_pass rfl rfl ⟨rfl, rfl, rfl, rfl⟩) ?_
        refine aTk 23 rfl (by kernel_rfl) rfl (q_of fun D => w_pass rfl rfl ⟨rfl, rfl, rfl, rfl⟩) ?_
        refine aTk 24 rfl (by kernel_rfl) rfl (q_of fun D => w_pass rfl rfl ⟨rfl, rfl, rfl, rfl⟩) ?_
        refine aTk 25 rfl (by kernel_rfl) rfl (q_of fun D => w_pass rfl rfl ⟨rfl, rfl, rfl, rfl⟩) ?_
        refine aTP 26 rfl (by kernel_rfl) rfl (fun D B L => w_pass rfl rfl ⟨rfl, rfl, rfl, rfl⟩) ?_
        refine aTP 27 rfl (by kernel_rfl) rfl (fun D B L => w_pass rfl rfl ⟨rfl, rfl, rfl, rfl⟩) ?_
        refine aTk 28 rfl (by kernel_rfl) rfl (q_of fun D => w_pass rfl rfl ⟨rfl, rfl, rfl, rfl⟩) ?_
        refine aTk 29 rfl (by kernel_rfl) rfl (q_of fun D => w_pass rfl rfl ⟨rfl, rfl, rfl, rfl⟩) ?_
        refine aTk 30 rfl (by kernel_rfl) rfl (q_of fun D => w_pass rfl rfl ⟨rfl, rfl, rfl, rfl⟩) ?_
        refine aTk 31 rfl (by kernel_rfl) rfl (q_of fun D => w_pass rfl rfl ⟨rfl, rfl, rfl, rfl⟩) ?_
        refine aTk 32 rfl (by kernel_rfl) rfl (q_of fun D => w_pass rfl rfl ⟨rfl, rfl, rfl, rfl⟩) ?_
        refine aTk 33 rfl (by kernel_rfl) rfl (q_of fun D => w_pickT rfl rfl rfl rfl ⟨rfl, rfl, rfl, rfl⟩) ?_
        refine any_done (by kernel_rfl) (by kernel_rfl) ?_
        refine thn_n ?_
        refine wKp [(0, _), (3, _), (7, _), (43, _)] ⟨rfl, rfl, rfl, rfl, trivial⟩ ?_
        refine wCd (t := true) rfl (fun _ => ?_) (fun h => Bool.noConfusion h)
        refine wSR ?_
        refine xAs ?_
        refine wKp [(0, _), (2, _), (3, _), (7, _), (43, _)] ⟨rfl, rfl, rfl, rfl, rfl, trivial⟩ ?_
        refine w_ret (inB_r (thn_r (rndE_r (inB_r (thn_r ?_)))))
        exact end0 .ret (.inl rfl) [_] ⟨rfl, trivial⟩ ⟨bool_eq (aclOk_hit hm hs (by simp [grantP, g1, g2, g4])).symm, rfl, rfl⟩
      · try simp only [sQ1, sQ2, sQ3, sQ4, sQ5, sQ6, sQ7, sQ8, ne_eq] at g4
        refine aTP 17 rfl (by kernel_rfl) rfl (fun D B L => w_move rfl rfl rfl ⟨rfl, rfl, rfl, rfl⟩) ?_
        refine aTk 18 rfl (by kernel_rfl) rfl (q_of fun D => w_gtr rfl rfl rfl rfl ⟨rfl, rfl, rfl, rfl⟩) ?_
        refine aTP 19 rfl (by kernel_rfl) rfl (fun D B L => w_move rfl rfl rfl ⟨rfl, rfl, rfl, rfl⟩) ?_
        refine a_split (d := 29) rfl (fun g6 => ?_) (fun g6 => ?_)
        · try simp only [sQ1, sQ2, sQ3, sQ4, sQ5, sQ6, sQ7, sQ8, ne_eq] at g6
          refine aTP 20 rfl (by kernel_rfl) rfl (fun D B L => w_move rfl rfl rfl ⟨rfl, rfl, rfl, rfl⟩) ?_
          refine aTP 21 rfl (by kernel_rfl) rfl (fun D B L => w_move rfl rfl rfl ⟨rfl, rfl, rfl, rfl⟩) ?_
          refine aTk 22 rfl (by kernel_rfl) rfl (q_of fun D => w_sub rfl rfl rfl rfl (by first | exact wrI64 (by first | omega | (simp; done) | (simp; omega)) (by first | omega | (simp; done) | (simp; omega)) | rfl) ⟨rfl, rfl, rfl, rfl⟩) ?_
          obtain ⟨y, hy⟩ := getI (xs := gs) (i := (↑g.1 - 1)) (by first | omega | (simp; done) | (simp; omega)) (by first | omega | (simp; done) | (simp; omega))
          obtain ⟨_, ⟨rfl, hb8⟩, hc8⟩ := hg.elem hy
          refine aTk 23 rfl (by kernel_rfl) rfl (q_of fun D => w_ixB rfl rfl Try.underlying44 sz90 rfl rfl (by first | omega | (simp; done) | (simp; omega)) (by first | omega | (simp; done) | (simp; omega)) ⟨rfl, rfl, rfl, rfl⟩) ?_
          have hpe := hp.at hy (by omega)
          refine aTk 24 rfl (by kernel_rfl) rfl (q_of fun D => wFA rfl rfl fo90x0 rfl ⟨rfl, rfl, rfl, rfl⟩) ?_
          refine aTk 25 rfl (by kernel_rfl) rfl (q_of fun D => w_load1 rfl rfl lk9 rfl (hc8 _ 0 _ rfl) ⟨rfl, rfl, rfl, rfl⟩) ?_
          refine aTP 26 rfl (by kernel_rfl) rfl (fun D B L => w_move rfl rfl rfl ⟨rfl, rfl, rfl, rfl⟩) ?_
          refine aTP 27 rfl (by kernel_rfl) rfl (fun D B L => w_move rfl rfl rfl ⟨rfl, rfl, rfl, rfl⟩) ?_
          refine aTk 28 rfl (by kernel_rfl) rfl (q_of fun D => w_ixB rfl rfl Try.underlying44 sz90 rfl rfl (by first | omega | (simp; done) | (simp; omega)) (by first | omega | (simp; done) | (simp; omega)) ⟨rfl, rfl, rfl, rfl⟩) ?_
          refine aTk 29 rfl (by kernel_rfl) rfl (q_of fun D => wFA rfl rfl fo90x0 rfl ⟨rfl, rfl, rfl, rfl⟩) ?_
          refine aTk 30 rfl (by kernel_rfl) rfl (q_of fun D => w_load1 rfl rfl lk9 rfl (hc4 _ 0 _ rfl) ⟨rfl, rfl, rfl, rfl⟩) ?_
          refine aTk 31 rfl (by kernel_rfl) rfl (q_of fun D => w_geqS rfl rfl rfl rfl ⟨rfl, rfl, rfl, rfl⟩) ?_
          refine aTk 32 rfl (by kernel_rfl) rfl (q_of fun D => w_pickT rfl rfl rfl rfl ⟨rfl, rfl, rfl, rfl⟩) ?_
          refine aTk 33 rfl (by kernel_rfl) rfl (q_of fun D => w_pickF rfl rfl rfl rfl ⟨rfl, rfl, rfl, rfl⟩) ?_
          refine any_done (by kernel_rfl) (by kernel_rfl) ?_
          refine thn_n ?_
          refine wKp [(0, _), (3, _), (7, _), (43, _)] ⟨rfl, rfl, rfl, rfl, trivial⟩ ?_
          refine wCd rfl (fun g7 => ?_) (fun g7 => ?_)
          · try simp only [sQ1, sQ2, sQ3, sQ4, sQ5, sQ6, sQ7, sQ8, ne_eq] at g7
            refine wSR ?_
            refine xAs ?_
            refine wKp [(0, _), (2, _), (3, _), (7, _), (43, _)] ⟨rfl, rfl, rfl, rfl, rfl, trivial⟩ ?_
            refine w_ret (inB_r (thn_r (rndE_r (inB_r (thn_r ?_)))))
            exact end0 .ret (.inl rfl) [_] ⟨rfl, trivial⟩ ⟨bool_eq (aclOk_hit hm hs (by simp [grantP, g1, g2, g4, g6, g7, hpe])).symm, rfl, rfl⟩
          · try simp only [sQ1, sQ2, sQ3, sQ4, sQ5, sQ6, sQ7, sQ8, ne_eq] at g7
            refine w_skip ?_
            refine inB_n (thn_n ?_)
            refine w_region ?_
            refine xMv ?_
            refine oX (w_add rfl rfl rfl rfl (by first | exact wrI64 (by first | omega | (simp; done) | (simp; omega)) (by first | omega | (simp; done) | (simp; omega)) | rfl) ?_)
            refine xAs ?_
            exact rndE_n (g.1 + 1, m.user) [] (by first | omega | (simp only []; omega)) ⟨rfl, by omega, scn_step hm hs (by rw [hpe]; simp [grantP, g2, g7]; simp at g4; omega), .succ hm⟩ ⟨rfl, rfl, trivial⟩ rfl
        · try simp only [sQ1, sQ2, sQ3, sQ4, sQ5, sQ6, sQ7, sQ8, ne_eq] at g6
          refine aTP 20 rfl (by kernel_rfl) rfl (fun D B L => w_pass rfl rfl ⟨rfl, rfl, rfl, rfl⟩) ?_
          refine aTP 21 rfl (by kernel_rfl) rfl (fun D B L => w_pass rfl rfl ⟨rfl, rfl, rfl, rfl⟩) ?_
          refine aTk 22 rfl (by kernel_rfl) rfl (q_of fun D => w_pass rfl rfl ⟨rfl, rfl, rfl, rfl⟩) ?_
          refine aTk 23 rfl (by kernel_rfl) rfl (q_of fun D => w_pass rfl rfl ⟨rfl, rfl, rfl, rfl⟩) ?_
          refine aTk 24 rfl (by kernel_rfl) rfl (q_of fun D => w_pass rfl rfl ⟨rfl, rfl, rfl, rfl⟩) ?_
          refine aTk 25 rfl (by kernel_rfl) rfl (q_of fun D => w_pass rfl rfl ⟨rfl, rfl, rfl, rfl⟩) ?_
          refine aTP 26 rfl (by kernel_rfl) rfl (fun D B L => w_pass rfl rfl ⟨rfl, rfl, rfl, rfl⟩) ?_
          refine aTP 27 rfl (by kernel_rfl) rfl (fun D B L => w_pass rfl rfl ⟨rfl, rfl, rfl, rfl⟩) ?_
          refine aTk 28 rfl (by kernel_rfl) rfl (q_of fun D => w_pass rfl rfl ⟨rfl, rfl, rfl, rfl⟩) ?_
          refine aTk 29 rfl (by kernel_rfl) rfl (q_of fun D => w_pass rfl rfl ⟨rfl, rfl, rfl, rfl⟩) ?_
          refine aTk 30 rfl (by kernel_rfl) rfl (q_of fun D => w_pass rfl rfl ⟨rfl, rfl, rfl, rfl⟩) ?_
          refine aTk 31 rfl (by kernel_rfl) rfl (q_of fun D => w_pass rfl rfl ⟨rfl, rfl, rfl, rfl⟩) ?_
          refine aTk 32 rfl (by kernel_rfl) rfl (q_of fun D => w_pickF rfl rfl rfl rfl ⟨rfl, rfl, rfl, rfl⟩) ?_
          refine aTk 33 rfl (by kernel_rfl) rfl (q_of fun D => w_pickF rfl rfl rfl rfl ⟨rfl, rfl, rfl, rfl⟩) ?_
          refine any_done (by kernel_rfl) (by kernel_rfl) ?_
          refine thn_n ?_
          refine wKp [(0, _), (3, _), (7, _), (43, _)] ⟨rfl, rfl, rfl, rfl, trivial⟩ ?_
          refine wCd (t := false) rfl (fun h => Bool.noConfusion h) (fun _ => ?_)
          refine w_skip ?_
          refine inB_n (thn_n ?_)
          refine w_region ?_
          refine xMv ?_
          refine oX (w_add rfl rfl rfl rfl (by first | exact wrI64 (by first | omega | (simp; done) | (simp; omega)) (by first | omega | (simp; done) | (simp; omega)) | rfl) ?_)
          refine xAs ?_
          exact rndE_n (g.1 + 1, m.user) [] (by first | omega | (simp only []; omega)) ⟨rfl, by omega, scn_step hm hs (by rw [hp.at0 (by omega)]; simp [grantP, g2, nil_less (nameOk_pos g2)]; simp at g4; omega), .succ hm⟩ ⟨rfl, rfl, trivial⟩ rfl
  · try simp only [sQ1, sQ2, sQ3, sQ4, sQ5, sQ6, sQ7, sQ8, ne_eq] at g1
    refine w_exit (thn_x (rndE_x (inB_hit (thn_n ?_))))
    refine wSR ?_
    refine xMv ?_
    refine oX (w_lenV rfl rfl Try.underlying44 rfl ?_)
    refine oX (w_leq rfl rfl rfl rfl ?_)
    refine xAs ?_
    refine wKp [(0, _), (2, _), (3, _), (7, _)] ⟨rfl, rfl, rfl, rfl, trivial⟩ ?_
    refine w_ret ?_
    exact end0 .ret (.inl rfl) [_] ⟨rfl, trivial⟩ ⟨bool_eq (by rw [aclOk_end (scn_end hs (by omega)), Bool.eq_iff_iff]; simp; try omega), rfl, rfl⟩

set_option maxRecDepth 4000 in
set_option maxHeartbeats 400000 in
theorem l31Known_c (q1 q2 q3 : Option Addr) (c1 c2 c3 : Nat) (x : DHost) (q : Option Addr) (cp : Nat) (ns : List Str) (B : Kn) (hu : SlK B q1 c1 3 UserR x.users) (hn : SlK B q cp 1 StrR ns) : RetB (pj J) 31 [.agg #[str x.domain, .slice q1 x.users.length c1, .slice q2 x.folders.length c2, .int .i64 x.queue.next, .slice q3 x.queue.items.length c3], .slice q ns.length cp] B (.bool (knownU x.users ns)) := by
  refine cBB 20 Try.func31 rfl rfl rfl (Nat.le_of_ble_eq_true rfl) ?_
  have hnn := hn.len
  have hun := hu.len
  refine wSR ?_
  refine oX (w_box (l := [_, _, _, _, _]) rfl rfl rfl rfl (fun b1 => ?_))
  refine xAs ?_
  refine wTd [(0, _), (1, _), (2, _), (4, _)] [_] ⟨rfl, rfl, rfl, rfl, trivial⟩ rfl ?_
  refine w_seq ?_
  refine wSR ?_
  refine xAs ?_
  refine wKp [(0, _), (1, _), (2, _), (4, _), (5, _)] ⟨rfl, rfl, rfl, rfl, rfl, trivial⟩ ?_
  refine w_block ?_
  refine w_loopE (α := Nat) [0, 1, 2] (fun k => [(5, .int .i64 k)]) [] (fun k => []) (fun k Bx => Bx = B ∧ k ≤ ns.length ∧ ∀ z, z ∈ ns.take k → decide (0 ≤ idxU x.users z) = true) (fun k => ns.length - k) 0 ⟨rfl, trivial⟩ rfl (⟨rfl, Nat.zero_le _, by simp⟩) (fun k B2 hle2 hI => ?_)
  obtain ⟨rfl, hk, ha⟩ := hI
  refine wTd [(0, _), (1, _), (2, _), (5, _)] [_] ⟨rfl, rfl, rfl, rfl, trivial⟩ rfl ?_
  refine w_seq ?_
  refine wSR ?_
  refine xMv ?_
  refine xMv ?_
  refine oX (w_lenV rfl rfl Try.underlying65 rfl ?_)
  refine oX (w_lss rfl rfl rfl rfl ?_)
  refine wKp [(0, _), (1, _), (2, _), (5, _), (9, _)] ⟨rfl, rfl, rfl, rfl, rfl, trivial⟩ ?_
  refine wCd rfl (fun g1 => ?_) (fun g1 => ?_)
  · try simp only [sQ1, sQ2, sQ3, sQ4, sQ5, sQ6, sQ7, sQ8, ne_eq] at g1
    refine w_skip ?_
    refine thn_n ?_
    refine w_seq ?_
    refine w_block ?_
    refine w_seq ?_
    refine w_draw (same _ _) mo (by kernel_rfl) ⟨rfl, rfl⟩ (fun _ _ => ?_)
    refine aTk 0 rfl (by kernel_rfl) rfl (q_of fun D => wFA rfl rfl fo31x1 rfl ⟨rfl, rfl, rfl, rfl⟩) ?_
    refine aTk 1 rfl (by kernel_rfl) rfl (q_of fun D => w_load1 rfl rfl lk23 rfl (atL 0 rfl rfl rfl) ⟨rfl, rfl, rfl, rfl⟩) ?_
    refine aTP 2 rfl (by kernel_rfl) rfl (fun D B L => w_move rfl rfl rfl ⟨rfl, rfl, rfl, rfl⟩) ?_
    refine aTP 3 rfl (by kernel_rfl) rfl (fun D B L => w_move rfl rfl rfl ⟨rfl, rfl, rfl, rfl⟩) ?_
    obtain ⟨z, hz⟩ := getLt (xs := ns) (i := k) (by first | omega | (simp; done) | (simp; omega))
    obtain ⟨bb4, oo4, rfl⟩ := hn.base hz
    obtain ⟨_, ⟨rfl, hb5⟩, hc5⟩ := hn.elem hz
    refine aTk 4 rfl (by kernel_rfl) rfl (q_of fun D => w_ixB rfl rfl Try.underlying65 sz9 rfl rfl (by first | omega | (simp; done) | (simp; omega)) (by first | omega | (simp; done) | (simp; omega)) ⟨rfl, rfl, rfl, rfl⟩) ?_
    refine aTk 5 rfl (by kernel_rfl) rfl (q_of fun D => w_load1 rfl rfl lk9 rfl (hc5 _ 0 _ rfl) ⟨rfl, rfl, rfl, rfl⟩) ?_
    refine aTk 6 rfl (by kernel_rfl) rfl (q_of fun D => w_retB rfl rfl en30 rfl (l14Find_c _ _ _ _ _ hu) ⟨rfl, rfl, rfl, rfl⟩) ?_
    refine aTk 7 rfl (by kernel_rfl) rfl (q_of fun D => w_lss rfl rfl rfl rfl ⟨rfl, rfl, rfl, rfl⟩) ?_
    refine any_done (by kernel_rfl) (by kernel_rfl) ?_
    refine thn_n ?_
    refine wKp [(0, _), (1, _), (2, _), (5, _), (9, _), (19, _)] ⟨rfl, rfl, rfl, rfl, rfl, rfl, trivial⟩ ?_
    refine wCd rfl (fun g2 => ?_) (fun g2 => ?_)
    · try simp only [sQ1, sQ2, sQ3, sQ4, sQ5, sQ6, sQ7, sQ8, ne_eq] at g2
      refine wSR ?_
      refine xAs ?_
      refine wKp [(0, _), (1, _), (2, _), (4, _), (5, _), (9, _), (19, _)] ⟨rfl, rfl, rfl, rfl, rfl, rfl, rfl, trivial⟩ ?_
      refine w_ret (inB_r (thn_r (rndE_r (inB_r (thn_r ?_)))))
      exact end0 .ret (.inl rfl) [_] ⟨rfl, trivial⟩ ⟨bool_eq (allB_bad hz (by simp; omega)).symm, rfl, rfl⟩
    · try simp only [sQ1, sQ2, sQ3, sQ4, sQ5, sQ6, sQ7, sQ8, ne_eq] at g2
      refine w_skip ?_
      refine inB_n (thn_n ?_)
      refine w_region ?_
      refine xMv ?_
      refine oX (w_add rfl rfl rfl rfl (by first | exact wrI64 (by first | omega | (simp; done) | (simp; omega)) (by first | omega | (simp; done) | (simp; omega)) | rfl) ?_)
      refine xAs ?_
      exact rndE_n (k + 1) [0] (by first | omega | (simp only []; omega)) ⟨rfl, by omega, all_next hz ha (by simp; omega)⟩ ⟨rfl, rfl, rfl, rfl, trivial⟩ rfl
  · try simp only [sQ1, sQ2, sQ3, sQ4, sQ5, sQ6, sQ7, sQ8, ne_eq] at g1
    refine w_exit (thn_x (rndE_x (inB_hit (thn_n ?_))))
    refine wSR ?_
    refine xAs ?_
    refine wKp [(0, _), (1, _), (2, _), (4, _), (5, _), (9, _)] ⟨rfl, rfl, rfl, rfl, rfl, rfl, trivial⟩ ?_
    refine w_ret ?_
    exact end0 .ret (.inl rfl) [_] ⟨rfl, trivial⟩ ⟨bool_eq (allB_end (take_end (by omega) ha)).symm, rfl, rfl⟩

set_option maxRecDepth 4000 in
set_option maxHeartbeats 400000 in
theorem l31Used_c (q1 q2 q3 : Option Addr) (c1 c2 c3 : Nat) (x : DHost) (u : Str) (B : Kn) (hf : SlK B q2 c2 5 FolderR x.folders) : RetB (pj J) 29 [.agg #[str x.domain, .slice q1 x.users.length c1, .slice q2 x.folders.length c2, .int .i64 x.queue.next, .slice q3 x.queue.items.length c3], str u] B (.int .i64 (usedF x.folders u)) := by
  refine cBB 32 Try.func29 rfl rfl rfl (Nat.le_of_ble_eq_true rfl) ?_
  have hfn := hf.len
  refine wSR ?_
  refine oX (w_box (l := [_, _, _, _, _]) rfl rfl rfl rfl (fun b1 => ?_))
  refine xAs ?_
  refine wTd [(0, _), (1, _), (2, _), (4, _)] [_] ⟨rfl, rfl, rfl, rfl, trivial⟩ rfl ?_
  refine wSR ?_
  refine xAs ?_
  refine wKp [(0, _), (1, _), (2, _), (4, _), (5, _)] ⟨rfl, rfl, rfl, rfl, rfl, trivial⟩ ?_
  refine w_seq ?_
  refine wSR ?_
  refine xAs ?_
  refine wKp [(0, _), (1, _), (2, _), (4, _), (5, _), (6, _)] ⟨rfl, rfl, rfl, rfl, rfl, rfl, trivial⟩ ?_
  refine w_block ?_
  refine w_loopE (α := Nat × Nat) [0, 1, 2, 4] (fun g => [(5, .int .i64 g.2), (6, .int .i64 g.1)]) [] (fun g => []) (fun g Bx => Bx = B ∧ g.1 ≤ x.folders.length ∧ g.2 = usedF (x.folders.take g.1) u ∧ g.2 ≤ g.1 * 4000000000000) (fun g => x.folders.length - g.1) (0, 0) ⟨rfl, rfl, trivial⟩ rfl (⟨rfl, Nat.zero_le _, by simp [usedF], by omega⟩) (fun g B2 hle2 hI => ?_)
  obtain ⟨rfl, hk, hs, hl⟩ := hI
  refine wTd [(0, _), (1, _), (2, _), (4, _), (5, _), (6, _)] [_] ⟨rfl, rfl, rfl, rfl, rfl, rfl, trivial⟩ rfl ?_
  refine w_seq ?_
  refine wSR ?_
  refine xMv ?_
  refine oX (wFA rfl rfl fo31x2 rfl ?_)
  refine oX (w_load1 rfl rfl lk26 rfl (atL 0 rfl rfl rfl) ?_)
  refine oX (w_lenV rfl rfl Try.underlying26 rfl ?_)
  refine oX (w_lss rfl rfl rfl rfl ?_)
  refine wKp [(0, _), (1, _), (2, _), (4, _), (5, _), (6, _), (11, _)] ⟨rfl, rfl, rfl, rfl, rfl, rfl, rfl, trivial⟩ ?_
  refine wCd rfl (fun g1 => ?_) (fun g1 => ?_)
  · try simp only [sQ1, sQ2, sQ3, sQ4, sQ5, sQ6, sQ7, sQ8, ne_eq] at g1
    refine w_skip ?_
    refine thn_n ?_
    refine w_seq ?_
    refine w_block ?_
    refine wSR ?_
    refine oX (wFA rfl rfl fo31x2 rfl ?_)
    refine oX (w_load1 rfl rfl lk26 rfl (atL 0 rfl rfl rfl) ?_)
    refine xMv ?_
    obtain ⟨m, hm⟩ := getLt (xs := x.folders) (i := g.1) (by first | omega | (simp; done) | (simp; omega))
    obtain ⟨bb4, oo4, rfl⟩ := hf.base hm
    obtain ⟨_, ⟨qg5, cg5, qm5, cm5, rfl, hg5, hm5, hb5, hb5b⟩, hc5⟩ := hf.elem hm
    have hg5n := hg5.len
    have hm5n := hm5.len
    have hm5s := sizeMs_le hm5
    refine oX (w_ixB rfl rfl Try.underlying26 sz49 rfl rfl (by first | omega | (simp; done) | (simp; omega)) (by first | omega | (simp; done) | (simp; omega)) ?_)
    refine oX (wFA rfl rfl fo49x0 rfl ?_)
    refine oX (w_load1 rfl rfl lk9 rfl (hc5 _ 0 _ rfl) ?_)
    refine xMv ?_
    refine oX (w_eqlS rfl rfl rfl rfl ?_)
    refine wKp [(0, _), (1, _), (2, _), (4, _), (5, _), (6, _), (11, _), (21, _)] ⟨rfl, rfl, rfl, rfl, rfl, rfl, rfl, rfl, trivial⟩ ?_
    refine wCd rfl (fun g2 => ?_) (fun g2 => ?_)
    · try simp only [sQ1, sQ2, sQ3, sQ4, sQ5, sQ6, sQ7, sQ8, ne_eq] at g2
      refine w_region ?_
      refine xMv ?_
      refine oX (wFA rfl rfl fo31x2 rfl ?_)
      refine oX (w_load1 rfl rfl lk26 rfl (atL 0 rfl rfl rfl) ?_)
      refine xMv ?_
      refine oX (w_ixB rfl rfl Try.underlying26 sz49 rfl rfl (by first | omega | (simp; done) | (simp; omega)) (by first | omega | (simp; done) | (simp; omega)) ?_)
      refine oX (wFA rfl rfl fo49x3 rfl ?_)
      refine oX (w_loadN [_, _] rfl rfl lk47 rfl (rowK hc5 3 rfl rfl) ?_)
      refine oX (w_retB rfl rfl en44 rfl (l11Size_c _ _ (⟨m.next, m.mail⟩ : DBox) _ hm5) ?_)
      refine oX (w_add rfl rfl rfl rfl (by first | exact wrI64 (by first | omega | (simp; done) | (simp; omega)) (by first | omega | (simp; done) | (simp; omega)) | rfl) ?_)
      refine xAs ?_
      refine inB_n (thn_n ?_)
      refine w_region ?_
      refine xMv ?_
      refine oX (w_add rfl rfl rfl rfl (by first | exact wrI64 (by first | omega | (simp; done) | (simp; omega)) (by first | omega | (simp; done) | (simp; omega)) | rfl) ?_)
      refine xAs ?_
      exact rndE_n (g.1 + 1, g.2 + sizeMs m.mail) [0] (by first | omega | (simp only []; omega)) ⟨rfl, by simp only []; omega, by rw [usedF_next hm, ← hs, if_pos g2], by simp only []; omega⟩ ⟨rfl, rfl, rfl, rfl, rfl, rfl, trivial⟩ rfl
    · try simp only [sQ1, sQ2, sQ3, sQ4, sQ5, sQ6, sQ7, sQ8, ne_eq] at g2
      refine w_skip ?_
      refine inB_n (thn_n ?_)
      refine w_region ?_
      refine xMv ?_
      refine oX (w_add rfl rfl rfl rfl (by first | exact wrI64 (by first | omega | (simp; done) | (simp; omega)) (by first | omega | (simp; done) | (simp; omega)) | rfl) ?_)
      refine xAs ?_
      exact rndE_n (g.1 + 1, g.2) [0] (by first | omega | (simp only []; omega)) ⟨rfl, by simp only []; omega, by rw [usedF_next hm, ← hs, if_neg g2]; simp only [Nat.add_zero], Nat.le_trans hl (Nat.mul_le_mul_right _ (Nat.le_succ _))⟩ ⟨rfl, rfl, rfl, rfl, rfl, rfl, trivial⟩ rfl
  · try simp only [sQ1, sQ2, sQ3, sQ4, sQ5, sQ6, sQ7, sQ8, ne_eq] at g1
    refine w_exit (thn_x (rndE_x (inB_hit (thn_n ?_))))
    refine wSR ?_
    refine xMv ?_
    refine xAs ?_
    refine wKp [(0, _), (1, _), (2, _), (4, _), (5, _), (6, _), (11, _)] ⟨rfl, rfl, rfl, rfl, rfl, rfl, rfl, trivial⟩ ?_
    refine w_ret ?_
    exact end0 .ret (.inl rfl) [_] ⟨rfl, trivial⟩ ⟨int_eq (by rw [← usedF_end hs (by omega)]), rfl, rfl⟩

set_option maxRecDepth 4000 in
set_option maxHeartbeats 400000 in
theorem l31Folders_c (q1 q2 q3 : Option Addr) (c1 c2 c3 : Nat) (x : DHost) (B : Kn) (hu : SlK B q1 c1 3 UserR x.users) (hf : SlK B q2 c2 5 FolderR x.folders) : RetB (pj J) 27 [.agg #[str x.domain, .slice q1 x.users.length c1, .slice q2 x.folders.length c2, .int .i64 x.queue.next, .slice q3 x.queue.items.length c3]] B (.bool (foldersOk x.users x.folders)) := by
  refine cBB 60 Try.func27 rfl rfl rfl (Nat.le_of_ble_eq_true rfl) ?_
  have hfn := hf.len
  have hun := hu.len
  refine wSR ?_
  refine oX (w_box (l := [_, _, _, _, _]) rfl rfl rfl rfl (fun b1 => ?_))
  refine xAs ?_
  refine wTd [(0, _), (1, _), (2, _)] [_] ⟨rfl, rfl, rfl, trivial⟩ rfl ?_
  refine w_seq ?_
  refine wSR ?_
  refine xAs ?_
  refine wKp [(0, _), (1, _), (2, _), (3, _)] ⟨rfl, rfl, rfl, rfl, trivial⟩ ?_
  refine w_block ?_
  refine w_loopE (α := Nat × Option DFolder) [0, 1] (fun g => [(3, .int .i64 g.1)]) [] (fun g => []) (fun g Bx => Bx = B ∧ g.1 ≤ x.folders.length ∧ folderScan x.users (x.folders.take g.1) = (true, g.2) ∧ Prev some none x.folders g.1 g.2) (fun g => x.folders.length - g.1) (0, none) ⟨rfl, trivial⟩ rfl (⟨rfl, Nat.zero_le _, scn_nil, .zero⟩) (fun g B2 hle2 hI => ?_)
  obtain ⟨rfl, hk, hs, hp⟩ := hI
  refine wTd [(0, _), (1, _), (3, _)] [_] ⟨rfl, rfl, rfl, trivial⟩ rfl ?_
  refine w_seq ?_
  refine wSR ?_
  refine xMv ?_
  refine oX (wFA rfl rfl fo31x2 rfl ?_)
  refine oX (w_load1 rfl rfl lk26 rfl (atL 0 rfl rfl rfl) ?_)
  refine oX (w_lenV rfl rfl Try.underlying26 rfl ?_)
  refine oX (w_lss rfl rfl rfl rfl ?_)
  refine wKp [(0, _), (1, _), (3, _), (9, _)] ⟨rfl, rfl, rfl, rfl, trivial⟩ ?_
  refine wCd rfl (fun g1 => ?_) (fun g1 => ?_)
  · try simp only [sQ1, sQ2, sQ3, sQ4, sQ5, sQ6, sQ7, sQ8, ne_eq] at g1
    refine w_skip ?_
    refine thn_n ?_
    refine w_seq ?_
    refine w_block ?_
    refine wSR ?_
    refine oX (wFA rfl rfl fo31x2 rfl ?_)
    refine oX (w_load1 rfl rfl lk26 rfl (atL 0 rfl rfl rfl) ?_)
    refine xMv ?_
    obtain ⟨m, hm⟩ := getLt (xs := x.folders) (i := g.1) (by first | omega | (simp; done) | (simp; omega))
    obtain ⟨bb4, oo4, rfl⟩ := hf.base hm
    obtain ⟨_, ⟨qg5, cg5, qm5, cm5, rfl, hg5, hm5, hb5, hb5b⟩, hc5⟩ := hf.elem hm
    have hg5n := hg5.len
    have hm5n := hm5.len
    have hm5s := sizeMs_le hm5
    refine oX (w_ixB rfl rfl Try.underlying26 sz49 rfl rfl (by first | omega | (simp; done) | (simp; omega)) (by first | omega | (simp; done) | (simp; omega)) ?_)
    refine oX (w_loadN [_, _, _, _, _] rfl rfl lk49 rfl (rowK hc5 0 rfl rfl) ?_)
    refine oX (w_alloc (l := [_, _, _, _, _]) rfl rfl zo49 rfl (fun b6 => ?_))
    refine oX (w_store [_, _, _, _, _] 1 [_, _, _, _, _] rfl rfl sz49 rfl rfl rfl rfl rfl rfl rfl rfl ?_)
    refine wTd [(0, _), (1, _), (3, _), (4, _), (9, _)] [_, _] ⟨rfl, rfl, rfl, rfl, rfl, trivial⟩ rfl ?_
    refine w_seq ?_
    refine w_draw (same _ _) mo (by kernel_rfl) ⟨rfl, rfl⟩ (fun _ _ => ?_)
    refine aTk 0 rfl (by kernel_rfl) rfl (q_of fun D => wFA rfl rfl fo31x1 rfl ⟨rfl, rfl, rfl, rfl⟩) ?_
    refine aTk 1 rfl (by kernel_rfl) rfl (q_of fun D => w_load1 rfl rfl lk23 rfl (atL 0 rfl rfl rfl) ⟨rfl, rfl, rfl, rfl⟩) ?_
    refine aTk 2 rfl (by kernel_rfl) rfl (q_of fun D => wFA rfl rfl fo49x0 rfl ⟨rfl, rfl, rfl, rfl⟩) ?_
    refine aTk 3 rfl (by kernel_rfl) rfl (q_of fun D => w_load1 rfl rfl lk9 rfl (atL 1 rfl rfl rfl) ⟨rfl, rfl, rfl, rfl⟩) ?_
    refine aTk 4 rfl (by kernel_rfl) rfl (q_of fun D => w_retB rfl rfl en30 rfl (l14Find_c _ _ _ _ _ hu) ⟨rfl, rfl, rfl, rfl⟩) ?_
    refine aTk 5 rfl (by kernel_rfl) rfl (q_of fun D => w_lss rfl rfl rfl rfl ⟨rfl, rfl, rfl, rfl⟩) ?_
    refine aTP 6 rfl (by kernel_rfl) rfl (fun D B L => w_move rfl rfl rfl ⟨rfl, rfl, rfl, rfl⟩) ?_
    refine a_split (d := 23) rfl (fun g2 => ?_) (fun g2 => ?_)
    · try simp only [sQ1, sQ2, sQ3, sQ4, sQ5, sQ6, sQ7, sQ8, ne_eq] at g2
      refine aTk 7 rfl (by kernel_rfl) rfl (q_of fun D => w_pass rfl rfl ⟨rfl, rfl, rfl, rfl⟩) ?_
      refine aTk 8 rfl (by kernel_rfl) rfl (q_of fun D => w_pass rfl rfl ⟨rfl, rfl, rfl, rfl⟩) ?_
      refine aTk 9 rfl (by kernel_rfl) rfl (q_of fun D => w_pass rfl rfl ⟨rfl, rfl, rfl, rfl⟩) ?_
      refine aTk 10 rfl (by kernel_rfl) rfl (q_of fun D => w_pass rfl rfl ⟨rfl, rfl, rfl, rfl⟩) ?_
      refine aTk 11 rfl (by kernel_rfl) rfl (q_of fun D => w_pickT rfl rfl rfl rfl ⟨rfl, rfl, rfl, rfl⟩) ?_
      refine aTP 12 rfl (by kernel_rfl) rfl (fun D B L => w_move rfl rfl rfl ⟨rfl, rfl, rfl, rfl⟩) ?_
      refine aTk 13 rfl (by kernel_rfl) rfl (q_of fun D => w_pass rfl rfl ⟨rfl, rfl, rfl, rfl⟩) ?_
      refine aTk 14 rfl (by kernel_rfl) rfl (q_of fun D => w_pass rfl rfl ⟨rfl, rfl, rfl, rfl⟩) ?_
      refine aTk 15 rfl (by kernel_rfl) rfl (q_of fun D => w_pass rfl rfl ⟨rfl, rfl, rfl, rfl⟩) ?_
      refine aTk 16 rfl (by kernel_rfl) rfl (q_of fun D => w_pass rfl rfl ⟨rfl, rfl, rfl, rfl⟩) ?_
      refine aTk 17 rfl (by kernel_rfl) rfl (q_of fun D => w_pickT rfl rfl rfl rfl ⟨rfl, rfl, rfl, rfl⟩) ?_
      refine aTP 18 rfl (by kernel_rfl) rfl (fun D B L => w_move rfl rfl rfl ⟨rfl, rfl, rfl, rfl⟩) ?_
      refine aTk 19 rfl (by kernel_rfl) rfl (q_of fun D => w_pass rfl rfl ⟨rfl, rfl, rfl, rfl⟩) ?_
      refine aTk 20 rfl (by kernel_rfl) rfl (q_of fun D => w_pass rfl rfl ⟨rfl, rfl, rfl, rfl⟩) ?_
      refine aTk 21 rfl (by kernel_rfl) rfl (q_of fun D => w_pass rfl rfl ⟨rfl, rfl, rfl, rfl⟩) ?_
      refine aTk 22 rfl (by kernel_rfl) rfl (q_of fun D => w_pass rfl rfl ⟨rfl, rfl, rfl, rfl⟩) ?_
      refine aTk 23 rfl (by kernel_rfl) rfl (q_of fun D => w_pickT rfl rfl rfl rfl ⟨rfl, rfl, rfl, rfl⟩) ?_
      refine aTP 24 rfl (by kernel_rfl) rfl (fun D B L => w_move rfl rfl rfl ⟨rfl, rfl, rfl, rfl⟩) ?_
      refine aTP 25 rfl (by kernel_rfl) rfl (fun D B L => w_pass rfl rfl ⟨rfl, rfl, rfl, rfl⟩) ?_
      refine aTk 26 rfl (by kernel_rfl) rfl (q_of fun D => w_pass rfl rfl ⟨rfl, rfl, rfl, rfl⟩) ?_
      refine aTP 27 rfl (by kernel_rfl) rfl (fun D B L => w_pass rfl rfl ⟨rfl, rfl, rfl, rfl⟩) ?_
      refine aTk 28 rfl (by kernel_rfl) rfl (q_of fun D => w_pass rfl rfl ⟨rfl, rfl, rfl, rfl⟩) ?_
      refine aTk 29 rfl (by kernel_rfl) rfl (q_of fun D => w_pass rfl rfl ⟨rfl, rfl, rfl, rfl⟩) ?_
      refine aTP 30 rfl (by kernel_rfl) rfl (fun D B L => w_pass rfl rfl ⟨rfl, rfl, rfl, rfl⟩) ?_
      refine aTk 31 rfl (by kernel_rfl) rfl (q_of fun D => w_pass rfl rfl ⟨rfl, rfl, rfl, rfl⟩) ?_
      refine aTk 32 rfl (by kernel_rfl) rfl (q_of fun D => w_pass rfl rfl ⟨rfl, rfl, rfl, rfl⟩) ?_
      refine aTk 33 rfl (by kernel_rfl) rfl (q_of fun D => w_pass rfl rfl ⟨rfl, rfl, rfl, rfl⟩) ?_
      refine aTk 34 rfl (by kernel_rfl) rfl (q_of fun D => w_pass rfl rfl ⟨rfl, rfl, rfl, rfl⟩) ?_
      refine aTk 35 rfl (by kernel_rfl) rfl (q_of fun D => w_pass rfl rfl ⟨rfl, rfl, rfl, rfl⟩) ?_
      refine aTk 36 rfl (by kernel_rfl) rfl (q_of fun D => w_pass rfl rfl ⟨rfl, rfl, rfl, rfl⟩) ?_
      refine aTk 37 rfl (by kernel_rfl) rfl (q_of fun D => w_pass rfl rfl ⟨rfl, rfl, rfl, rfl⟩) ?_
      refine aTk 38 rfl (by kernel_rfl) rfl (q_of fun D => w_pickT rfl rfl rfl rfl ⟨rfl, rfl, rfl, rfl⟩) ?_
      refine any_done (by kernel_rfl) (by kernel_rfl) ?_
      refine thn_n ?_
      refine wKp [(0, _), (1, _), (3, _), (4, _), (9, _), (55, _)] ⟨rfl, rfl, rfl, rfl, rfl, rfl, trivial⟩ ?_
      refine wCd (t := true) rfl (fun _ => ?_) (fun h => Bool.noConfusion h)
      refine wSR ?_
      refine xAs ?_
      refine wKp [(0, _), (1, _), (2, _), (3, _), (4, _), (9, _), (55, _)] ⟨rfl, rfl, rfl, rfl, rfl, rfl, rfl, trivial⟩ ?_
      refine w_ret (inB_r (thn_r (rndE_r (inB_r (thn_r ?_)))))
      exact end0 .ret (.inl rfl) [_] ⟨rfl, trivial⟩ ⟨bool_eq (foldersOk_hit hm hs (by simp [folderP, folderIn, DFolder.box, g1, g2]; try omega)).symm, rfl, rfl⟩
    · try simp only [sQ1, sQ2, sQ3, sQ4, sQ5, sQ6, sQ7, sQ8, ne_eq] at g2
      refine aTk 7 rfl (by kernel_rfl) rfl (q_of fun D => wFA rfl rfl fo49x1 rfl ⟨rfl, rfl, rfl, rfl⟩) ?_
      refine aTk 8 rfl (by kernel_rfl) rfl (q_of fun D => w_load1 rfl rfl lk9 rfl (atL 1 rfl rfl rfl) ⟨rfl, rfl, rfl, rfl⟩) ?_
      refine aTk 9 rfl (by kernel_rfl) rfl (q_of fun D => w_retB rfl rfl en38 rfl (specName_c _ (by first | assumption | omega | (simp; done) | (simp; omega)) _) ⟨rfl, rfl, rfl, rfl⟩) ?_
      refine aTk 10 rfl (by kernel_rfl) rfl (q_of fun D => w_not rfl rfl rfl ⟨rfl, rfl, rfl, rfl⟩) ?_
      refine aTk 11 rfl (by kernel_rfl) rfl (q_of fun D => w_pickF rfl rfl rfl rfl ⟨rfl, rfl, rfl, rfl⟩) ?_
      refine aTP 12 rfl (by kernel_rfl) rfl (fun D B L => w_move rfl rfl rfl ⟨rfl, rfl, rfl, rfl⟩) ?_
      refine a_split (d := 29) rfl (fun g3 => ?_) (fun g3 => ?_)
      · try simp only [sQ1, sQ2, sQ3, sQ4, sQ5, sQ6, sQ7, sQ8, ne_eq] at g3
        refine aTk 13 rfl (by kernel_rfl) rfl (q_of fun D => w_pass rfl rfl ⟨rfl, rfl, rfl, rfl⟩) ?_
        refine aTk 14 rfl (by kernel_rfl) rfl (q_of fun D => w_pass rfl rfl ⟨rfl, rfl, rfl, rfl⟩) ?_
        refine aTk 15 rfl (by kernel_rfl) rfl (q_of fun D => w_pass rfl rfl ⟨rfl, rfl, rfl, rfl⟩) ?_
        refine aTk 16 rfl (by kernel_rfl) rfl (q_of fun D => w_pass rfl rfl ⟨rfl, rfl, rfl, rfl⟩) ?_
        refine aTk 17 rfl (by kernel_rfl) rfl (q_of fun D => w_pickT rfl rfl rfl rfl ⟨rfl, rfl, rfl, rfl⟩) ?_
        refine aTP 18 rfl (by kernel_rfl) rfl (fun D B L => w_move rfl rfl rfl ⟨rfl, rfl, rfl, rfl⟩) ?_
        refine aTk 19 rfl (by kernel_rfl) rfl (q_of fun D => w_pass rfl rfl ⟨rfl, rfl, rfl, rfl⟩) ?_
        refine aTk 20 rfl (by kernel_rfl) rfl (q_of fun D => w_pass rfl rfl ⟨rfl, rfl, rfl, rfl⟩) ?_
        refine aTk 21 rfl (by kernel_rfl) rfl (q_of fun D => w_pass rfl rfl ⟨rfl, rfl, rfl, rfl⟩) ?_
        refine aTk 22 rfl (by kernel_rfl) rfl (q_of fun D => w_pass rfl rfl ⟨rfl, rfl, rfl, rfl⟩) ?_
        refine aTk 23 rfl (by kernel_rfl) rfl (q_of fun D => w_pickT rfl rfl rfl rfl ⟨rfl, rfl, rfl, rfl⟩) ?_
        refine aTP 24 rfl (by kernel_rfl) rfl (fun D B L => w_move rfl rfl rfl ⟨rfl, rfl, rfl, rfl⟩) ?_
        refine aTP 25 rfl (by kernel_rfl) rfl (fun D B L => w_pass rfl rfl ⟨rfl, rfl, rfl, rfl⟩) ?_
        refine aTk 26 rfl (by kernel_rfl) rfl (q_of fun D => w_pass rfl rfl ⟨rfl, rfl, rfl, rfl⟩) ?_
        refine aTP 27 rfl (by kernel_rfl) rfl (fun D B L => w_pass rfl rfl ⟨rfl, rfl, rfl, rfl⟩) ?_
        refine aTk 28 rfl (by kernel_rfl) rfl (q_of fun D => w_pass rfl rfl ⟨rfl, rfl, rfl, rfl⟩) ?_
        refine aTk 29 rfl (by kernel_rfl) rfl (q_of fun D => w_pass rfl rfl ⟨rfl, rfl, rfl, rfl⟩) ?_
        refine aTP 30 rfl (by kernel_rfl) rfl (fun D B L => w_pass rfl rfl ⟨rfl, rfl, rfl, rfl⟩) ?_
        refine aTk 31 rfl (by kernel_rfl) rfl (q_of fun D => w_pass rfl rfl ⟨rfl, rfl, rfl, rfl⟩) ?_
        refine aTk 32 rfl (by kernel_rfl) rfl (q_of fun D => w_pass rfl rfl ⟨rfl, rfl, rfl, rfl⟩) ?_
        refine aTk 33 rfl (by kernel_rfl) rfl (q_of fun D => w_pass rfl rfl ⟨rfl, rfl, rfl, rfl⟩) ?_
        refine aTk 34 rfl (by kernel_rfl) rfl (q_of fun D => w_pass rfl rfl ⟨rfl, rfl, rfl, rfl⟩) ?_
        refine aTk 35 rfl (by kernel_rfl) rfl (q_of fun D => w_pass rfl rfl ⟨rfl, rfl, rfl, rfl⟩) ?_
        refine aTk 36 rfl (by kernel_rfl) rfl (q_of fun D => w_pass rfl rfl ⟨rfl, rfl, rfl, rfl⟩) ?_
        refine aTk 37 rfl (by kernel_rfl) rfl (q_of fun D => w_pass rfl rfl ⟨rfl, rfl, rfl, rfl⟩) ?_
        refine aTk 38 rfl (by kernel_rfl) rfl (q_of fun D => w_pickT rfl rfl rfl rfl ⟨rfl, rfl, rfl, rfl⟩) ?_
        refine any_done (by kernel_rfl) (by kernel_rfl) ?_
        refine thn_n ?_
        refine wKp [(0, _), (1, _), (3, _), (4, _), (9, _), (55, _)] ⟨rfl, rfl, rfl, rfl, rfl, rfl, trivial⟩ ?_
        refine wCd (t := true) rfl (fun _ => ?_) (fun h => Bool.noConfusion h)
        refine wSR ?_
        refine xAs ?_
        refine wKp [(0, _), (1, _), (2, _), (3, _), (4, _), (9, _), (55, _)] ⟨rfl, rfl, rfl, rfl, rfl, rfl, rfl, trivial⟩ ?_
        refine w_ret (inB_r (thn_r (rndE_r (inB_r (thn_r ?_)))))
        exact end0 .ret (.inl rfl) [_] ⟨rfl, trivial⟩ ⟨bool_eq (foldersOk_hit hm hs (by simp [folderP, folderIn, DFolder.box, g1, g2, g3]; try omega)).symm, rfl, rfl⟩
      · try simp only [sQ1, sQ2, sQ3, sQ4, sQ5, sQ6, sQ7, sQ8, ne_eq] at g3
        refine aTk 13 rfl (by kernel_rfl) rfl (q_of fun D => wFA rfl rfl fo49x2 rfl ⟨rfl, rfl, rfl, rfl⟩) ?_
        refine aTk 14 rfl (by kernel_rfl) rfl (q_of fun D => w_load1 rfl rfl lk44 rfl (atL 1 rfl rfl rfl) ⟨rfl, rfl, rfl, rfl⟩) ?_
        refine aTk 15 rfl (by kernel_rfl) rfl (q_of fun D => w_retB rfl rfl en41 rfl (specAcl_c _ _ _ _ hg5) ⟨rfl, rfl, rfl, rfl⟩) ?_
        refine aTk 16 rfl (by kernel_rfl) rfl (q_of fun D => w_not rfl rfl rfl ⟨rfl, rfl, rfl, rfl⟩) ?_
        refine aTk 17 rfl (by kernel_rfl) rfl (q_of fun D => w_pickF rfl rfl rfl rfl ⟨rfl, rfl, rfl, rfl⟩) ?_
        refine aTP 18 rfl (by kernel_rfl) rfl (fun D B L => w_move rfl rfl rfl ⟨rfl, rfl, rfl, rfl⟩) ?_
        refine a_split (d := 35) rfl (fun g4 => ?_) (fun g4 => ?_)
        · try simp only [sQ1, sQ2, sQ3, sQ4, sQ5, sQ6, sQ7, sQ8, ne_eq] at g4
          refine aTk 19 rfl (by kernel_rfl) rfl (q_of fun D => w_pass rfl rfl ⟨rfl, rfl, rfl, rfl⟩) ?_
          refine aTk 20 rfl (by kernel_rfl) rfl (q_of fun D => w_pass rfl rfl ⟨rfl, rfl, rfl, rfl⟩) ?_
          refine aTk 21 rfl (by kernel_rfl) rfl (q_of fun D => w_pass rfl rfl ⟨rfl, rfl, rfl, rfl⟩) ?_
          refine aTk 22 rfl (by kernel_rfl) rfl (q_of fun D => w_pass rfl rfl ⟨rfl, rfl, rfl, rfl⟩) ?_
          refine aTk 23 rfl (by kernel_rfl) rfl (q_of fun D => w_pickT rfl rfl rfl rfl ⟨rfl, rfl, rfl, rfl⟩) ?_
          refine aTP 24 rfl (by kernel_rfl) rfl (fun D B L => w_move rfl rfl rfl ⟨rfl, rfl, rfl, rfl⟩) ?_
          refine aTP 25 rfl (by kernel_rfl) rfl (fun D B L => w_pass rfl rfl ⟨rfl, rfl, rfl, rfl⟩) ?_
          refine aTk 26 rfl (by kernel_rfl) rfl (q_of fun D => w_pass rfl rfl ⟨rfl, rfl, rfl, rfl⟩) ?_
          refine aTP 27 rfl (by kernel_rfl) rfl (fun D B L => w_pass rfl rfl ⟨rfl, rfl, rfl, rfl⟩) ?_
          refine aTk 28 rfl (by kernel_rfl) rfl (q_of fun D => w_pass rfl rfl ⟨rfl, rfl, rfl, rfl⟩) ?_
          refine aTk 29 rfl (by kernel_rfl) rfl (q_of fun D => w_pass rfl rfl ⟨rfl, rfl, rfl, rfl⟩) ?_
          refine aTP 30 rfl (by kernel_rfl) rfl (fun D B L => w_pass rfl rfl ⟨rfl, rfl, rfl, rfl⟩) ?_
          refine aTk 31 rfl (by kernel_rfl) rfl (q_of fun D => w_pass rfl rfl ⟨rfl, rfl, rfl, rfl⟩) ?_
          refine aTk 32 rfl (by kernel_rfl) rfl (q_of fun D => w_pass rfl rfl ⟨rfl, rfl, rfl, rfl⟩) ?_
          refine aTk 33 rfl (by kernel_rfl) rfl (q_of fun D => w_pass rfl rfl ⟨rfl, rfl, rfl, rfl⟩) ?_
          refine aTk 34 rfl (by kernel_rfl) rfl (q_of fun D => w_pass rfl rfl ⟨rfl, rfl, rfl, rfl⟩) ?_
          refine aTk 35 rfl (by kernel_rfl) rfl (q_of fun D => w_pass rfl rfl ⟨rfl, rfl, rfl, rfl⟩) ?_
          refine aTk 36 rfl (by kernel_rfl) rfl (q_of fun D => w_pass rfl rfl ⟨rfl, rfl, rfl, rfl⟩) ?_
          refine aTk 37 rfl (by kernel_rfl) rfl (q_of fun D => w_pass rfl rfl ⟨rfl, rfl, rfl, rfl⟩) ?_
          refine aTk 38 rfl (by kernel_rfl) rfl (q_of fun D => w_pickT rfl rfl rfl rfl ⟨rfl, rfl, rfl, rfl⟩) ?_
          refine any_done (by kernel_rfl) (by kernel_rfl) ?_
          refine thn_n ?_
          refine wKp [(0, _), (1, _), (3, _), (4, _), (9, _), (55, _)] ⟨rfl, rfl, rfl, rfl, rfl, rfl, trivial⟩ ?_
          refine wCd (t := true) rfl (fun _ => ?_) (fun h => Bool.noConfusion h)
          refine wSR ?_
          refine xAs ?_
          refine wKp [(0, _), (1, _), (2, _), (3, _), (4, _), (9, _), (55, _)] ⟨rfl, rfl, rfl, rfl, rfl, rfl, rfl, trivial⟩ ?_
          refine w_ret (inB_r (thn_r (rndE_r (inB_r (thn_r ?_)))))
          exact end0 .ret (.inl rfl) [_] ⟨rfl, trivial⟩ ⟨bool_eq (foldersOk_hit hm hs (by simp [folderP, folderIn, DFolder.box, g1, g2, g3, g4]; try omega)).symm, rfl, rfl⟩
        · try simp only [sQ1, sQ2, sQ3, sQ4, sQ5, sQ6, sQ7, sQ8, ne_eq] at g4
          refine aTk 19 rfl (by kernel_rfl) rfl (q_of fun D => wFA rfl rfl fo49x3 rfl ⟨rfl, rfl, rfl, rfl⟩) ?_
          refine aTk 20 rfl (by kernel_rfl) rfl (q_of fun D => w_loadN [_, _] rfl rfl lk47 rfl (rowL 1 rfl rfl rfl) ⟨rfl, rfl, rfl, rfl⟩) ?_
          refine aTk 21 rfl (by kernel_rfl) rfl (q_of fun D => w_retB rfl rfl en42 rfl (specBox_c _ _ (⟨m.next, m.mail⟩ : DBox) _ hm5) ⟨rfl, rfl, rfl, rfl⟩) ?_
          refine aTk 22 rfl (by kernel_rfl) rfl (q_of fun D => w_not rfl rfl rfl ⟨rfl, rfl, rfl, rfl⟩) ?_
          refine aTk 23 rfl (by kernel_rfl) rfl (q_of fun D => w_pickF rfl rfl rfl rfl ⟨rfl, rfl, rfl, rfl⟩) ?_
          refine aTP 24 rfl (by kernel_rfl) rfl (fun D B L => w_move rfl rfl rfl ⟨rfl, rfl, rfl, rfl⟩) ?_
          refine a_split (d := 41) rfl (fun g5 => ?_) (fun g5 => ?_)
          · try simp only [sQ1, sQ2, sQ3, sQ4, sQ5, sQ6, sQ7, sQ8, ne_eq] at g5
            refine aTP 25 rfl (by kernel_rfl) rfl (fun D B L => w_pass rfl rfl ⟨rfl, rfl, rfl, rfl⟩) ?_
            refine aTk 26 rfl (by kernel_rfl) rfl (q_of fun D => w_pass rfl rfl ⟨rfl, rfl, rfl, rfl⟩) ?_
            refine aTP 27 rfl (by kernel_rfl) rfl (fun D B L => w_pass rfl rfl ⟨rfl, rfl, rfl, rfl⟩) ?_
            refine aTk 28 rfl (by kernel_rfl) rfl (q_of fun D => w_pass rfl rfl ⟨rfl, rfl, rfl, rfl⟩) ?_
            refine aTk 29 rfl (by kernel_rfl) rfl (q_of fun D => w_pass rfl rfl ⟨rfl, rfl, rfl, rfl⟩) ?_
            refine aTP 30 rfl (by kernel_rfl) rfl (fun D B L => w_pass rfl rfl ⟨rfl, rfl, rfl, rfl⟩) ?_
            refine aTk 31 rfl (by kernel_rfl) rfl (q_of fun D => w_pass rfl rfl ⟨rfl, rfl, rfl, rfl⟩) ?_
            refine aTk 32 rfl (by kernel_rfl) rfl (q_of fun D => w_pass rfl rfl ⟨rfl, rfl, rfl, rfl⟩) ?_
            refine aTk 33 rfl (by kernel_rfl) rfl (q_of fun D => w_pass rfl rfl ⟨rfl, rfl, rfl, rfl⟩) ?_
            refine aTk 34 rfl (by kernel_rfl) rfl (q_of fun D => w_pass rfl rfl ⟨rfl, rfl, rfl, rfl⟩) ?_
            refine aTk 35 rfl (by kernel_rfl) rfl (q_of fun D => w_pass rfl rfl ⟨rfl, rfl, rfl, rfl⟩) ?_
            refine aTk 36 rfl (by kernel_rfl) rfl (q_of fun D => w_pass rfl rfl ⟨rfl, rfl, rfl, rfl⟩) ?_
            refine aTk 37 rfl (by kernel_rfl) rfl (q_of fun D => w_pass rfl rfl ⟨rfl, rfl, rfl, rfl⟩) ?_
            refine aTk 38 rfl (by kernel_rfl) rfl (q_of fun D => w_pickT rfl rfl rfl rfl ⟨rfl, rfl, rfl, rfl⟩) ?_
            refine any_done (by kernel_rfl) (by kernel_rfl) ?_
            refine thn_n ?_
            refine wKp [(0, _), (1, _), (3, _), (4, _), (9, _), (55, _)] ⟨rfl, rfl, rfl, rfl, rfl, rfl, trivial⟩ ?_
            refine wCd (t := true) rfl (fun _ => ?_) (fun h => Bool.noConfusion h)
            refine wSR ?_
            refine xAs ?_
            refine wKp [(0, _), (1, _), (2, _), (3, _), (4, _), (9, _), (55, _)] ⟨rfl, rfl, rfl, rfl, rfl, rfl, rfl, trivial⟩ ?_
            refine w_ret (inB_r (thn_r (rndE_r (inB_r (thn_r ?_)))))
            exact end0 .ret (.inl rfl) [_] ⟨rfl, trivial⟩ ⟨bool_eq (foldersOk_hit hm hs (by simp [folderP, folderIn, DFolder.box, g1, g2, g3, g4, g5]; try omega)).symm, rfl, rfl⟩
          · try simp only [sQ1, sQ2, sQ3, sQ4, sQ5, sQ6, sQ7, sQ8, ne_eq] at g5
            refine aTP 25 rfl (by kernel_rfl) rfl (fun D B L => w_move rfl rfl rfl ⟨rfl, rfl, rfl, rfl⟩) ?_
            refine aTk 26 rfl (by kernel_rfl) rfl (q_of fun D => w_gtr rfl rfl rfl rfl ⟨rfl, rfl, rfl, rfl⟩) ?_
            refine aTP 27 rfl (by kernel_rfl) rfl (fun D B L => w_move rfl rfl rfl ⟨rfl, rfl, rfl, rfl⟩) ?_
            refine a_split (d := 44) rfl (fun g6 => ?_) (fun g6 => ?_)
            · try simp only [sQ1, sQ2, sQ3, sQ4, sQ5, sQ6, sQ7, sQ8, ne_eq] at g6
              refine aTk 28 rfl (by kernel_rfl) rfl (q_of fun D => wFA rfl rfl fo31x2 rfl ⟨rfl, rfl, rfl, rfl⟩) ?_
              refine aTk 29 rfl (by kernel_rfl) rfl (q_of fun D => w_load1 rfl rfl lk26 rfl (atL 0 rfl rfl rfl) ⟨rfl, rfl, rfl, rfl⟩) ?_
              refine aTP 30 rfl (by kernel_rfl) rfl (fun D B L => w_move rfl rfl rfl ⟨rfl, rfl, rfl, rfl⟩) ?_
              refine aTk 31 rfl (by kernel_rfl) rfl (q_of fun D => w_sub rfl rfl rfl rfl (by first | exact wrI64 (by first | omega | (simp; done) | (simp; omega)) (by first | omega | (simp; done) | (simp; omega)) | rfl) ⟨rfl, rfl, rfl, rfl⟩) ?_
              obtain ⟨y, hy⟩ := getI (xs := x.folders) (i := (↑g.1 - 1)) (by first | omega | (simp; done) | (simp; omega)) (by first | omega | (simp; done) | (simp; omega))
              obtain ⟨_, ⟨qg12, cg12, qm12, cm12, rfl, hg12, hm12, hb12, hb12b⟩, hc12⟩ := hf.elem hy
              have hg12n := hg12.len
              have hm12n := hm12.len
              have hm12s := sizeMs_le hm12
              refine aTk 32 rfl (by kernel_rfl) rfl (q_of fun D => w_ixB rfl rfl Try.underlying26 sz49 rfl rfl (by first | omega | (simp; done) | (simp; omega)) (by first | omega | (simp; done) | (simp; omega)) ⟨rfl, rfl, rfl, rfl⟩) ?_
              have hpe := hp.at hy (by omega)
              refine aTk 33 rfl (by kernel_rfl) rfl (q_of fun D => w_loadN [_, _, _, _, _] rfl rfl lk49 rfl (rowK hc12 0 rfl rfl) ⟨rfl, rfl, rfl, rfl⟩) ?_
              refine aTk 34 rfl (by kernel_rfl) rfl (q_of fun D => w_loadN [_, _, _, _, _] rfl rfl lk49 rfl (rowL 1 rfl rfl rfl) ⟨rfl, rfl, rfl, rfl⟩) ?_
              refine aTk 35 rfl (by kernel_rfl) rfl (q_of fun D => w_retB rfl rfl en43 rfl (l31Less_c y m _ _ _ _ _ _ _ _ _) ⟨rfl, rfl, rfl, rfl⟩) ?_
              refine aTk 36 rfl (by kernel_rfl) rfl (q_of fun D => w_not rfl rfl rfl ⟨rfl, rfl, rfl, rfl⟩) ?_
              refine aTk 37 rfl (by kernel_rfl) rfl (q_of fun D => w_pickT rfl rfl rfl rfl ⟨rfl, rfl, rfl, rfl⟩) ?_
              refine aTk 38 rfl (by kernel_rfl) rfl (q_of fun D => w_pickF rfl rfl rfl rfl ⟨rfl, rfl, rfl, rfl⟩) ?_
              refine any_done (by kernel_rfl) (by kernel_rfl) ?_
              refine thn_n ?_
              refine wKp [(0, _), (1, _), (3, _), (4, _), (9, _), (55, _)] ⟨rfl, rfl, rfl, rfl, rfl, rfl, trivial⟩ ?_
              refine wCd rfl (fun g7 => ?_) (fun g7 => ?_)
              · try simp only [sQ1, sQ2, sQ3, sQ4, sQ5, sQ6, sQ7, sQ8, ne_eq] at g7
                refine wSR ?_
                refine xAs ?_
                refine wKp [(0, _), (1, _), (2, _), (3, _), (4, _), (9, _), (55, _)] ⟨rfl, rfl, rfl, rfl, rfl, rfl, rfl, trivial⟩ ?_
                refine w_ret (inB_r (thn_r (rndE_r (inB_r (thn_r ?_)))))
                exact end0 .ret (.inl rfl) [_] ⟨rfl, trivial⟩ ⟨bool_eq (foldersOk_hit hm hs (by simp [folderP, folderIn, DFolder.box, g1, g2, g3, g4, g5, g6, g7, hpe]; try omega)).symm, rfl, rfl⟩
              · try simp only [sQ1, sQ2, sQ3, sQ4, sQ5, sQ6, sQ7, sQ8, ne_eq] at g7
                refine w_skip ?_
                refine inB_n (thn_n ?_)
                refine w_region ?_
                refine xMv ?_
                refine oX (w_add rfl rfl rfl rfl (by first | exact wrI64 (by first | omega | (simp; done) | (simp; omega)) (by first | omega | (simp; done) | (simp; omega)) | rfl) ?_)
                refine xAs ?_
                exact rndE_n (g.1 + 1, some m) [0] (by first | omega | (simp only []; omega)) ⟨rfl, by omega, scn_step hm hs (by rw [hpe]; simp [folderP, folderIn, DFolder.box, g3, g4, g5, g7]; omega), .succ hm⟩ ⟨rfl, rfl, rfl, trivial⟩ rfl
            · try simp only [sQ1, sQ2, sQ3, sQ4, sQ5, sQ6, sQ7, sQ8, ne_eq] at g6
              refine aTk 28 rfl (by kernel_rfl) rfl (q_of fun D => w_pass rfl rfl ⟨rfl, rfl, rfl, rfl⟩) ?_
              refine aTk 29 rfl (by kernel_rfl) rfl (q_of fun D => w_pass rfl rfl ⟨rfl, rfl, rfl, rfl⟩) ?_
              refine aTP 30 rfl (by kernel_rfl) rfl (fun D B L => w_pass rfl rfl ⟨rfl, rfl, rfl, rfl⟩) ?_
              refine aTk 31 rfl (by kernel_rfl) rfl (q_of fun D => w_pass rfl rfl ⟨rfl, rfl, rfl, rfl⟩) ?_
              refine aTk 32 rfl (by kernel_rfl) rfl (q_of fun D => w_pass rfl rfl ⟨rfl, rfl, rfl, rfl⟩) ?_
              refine aTk 33 rfl (by kernel_rfl) rfl (q_of fun D => w_pass rfl rfl ⟨rfl, rfl, rfl, rfl⟩) ?_
              refine aTk 34 rfl (by kernel_rfl) rfl (q_of fun D => w_pass rfl rfl ⟨rfl, rfl, rfl, rfl⟩) ?_
              refine aTk 35 rfl (by kernel_rfl) rfl (q_of fun D => w_pass rfl rfl ⟨rfl, rfl, rfl, rfl⟩) ?_
              refine aTk 36 rfl (by kernel_rfl) rfl (q_of fun D => w_pass rfl rfl ⟨rfl, rfl, rfl, rfl⟩) ?_
              refine aTk 37 rfl (by kernel_rfl) rfl (q_of fun D => w_pickF rfl rfl rfl rfl ⟨rfl, rfl, rfl, rfl⟩) ?_
              refine aTk 38 rfl (by kernel_rfl) rfl (q_of fun D => w_pickF rfl rfl rfl rfl ⟨rfl, rfl, rfl, rfl⟩) ?_
              refine any_done (by kernel_rfl) (by kernel_rfl) ?_
              refine thn_n ?_
              refine wKp [(0, _), (1, _), (3, _), (4, _), (9, _), (55, _)] ⟨rfl, rfl, rfl, rfl, rfl, rfl, trivial⟩ ?_
              refine wCd (t := false) rfl (fun h => Bool.noConfusion h) (fun _ => ?_)
              refine w_skip ?_
              refine inB_n (thn_n ?_)
              refine w_region ?_
              refine xMv ?_
              refine oX (w_add rfl rfl rfl rfl (by first | exact wrI64 (by first | omega | (simp; done) | (simp; omega)) (by first | omega | (simp; done) | (simp; omega)) | rfl) ?_)
              refine xAs ?_
              exact rndE_n (g.1 + 1, some m) [0] (by first | omega | (simp only []; omega)) ⟨rfl, by omega, scn_step hm hs (by rw [hp.at0 (by omega)]; simp [folderP, folderIn, DFolder.box, g3, g4, g5]; omega), .succ hm⟩ ⟨rfl, rfl, rfl, trivial⟩ rfl
  · try simp only [sQ1, sQ2, sQ3, sQ4, sQ5, sQ6, sQ7, sQ8, ne_eq] at g1
    refine w_exit (thn_x (rndE_x (inB_hit (thn_n ?_))))
    refine wSR ?_
    refine oX (wFA rfl rfl fo31x2 rfl ?_)
    refine oX (w_load1 rfl rfl lk26 rfl (atL 0 rfl rfl rfl) ?_)
    refine oX (w_lenV rfl rfl Try.underlying26 rfl ?_)
    refine oX (w_leq rfl rfl rfl rfl ?_)
    refine xAs ?_
    refine wKp [(0, _), (1, _), (2, _), (3, _), (9, _)] ⟨rfl, rfl, rfl, rfl, rfl, trivial⟩ ?_
    refine w_ret ?_
    exact end0 .ret (.inl rfl) [_] ⟨rfl, trivial⟩ ⟨bool_eq (by rw [foldersOk_end (scn_end hs (by omega)), Bool.eq_iff_iff]; simp; try omega), rfl, rfl⟩

set_option maxRecDepth 4000 in
set_option maxHeartbeats 400000 in
theorem specHost_c (q1 q2 q3 : Option Addr) (c1 c2 c3 : Nat) (x : DHost) (hd : x.domain.length ≤ 2000000) (B : Kn) (hu : SlK B q1 c1 3 UserR x.users) (hf : SlK B q2 c2 5 FolderR x.folders) (hi : SlK B q3 c3 4 ItemR x.queue.items) : RetB (pj J) 14 [.agg #[str x.domain, .slice q1 x.users.length c1, .slice q2 x.folders.length c2, .int .i64 x.queue.next, .slice q3 x.queue.items.length c3]] B (.bool (hostOk x)) := by
  refine cBB 87 Try.func14 rfl rfl rfl (Nat.le_of_ble_eq_true rfl) ?_
  have hfn := hf.len
  have hun := hu.len
  have hin := hi.len
  refine wSR ?_
  refine oX (w_box (l := [_, _, _, _, _]) rfl rfl rfl rfl (fun b1 => ?_))
  refine xAs ?_
  refine wTd [(0, _), (1, _), (2, _)] [_] ⟨rfl, rfl, rfl, trivial⟩ rfl ?_
  refine w_seq ?_
  refine wSR ?_
  refine oX (wFA rfl rfl fo31x0 rfl ?_)
  refine oX (w_load1 rfl rfl lk9 rfl (atL 0 rfl rfl rfl) ?_)
  refine oX (w_retB rfl rfl en24 rfl (specDomain_c _ (by first | assumption | omega | (simp; done) | (simp; omega)) _) ?_)
  refine oX (w_not rfl rfl rfl ?_)
  refine xMv ?_
  refine r_split (d := 10) rfl (fun g1 => ?_) (fun g1 => ?_)
  · try simp only [sQ1, sQ2, sQ3, sQ4, sQ5, sQ6, sQ7, sQ8, ne_eq] at g1
    refine oX (w_pass rfl rfl ?_)
    refine oX (w_pass rfl rfl ?_)
    refine oX (w_pass rfl rfl ?_)
    refine oX (w_pass rfl rfl ?_)
    refine oX (w_pickT rfl rfl rfl rfl ?_)
    refine xMv ?_
    refine oX (w_pass rfl rfl ?_)
    refine oX (w_pass rfl rfl ?_)
    refine oX (w_pass rfl rfl ?_)
    refine oX (w_pass rfl rfl ?_)
    refine oX (w_pickT rfl rfl rfl rfl ?_)
    refine xMv ?_
    refine oX (w_pass rfl rfl ?_)
    refine oX (w_pass rfl rfl ?_)
    refine oX (w_pass rfl rfl ?_)
    refine oX (w_pickT rfl rfl rfl rfl ?_)
    refine wKp [(0, _), (1, _), (2, _), (26, _)] ⟨rfl, rfl, rfl, rfl, trivial⟩ ?_
    refine wCd (t := true) rfl (fun _ => ?_) (fun h => Bool.noConfusion h)
    refine wSR ?_
    refine xAs ?_
    refine wKp [(0, _), (1, _), (2, _), (26, _)] ⟨rfl, rfl, rfl, rfl, trivial⟩ ?_
    refine w_ret (thn_r ?_)
    exact end0 .ret (.inl rfl) [_] ⟨rfl, trivial⟩ ⟨bool_eq (by simp [hostOk, g1]), rfl, rfl⟩
  · try simp only [sQ1, sQ2, sQ3, sQ4, sQ5, sQ6, sQ7, sQ8, ne_eq] at g1
    refine oX (wFA rfl rfl fo31x1 rfl ?_)
    refine oX (w_load1 rfl rfl lk23 rfl (atL 0 rfl rfl rfl) ?_)
    refine oX (w_retB rfl rfl en25 rfl (specUsers_c _ _ _ _ hu) ?_)
    refine oX (w_not rfl rfl rfl ?_)
    refine oX (w_pickF rfl rfl rfl rfl ?_)
    refine xMv ?_
    refine r_split (d := 16) rfl (fun g2 => ?_) (fun g2 => ?_)
    · try simp only [sQ1, sQ2, sQ3, sQ4, sQ5, sQ6, sQ7, sQ8, ne_eq] at g2
      refine oX (w_pass rfl rfl ?_)
      refine oX (w_pass rfl rfl ?_)
      refine oX (w_pass rfl rfl ?_)
      refine oX (w_pass rfl rfl ?_)
      refine oX (w_pickT rfl rfl rfl rfl ?_)
      refine xMv ?_
      refine oX (w_pass rfl rfl ?_)
      refine oX (w_pass rfl rfl ?_)
      refine oX (w_pass rfl rfl ?_)
      refine oX (w_pickT rfl rfl rfl rfl ?_)
      refine wKp [(0, _), (1, _), (2, _), (26, _)] ⟨rfl, rfl, rfl, rfl, trivial⟩ ?_
      refine wCd (t := true) rfl (fun _ => ?_) (fun h => Bool.noConfusion h)
      refine wSR ?_
      refine xAs ?_
      refine wKp [(0, _), (1, _), (2, _), (26, _)] ⟨rfl, rfl, rfl, rfl, trivial⟩ ?_
      refine w_ret (thn_r ?_)
      exact end0 .ret (.inl rfl) [_] ⟨rfl, trivial⟩ ⟨bool_eq (by simp [hostOk, g1, g2]), rfl, rfl⟩
    · try simp only [sQ1, sQ2, sQ3, sQ4, sQ5, sQ6, sQ7, sQ8, ne_eq] at g2
      refine oX (wFA rfl rfl fo31x3 rfl ?_)
      refine oX (w_loadN [_, _] rfl rfl lk29 rfl (rowL 0 rfl rfl rfl) ?_)
      refine oX (w_retB rfl rfl en26 rfl (specQueue_c _ _ x.queue _ hi) ?_)
      refine oX (w_not rfl rfl rfl ?_)
      refine oX (w_pickF rfl rfl rfl rfl ?_)
      refine xMv ?_
      refine r_split (d := 22) rfl (fun g3 => ?_) (fun g3 => ?_)
      · try simp only [sQ1, sQ2, sQ3, sQ4, sQ5, sQ6, sQ7, sQ8, ne_eq] at g3
        refine oX (w_pass rfl rfl ?_)
        refine oX (w_pass rfl rfl ?_)
        refine oX (w_pass rfl rfl ?_)
        refine oX (w_pickT rfl rfl rfl rfl ?_)
        refine wKp [(0, _), (1, _), (2, _), (26, _)] ⟨rfl, rfl, rfl, rfl, trivial⟩ ?_
        refine wCd (t := true) rfl (fun _ => ?_) (fun h => Bool.noConfusion h)
        refine wSR ?_
        refine xAs ?_
        refine wKp [(0, _), (1, _), (2, _), (26, _)] ⟨rfl, rfl, rfl, rfl, trivial⟩ ?_
        refine w_ret (thn_r ?_)
        exact end0 .ret (.inl rfl) [_] ⟨rfl, trivial⟩ ⟨bool_eq (by simp [hostOk, g1, g2, g3]), rfl, rfl⟩
      · try simp only [sQ1, sQ2, sQ3, sQ4, sQ5, sQ6, sQ7, sQ8, ne_eq] at g3
        refine oX (w_loadN [_, _, _, _, _] rfl rfl lk31 rfl (rowL 0 rfl rfl rfl) ?_)
        refine oX (w_retB rfl rfl en27 rfl (l31Folders_c _ _ _ _ _ _ x _ hu hf) ?_)
        refine oX (w_not rfl rfl rfl ?_)
        refine oX (w_pickF rfl rfl rfl rfl ?_)
        refine wKp [(0, _), (1, _), (2, _), (26, _)] ⟨rfl, rfl, rfl, rfl, trivial⟩ ?_
        refine wCd rfl (fun g4 => ?_) (fun g4 => ?_)
        · try simp only [sQ1, sQ2, sQ3, sQ4, sQ5, sQ6, sQ7, sQ8, ne_eq] at g4
          refine wSR ?_
          refine xAs ?_
          refine wKp [(0, _), (1, _), (2, _), (26, _)] ⟨rfl, rfl, rfl, rfl, trivial⟩ ?_
          refine w_ret (thn_r ?_)
          exact end0 .ret (.inl rfl) [_] ⟨rfl, trivial⟩ ⟨bool_eq (by simp [hostOk, g1, g2, g3, g4]), rfl, rfl⟩
        · try simp only [sQ1, sQ2, sQ3, sQ4, sQ5, sQ6, sQ7, sQ8, ne_eq] at g4
          refine w_skip ?_
          refine thn_n ?_
          refine w_seq ?_
          refine wSR ?_
          refine xAs ?_
          refine wKp [(0, _), (1, _), (2, _), (3, _), (26, _)] ⟨rfl, rfl, rfl, rfl, rfl, trivial⟩ ?_
          refine w_block ?_
          refine w_loopE (α := Nat) [0, 1, 26] (fun k => [(3, .int .i64 k)]) [] (fun k => []) (fun k Bx => Bx = B ∧ k ≤ x.users.length ∧ ∀ z, z ∈ x.users.take k → userFits x.folders z = true) (fun k => x.users.length - k) 0 ⟨rfl, trivial⟩ rfl (⟨rfl, Nat.zero_le _, by simp⟩) (fun k B6 hle6 hI => ?_)
          obtain ⟨rfl, hk, ha⟩ := hI
          refine wTd [(0, _), (1, _), (3, _), (26, _)] [_] ⟨rfl, rfl, rfl, rfl, trivial⟩ rfl ?_
          refine w_seq ?_
          refine wSR ?_
          refine xMv ?_
          refine oX (wFA rfl rfl fo31x1 rfl ?_)
          refine oX (w_load1 rfl rfl lk23 rfl (atL 0 rfl rfl rfl) ?_)
          refine oX (w_lenV rfl rfl Try.underlying23 rfl ?_)
          refine oX (w_lss rfl rfl rfl rfl ?_)
          refine wKp [(0, _), (1, _), (3, _), (26, _), (31, _)] ⟨rfl, rfl, rfl, rfl, rfl, trivial⟩ ?_
          refine wCd rfl (fun g5 => ?_) (fun g5 => ?_)
          · try simp only [sQ1, sQ2, sQ3, sQ4, sQ5, sQ6, sQ7, sQ8, ne_eq] at g5
            refine w_skip ?_
            refine thn_n ?_
            refine w_seq ?_
            refine w_block ?_
            refine w_seq ?_
            refine w_draw (same _ _) mo (by kernel_rfl) ⟨rfl, rfl⟩ (fun _ _ => ?_)
            refine aTk 0 rfl (by kernel_rfl) rfl (q_of fun D => w_loadN [_, _, _, _, _] rfl rfl lk31 rfl (rowL 0 rfl rfl rfl) ⟨rfl, rfl, rfl, rfl⟩) ?_
            refine aTk 1 rfl (by kernel_rfl) rfl (q_of fun D => wFA rfl rfl fo31x1 rfl ⟨rfl, rfl, rfl, rfl⟩) ?_
            refine aTk 2 rfl (by kernel_rfl) rfl (q_of fun D => w_load1 rfl rfl lk23 rfl (atL 0 rfl rfl rfl) ⟨rfl, rfl, rfl, rfl⟩) ?_
            refine aTP 3 rfl (by kernel_rfl) rfl (fun D B L => w_move rfl rfl rfl ⟨rfl, rfl, rfl, rfl⟩) ?_
            obtain ⟨w, hw⟩ := getLt (xs := x.users) (i := k) (by first | omega | (simp; done) | (simp; omega))
            obtain ⟨bb8, oo8, rfl⟩ := hu.base hw
            obtain ⟨_, ⟨rfl, hb9, hb9b⟩, hc9⟩ := hu.elem hw
            refine aTk 4 rfl (by kernel_rfl) rfl (q_of fun D => w_ixB rfl rfl Try.underlying23 sz43 rfl rfl (by first | omega | (simp; done) | (simp; omega)) (by first | omega | (simp; done) | (simp; omega)) ⟨rfl, rfl, rfl, rfl⟩) ?_
            refine aTk 5 rfl (by kernel_rfl) rfl (q_of fun D => wFA rfl rfl fo43x0 rfl ⟨rfl, rfl, rfl, rfl⟩) ?_
            refine aTk 6 rfl (by kernel_rfl) rfl (q_of fun D => w_load1 rfl rfl lk9 rfl (hc9 _ 0 _ rfl) ⟨rfl, rfl, rfl, rfl⟩) ?_
            refine aTk 7 rfl (by kernel_rfl) rfl (q_of fun D => w_retB rfl rfl en28 rfl (l31Find_c _ _ _ _ _ _ x w.name [105, 110, 98, 111, 120] (by first | assumption | omega | (simp; done) | (simp; omega)) (by first | assumption | omega | (simp; done) | (simp; omega)) _ hf) ⟨rfl, rfl, rfl, rfl⟩) ?_
            refine aTk 8 rfl (by kernel_rfl) rfl (q_of fun D => w_lss rfl rfl rfl rfl ⟨rfl, rfl, rfl, rfl⟩) ?_
            refine aTP 9 rfl (by kernel_rfl) rfl (fun D B L => w_move rfl rfl rfl ⟨rfl, rfl, rfl, rfl⟩) ?_
            refine a_split (d := 43) rfl (fun g6 => ?_) (fun g6 => ?_)
            · try simp only [sQ1, sQ2, sQ3, sQ4, sQ5, sQ6, sQ7, sQ8, ne_eq] at g6
              refine aTk 10 rfl (by kernel_rfl) rfl (q_of fun D => w_pass rfl rfl ⟨rfl, rfl, rfl, rfl⟩) ?_
              refine aTk 11 rfl (by kernel_rfl) rfl (q_of fun D => w_pass rfl rfl ⟨rfl, rfl, rfl, rfl⟩) ?_
              refine aTk 12 rfl (by kernel_rfl) rfl (q_of fun D => w_pass rfl rfl ⟨rfl, rfl, rfl, rfl⟩) ?_
              refine aTP 13 rfl (by kernel_rfl) rfl (fun D B L => w_pass rfl rfl ⟨rfl, rfl, rfl, rfl⟩) ?_
              refine aTk 14 rfl (by kernel_rfl) rfl (q_of fun D => w_pass rfl rfl ⟨rfl, rfl, rfl, rfl⟩) ?_
              refine aTk 15 rfl (by kernel_rfl) rfl (q_of fun D => w_pass rfl rfl ⟨rfl, rfl, rfl, rfl⟩) ?_
              refine aTk 16 rfl (by kernel_rfl) rfl (q_of fun D => w_pass rfl rfl ⟨rfl, rfl, rfl, rfl⟩) ?_
              refine aTk 17 rfl (by kernel_rfl) rfl (q_of fun D => w_pass rfl rfl ⟨rfl, rfl, rfl, rfl⟩) ?_
              refine aTk 18 rfl (by kernel_rfl) rfl (q_of fun D => w_pass rfl rfl ⟨rfl, rfl, rfl, rfl⟩) ?_
              refine aTk 19 rfl (by kernel_rfl) rfl (q_of fun D => w_pass rfl rfl ⟨rfl, rfl, rfl, rfl⟩) ?_
              refine aTP 20 rfl (by kernel_rfl) rfl (fun D B L => w_pass rfl rfl ⟨rfl, rfl, rfl, rfl⟩) ?_
              refine aTk 21 rfl (by kernel_rfl) rfl (q_of fun D => w_pass rfl rfl ⟨rfl, rfl, rfl, rfl⟩) ?_
              refine aTk 22 rfl (by kernel_rfl) rfl (q_of fun D => w_pass rfl rfl ⟨rfl, rfl, rfl, rfl⟩) ?_
              refine aTk 23 rfl (by kernel_rfl) rfl (q_of fun D => w_pass rfl rfl ⟨rfl, rfl, rfl, rfl⟩) ?_
              refine aTk 24 rfl (by kernel_rfl) rfl (q_of fun D => w_pass rfl rfl ⟨rfl, rfl, rfl, rfl⟩) ?_
              refine aTk 25 rfl (by kernel_rfl) rfl (q_of fun D => w_pickT rfl rfl rfl rfl ⟨rfl, rfl, rfl, rfl⟩) ?_
              refine any_done (by kernel_rfl) (by kernel_rfl) ?_
              refine thn_n ?_
              refine wKp [(0, _), (1, _), (3, _), (26, _), (31, _), (59, _)] ⟨rfl, rfl, rfl, rfl, rfl, rfl, trivial⟩ ?_
              refine wCd (t := true) rfl (fun _ => ?_) (fun h => Bool.noConfusion h)
              refine wSR ?_
              refine xAs ?_
              refine wKp [(0, _), (1, _), (2, _), (3, _), (26, _), (31, _), (59, _)] ⟨rfl, rfl, rfl, rfl, rfl, rfl, rfl, trivial⟩ ?_
              refine w_ret (inB_r (thn_r (rndE_r (inB_r (thn_r ?_)))))
              exact end0 .ret (.inl rfl) [_] ⟨rfl, trivial⟩ ⟨bool_eq (hostOk_user hw (userFits_no1 g6)).symm, rfl, rfl⟩
            · try simp only [sQ1, sQ2, sQ3, sQ4, sQ5, sQ6, sQ7, sQ8, ne_eq] at g6
              refine aTk 10 rfl (by kernel_rfl) rfl (q_of fun D => w_loadN [_, _, _, _, _] rfl rfl lk31 rfl (rowL 0 rfl rfl rfl) ⟨rfl, rfl, rfl, rfl⟩) ?_
              refine aTk 11 rfl (by kernel_rfl) rfl (q_of fun D => wFA rfl rfl fo31x1 rfl ⟨rfl, rfl, rfl, rfl⟩) ?_
              refine aTk 12 rfl (by kernel_rfl) rfl (q_of fun D => w_load1 rfl rfl lk23 rfl (atL 0 rfl rfl rfl) ⟨rfl, rfl, rfl, rfl⟩) ?_
              refine aTP 13 rfl (by kernel_rfl) rfl (fun D B L => w_move rfl rfl rfl ⟨rfl, rfl, rfl, rfl⟩) ?_
              refine aTk 14 rfl (by kernel_rfl) rfl (q_of fun D => w_ixB rfl rfl Try.underlying23 sz43 rfl rfl (by first | omega | (simp; done) | (simp; omega)) (by first | omega | (simp; done) | (simp; omega)) ⟨rfl, rfl, rfl, rfl⟩) ?_
              refine aTk 15 rfl (by kernel_rfl) rfl (q_of fun D => wFA rfl rfl fo43x0 rfl ⟨rfl, rfl, rfl, rfl⟩) ?_
              refine aTk 16 rfl (by kernel_rfl) rfl (q_of fun D => w_load1 rfl rfl lk9 rfl (hc9 _ 0 _ rfl) ⟨rfl, rfl, rfl, rfl⟩) ?_
              refine aTk 17 rfl (by kernel_rfl) rfl (q_of fun D => w_retB rfl rfl en29 rfl (l31Used_c _ _ _ _ _ _ x _ _ hf) ⟨rfl, rfl, rfl, rfl⟩) ?_
              refine aTk 18 rfl (by kernel_rfl) rfl (q_of fun D => wFA rfl rfl fo31x1 rfl ⟨rfl, rfl, rfl, rfl⟩) ?_
              refine aTk 19 rfl (by kernel_rfl) rfl (q_of fun D => w_load1 rfl rfl lk23 rfl (atL 0 rfl rfl rfl) ⟨rfl, rfl, rfl, rfl⟩) ?_
              refine aTP 20 rfl (by kernel_rfl) rfl (fun D B L => w_move rfl rfl rfl ⟨rfl, rfl, rfl, rfl⟩) ?_
              refine aTk 21 rfl (by kernel_rfl) rfl (q_of fun D => w_ixB rfl rfl Try.underlying23 sz43 rfl rfl (by first | omega | (simp; done) | (simp; omega)) (by first | omega | (simp; done) | (simp; omega)) ⟨rfl, rfl, rfl, rfl⟩) ?_
              refine aTk 22 rfl (by kernel_rfl) rfl (q_of fun D => wFA rfl rfl fo43x2 rfl ⟨rfl, rfl, rfl, rfl⟩) ?_
              refine aTk 23 rfl (by kernel_rfl) rfl (q_of fun D => w_load1 rfl rfl lk3 rfl (hc9 _ 2 _ rfl) ⟨rfl, rfl, rfl, rfl⟩) ?_
              refine aTk 24 rfl (by kernel_rfl) rfl (q_of fun D => w_gtr rfl rfl rfl rfl ⟨rfl, rfl, rfl, rfl⟩) ?_
              refine aTk 25 rfl (by kernel_rfl) rfl (q_of fun D => w_pickF rfl rfl rfl rfl ⟨rfl, rfl, rfl, rfl⟩) ?_
              refine any_done (by kernel_rfl) (by kernel_rfl) ?_
              refine thn_n ?_
              refine wKp [(0, _), (1, _), (3, _), (26, _), (31, _), (59, _)] ⟨rfl, rfl, rfl, rfl, rfl, rfl, trivial⟩ ?_
              refine wCd rfl (fun g7 => ?_) (fun g7 => ?_)
              · try simp only [sQ1, sQ2, sQ3, sQ4, sQ5, sQ6, sQ7, sQ8, ne_eq] at g7
                refine wSR ?_
                refine xAs ?_
                refine wKp [(0, _), (1, _), (2, _), (3, _), (26, _), (31, _), (59, _)] ⟨rfl, rfl, rfl, rfl, rfl, rfl, rfl, trivial⟩ ?_
                refine w_ret (inB_r (thn_r (rndE_r (inB_r (thn_r ?_)))))
                exact end0 .ret (.inl rfl) [_] ⟨rfl, trivial⟩ ⟨bool_eq (hostOk_user hw (userFits_no2 g7)).symm, rfl, rfl⟩
              · try simp only [sQ1, sQ2, sQ3, sQ4, sQ5, sQ6, sQ7, sQ8, ne_eq] at g7
                refine w_skip ?_
                refine inB_n (thn_n ?_)
                refine w_region ?_
                refine xMv ?_
                refine oX (w_add rfl rfl rfl rfl (by first | exact wrI64 (by first | omega | (simp; done) | (simp; omega)) (by first | omega | (simp; done) | (simp; omega)) | rfl) ?_)
                refine xAs ?_
                exact rndE_n (k + 1) [0] (by first | omega | (simp only []; omega)) ⟨rfl, by omega, all_next hw ha (userFits_yes g6 g7)⟩ ⟨rfl, rfl, rfl, rfl, trivial⟩ rfl
          · try simp only [sQ1, sQ2, sQ3, sQ4, sQ5, sQ6, sQ7, sQ8, ne_eq] at g5
            refine w_exit (thn_x (rndE_x (inB_hit (thn_n ?_))))
            refine w_seq ?_
            refine wSR ?_
            refine xAs ?_
            refine wKp [(0, _), (1, _), (3, _), (4, _), (26, _), (31, _)] ⟨rfl, rfl, rfl, rfl, rfl, rfl, trivial⟩ ?_
            refine w_block ?_
            refine w_loopE (α := Nat) [0, 1, 3, 26, 31] (fun j => [(4, .int .i64 j)]) [] (fun j => []) (fun j Bx => Bx = B6 ∧ j ≤ x.queue.items.length ∧ ∀ z, z ∈ x.queue.items.take j → itemKnown x.users z = true) (fun j => x.queue.items.length - j) 0 ⟨rfl, trivial⟩ rfl (⟨rfl, Nat.zero_le _, by simp⟩) (fun j B12 hle12 hI => ?_)
            obtain ⟨rfl, hj, hb⟩ := hI
            refine wTd [(0, _), (1, _), (3, _), (4, _), (26, _), (31, _)] [_] ⟨rfl, rfl, rfl, rfl, rfl, rfl, trivial⟩ rfl ?_
            refine w_seq ?_
            refine wSR ?_
            refine xMv ?_
            refine oX (wFA rfl rfl fo31x3 rfl ?_)
            refine oX (wFA rfl rfl fo29x1 rfl ?_)
            refine oX (w_load1 rfl rfl lk27 rfl (atL 0 rfl rfl rfl) ?_)
            refine oX (w_lenV rfl rfl Try.underlying27 rfl ?_)
            refine oX (w_lss rfl rfl rfl rfl ?_)
            refine wKp [(0, _), (1, _), (3, _), (4, _), (26, _), (31, _), (65, _)] ⟨rfl, rfl, rfl, rfl, rfl, rfl, rfl, trivial⟩ ?_
            refine wCd rfl (fun g8 => ?_) (fun g8 => ?_)
            · try simp only [sQ1, sQ2, sQ3, sQ4, sQ5, sQ6, sQ7, sQ8, ne_eq] at g8
              refine w_skip ?_
              refine thn_n ?_
              refine w_seq ?_
              refine w_block ?_
              refine wSR ?_
              refine oX (wFA rfl rfl fo31x3 rfl ?_)
              refine oX (wFA rfl rfl fo29x1 rfl ?_)
              refine oX (w_load1 rfl rfl lk27 rfl (atL 0 rfl rfl rfl) ?_)
              refine xMv ?_
              obtain ⟨y, hy⟩ := getLt (xs := x.queue.items) (i := j) (by first | omega | (simp; done) | (simp; omega))
              obtain ⟨bb14, oo14, rfl⟩ := hi.base hy
              obtain ⟨_, ⟨qi15, ci15, rfl, hi15, hb15, hb15b⟩, hc15⟩ := hi.elem hy
              have hi15n := hi15.len
              refine oX (w_ixB rfl rfl Try.underlying27 sz71 rfl rfl (by first | omega | (simp; done) | (simp; omega)) (by first | omega | (simp; done) | (simp; omega)) ?_)
              refine oX (w_loadN [_, _, _, _] rfl rfl lk71 rfl (rowK hc15 0 rfl rfl) ?_)
              refine oX (w_alloc (l := [_, _, _, _]) rfl rfl zo71 rfl (fun b16 => ?_))
              refine oX (w_store [_, _, _, _] 1 [_, _, _, _] rfl rfl sz71 rfl rfl rfl rfl rfl rfl rfl rfl ?_)
              refine wTd [(0, _), (1, _), (3, _), (4, _), (5, _), (26, _), (31, _), (65, _)] [_, _] ⟨rfl, rfl, rfl, rfl, rfl, rfl, rfl, rfl, trivial⟩ rfl ?_
              refine wSR ?_
              refine oX (wFA rfl rfl fo31x1 rfl ?_)
              refine oX (w_load1 rfl rfl lk23 rfl (atL 0 rfl rfl rfl) ?_)
              refine oX (wFA rfl rfl fo71x1 rfl ?_)
              refine oX (w_load1 rfl rfl lk9 rfl (atL 1 rfl rfl rfl) ?_)
              refine oX (w_retB rfl rfl en30 rfl (l14Find_c _ _ _ _ _ hu) ?_)
              refine oX (w_lss rfl rfl rfl rfl ?_)
              refine xMv ?_
              refine r_split (d := 80) rfl (fun g9 => ?_) (fun g9 => ?_)
              · try simp only [sQ1, sQ2, sQ3, sQ4, sQ5, sQ6, sQ7, sQ8, ne_eq] at g9
                refine oX (w_pass rfl rfl ?_)
                refine oX (w_pass rfl rfl ?_)
                refine oX (w_pass rfl rfl ?_)
                refine oX (w_pass rfl rfl ?_)
                refine oX (w_pass rfl rfl ?_)
                refine oX (w_pickT rfl rfl rfl rfl ?_)
                refine wKp [(0, _), (1, _), (3, _), (4, _), (5, _), (26, _), (31, _), (65, _), (86, _)] ⟨rfl, rfl, rfl, rfl, rfl, rfl, rfl, rfl, rfl, trivial⟩ ?_
                refine wCd (t := true) rfl (fun _ => ?_) (fun h => Bool.noConfusion h)
                refine wSR ?_
                refine xAs ?_
                refine wKp [(0, _), (1, _), (2, _), (3, _), (4, _), (5, _), (26, _), (31, _), (65, _), (86, _)] ⟨rfl, rfl, rfl, rfl, rfl, rfl, rfl, rfl, rfl, rfl, trivial⟩ ?_
                refine w_ret (inB_r (thn_r (rndE_r (inB_r (thn_r ?_)))))
                exact end0 .ret (.inl rfl) [_] ⟨rfl, trivial⟩ ⟨bool_eq (hostOk_item hy (itemKnown_no1 g9)).symm, rfl, rfl⟩
              · try simp only [sQ1, sQ2, sQ3, sQ4, sQ5, sQ6, sQ7, sQ8, ne_eq] at g9
                refine oX (w_loadN [_, _, _, _, _] rfl rfl lk31 rfl (rowL 0 rfl rfl rfl) ?_)
                refine oX (wFA rfl rfl fo71x3 rfl ?_)
                refine oX (w_load1 rfl rfl lk65 rfl (atL 1 rfl rfl rfl) ?_)
                refine oX (w_retB rfl rfl en31 rfl (l31Known_c _ _ _ _ _ _ x _ _ y.left _ hu hi15) ?_)
                refine oX (w_not rfl rfl rfl ?_)
                refine oX (w_pickF rfl rfl rfl rfl ?_)
                refine wKp [(0, _), (1, _), (3, _), (4, _), (5, _), (26, _), (31, _), (65, _), (86, _)] ⟨rfl, rfl, rfl, rfl, rfl, rfl, rfl, rfl, rfl, trivial⟩ ?_
                refine wCd rfl (fun ga => ?_) (fun ga => ?_)
                · try simp only [sQ1, sQ2, sQ3, sQ4, sQ5, sQ6, sQ7, sQ8, ne_eq] at ga
                  refine wSR ?_
                  refine xAs ?_
                  refine wKp [(0, _), (1, _), (2, _), (3, _), (4, _), (5, _), (26, _), (31, _), (65, _), (86, _)] ⟨rfl, rfl, rfl, rfl, rfl, rfl, rfl, rfl, rfl, rfl, trivial⟩ ?_
                  refine w_ret (inB_r (thn_r (rndE_r (inB_r (thn_r ?_)))))
                  exact end0 .ret (.inl rfl) [_] ⟨rfl, trivial⟩ ⟨bool_eq (hostOk_item hy (itemKnown_no2 ga)).symm, rfl, rfl⟩
                · try simp only [sQ1, sQ2, sQ3, sQ4, sQ5, sQ6, sQ7, sQ8, ne_eq] at ga
                  refine w_skip ?_
                  refine inB_n (thn_n ?_)
                  refine w_region ?_
                  refine xMv ?_
                  refine oX (w_add rfl rfl rfl rfl (by first | exact wrI64 (by first | omega | (simp; done) | (simp; omega)) (by first | omega | (simp; done) | (simp; omega)) | rfl) ?_)
                  refine xAs ?_
                  exact rndE_n (j + 1) [0] (by first | omega | (simp only []; omega)) ⟨rfl, by omega, all_next hy hb (itemKnown_yes g9 ga)⟩ ⟨rfl, rfl, rfl, rfl, rfl, rfl, trivial⟩ rfl
            · try simp only [sQ1, sQ2, sQ3, sQ4, sQ5, sQ6, sQ7, sQ8, ne_eq] at g8
              refine w_exit (thn_x (rndE_x (inB_hit (thn_n ?_))))
              refine wSR ?_
              refine xAs ?_
              refine wKp [(0, _), (1, _), (2, _), (3, _), (4, _), (26, _), (31, _), (65, _)] ⟨rfl, rfl, rfl, rfl, rfl, rfl, rfl, rfl, trivial⟩ ?_
              refine w_ret ?_
              exact end0 .ret (.inl rfl) [_] ⟨rfl, trivial⟩ ⟨bool_eq (hostOk_end g1 g2 g3 g4 (allB_end (take_end (by omega) ha)) (allB_end (take_end (by omega) hb))).symm, rfl, rfl⟩

set_option maxRecDepth 4000 in
set_option maxHeartbeats 400000 in
theorem implDomain_c (l : Str) (hl : l.length ≤ 2000000) (B : Kn) : RetB (pj J) 8 [str l] B (.bool (specDom l)) := by
  refine cBB 16 Try.func8 rfl rfl rfl (Nat.le_of_ble_eq_true rfl) ?_
  refine wSR ?_
  refine xAs ?_
  refine wKp [(0, _), (2, _)] ⟨rfl, rfl, trivial⟩ ?_
  refine wSR ?_
  refine xMv ?_
  refine oX (w_build (parts := [(0, _)]) [_, _] [_, _] rfl rfl pl56 zo56 rfl rfl rfl ?_)
  refine oX (w_alloc (l := [_, _]) rfl rfl zo56 rfl (fun b1 => ?_))
  refine oX (w_store [_, _] 0 [_, _] rfl rfl sz56 rfl rfl rfl rfl rfl rfl rfl rfl ?_)
  refine wTd [(0, _), (2, _), (3, _)] [_] ⟨rfl, rfl, rfl, trivial⟩ rfl ?_
  refine wSR ?_
  refine oX (w_upd1 0 rfl rfl rfl en18 rfl (domain_c _ _ 0 (by omega) (by omega) _) ?_)
  refine xMv ?_
  refine oX (w_extract rfl rfl rfl rfl ?_)
  refine oX (w_extract rfl rfl rfl rfl ?_)
  refine xAs ?_
  refine xAs ?_
  refine wKp [(0, _), (2, _), (3, _), (5, _)] ⟨rfl, rfl, rfl, rfl, trivial⟩ ?_
  refine wSR ?_
  refine xMv ?_
  refine xMv ?_
  refine r_split (d := 13) rfl (fun g1 => ?_) (fun g1 => ?_)
  · try simp only [sQ1, sQ2, sQ3, sQ4, sQ5, sQ6, sQ7, sQ8, ne_eq] at g1
    refine oX (w_ret1 0 rfl rfl rfl en19 rfl (done_c _ _ (dom l 0).2 (dom_le (Nat.zero_le _)) (by omega) _) ?_)
    refine oX (w_pickT rfl rfl rfl rfl ?_)
    refine xAs ?_
    refine wKp [(0, _), (2, _), (3, _), (5, _)] ⟨rfl, rfl, rfl, rfl, trivial⟩ ?_
    refine w_ret ?_
    exact end0 .ret (.inl rfl) [_] ⟨rfl, trivial⟩ ⟨bool_eq (by rw [Bool.eq_iff_iff, ← domOk_iff]; simp [domOk] at g1; simp [g1]; try omega), rfl, rfl⟩
  · try simp only [sQ1, sQ2, sQ3, sQ4, sQ5, sQ6, sQ7, sQ8, ne_eq] at g1
    refine oX (w_pass rfl rfl ?_)
    refine oX (w_pickF rfl rfl rfl rfl ?_)
    refine xAs ?_
    refine wKp [(0, _), (2, _), (3, _), (5, _)] ⟨rfl, rfl, rfl, rfl, trivial⟩ ?_
    refine w_ret ?_
    exact end0 .ret (.inl rfl) [_] ⟨rfl, trivial⟩ ⟨bool_eq (by symm; rw [Bool.eq_false_iff, ne_eq, ← domOk_iff]; intro hc; simp [domOk, hc.1] at g1; omega), rfl, rfl⟩

set_option maxRecDepth 4000 in
set_option maxHeartbeats 400000 in
theorem sameUsers_c (q q' : Option Addr) (cp cp' : Nat) (xs ys : List DUser) (B : Kn) (ha : SlK B q cp 3 UserR xs) (hb : SlK B q' cp' 3 UserR ys) : RetB (pj J) 15 [.slice q xs.length cp, .slice q' ys.length cp'] B (.bool (decide (xs = ys))) := by
  refine cBB 26 Try.func15 rfl rfl rfl (Nat.le_of_ble_eq_true rfl) ?_
  have han := ha.len
  have hbn := hb.len
  refine wSR ?_
  refine xAs ?_
  refine wKp [(0, _), (1, _), (4, _)] ⟨rfl, rfl, rfl, trivial⟩ ?_
  refine w_seq ?_
  refine wSR ?_
  refine xMv ?_
  refine oX (w_lenV rfl rfl Try.underlying23 rfl ?_)
  refine xMv ?_
  refine oX (w_lenV rfl rfl Try.underlying23 rfl ?_)
  refine oX (w_neqI rfl rfl rfl rfl ?_)
  refine wKp [(0, _), (1, _), (4, _), (10, _)] ⟨rfl, rfl, rfl, rfl, trivial⟩ ?_
  refine wCd rfl (fun g1 => ?_) (fun g1 => ?_)
  · try simp only [sQ1, sQ2, sQ3, sQ4, sQ5, sQ6, sQ7, sQ8, ne_eq] at g1
    refine wSR ?_
    refine xAs ?_
    refine wKp [(0, _), (1, _), (4, _), (10, _)] ⟨rfl, rfl, rfl, rfl, trivial⟩ ?_
    refine w_ret (thn_r ?_)
    exact end0 .ret (.inl rfl) [_] ⟨rfl, trivial⟩ ⟨bool_eq (eqF_len g1), rfl, rfl⟩
  · try simp only [sQ1, sQ2, sQ3, sQ4, sQ5, sQ6, sQ7, sQ8, ne_eq] at g1
    refine w_skip ?_
    refine thn_n ?_
    refine w_seq ?_
    refine wSR ?_
    refine xAs ?_
    refine wKp [(0, _), (1, _), (4, _), (5, _), (10, _)] ⟨rfl, rfl, rfl, rfl, rfl, trivial⟩ ?_
    refine w_block ?_
    refine w_loopE (α := Nat) [0, 1, 10] (fun k => [(5, .int .i64 k)]) [] (fun k => []) (fun k Bx => Bx = B ∧ k ≤ xs.length ∧ xs.take k = ys.take k) (fun k => xs.length - k) 0 ⟨rfl, trivial⟩ rfl (⟨rfl, Nat.zero_le _, by simp⟩) (fun k B1 hle1 hI => ?_)
    obtain ⟨rfl, hk, he⟩ := hI
    refine wTd [(0, _), (1, _), (5, _), (10, _)] [] ⟨rfl, rfl, rfl, rfl, trivial⟩ rfl ?_
    refine w_seq ?_
    refine wSR ?_
    refine xMv ?_
    refine xMv ?_
    refine oX (w_lenV rfl rfl Try.underlying23 rfl ?_)
    refine oX (w_lss rfl rfl rfl rfl ?_)
    refine wKp [(0, _), (1, _), (5, _), (10, _), (14, _)] ⟨rfl, rfl, rfl, rfl, rfl, trivial⟩ ?_
    refine wCd rfl (fun g2 => ?_) (fun g2 => ?_)
    · try simp only [sQ1, sQ2, sQ3, sQ4, sQ5, sQ6, sQ7, sQ8, ne_eq] at g2
      refine w_skip ?_
      refine thn_n ?_
      refine w_seq ?_
      refine w_block ?_
      refine w_seq ?_
      refine w_draw (same _ _) mo (by kernel_rfl) ⟨rfl, rfl⟩ (fun _ _ => ?_)
      refine aTP 0 rfl (by kernel_rfl) rfl (fun D B L => w_move rfl rfl rfl ⟨rfl, rfl, rfl, rfl⟩) ?_
      refine aTP 1 rfl (by kernel_rfl) rfl (fun D B L => w_move rfl rfl rfl ⟨rfl, rfl, rfl, rfl⟩) ?_
      obtain ⟨x, hx⟩ := getLt (xs := xs) (i := k) (by first | omega | (simp; done) | (simp; omega))
      obtain ⟨bb3, oo3, rfl⟩ := ha.base hx
      obtain ⟨_, ⟨rfl, hb4, hb4b⟩, hc4⟩ := ha.elem hx
      refine aTk 2 rfl (by kernel_rfl) rfl (q_of fun D => w_ixB rfl rfl Try.underlying23 sz43 rfl rfl (by first | omega | (simp; done) | (simp; omega)) (by first | omega | (simp; done) | (simp; omega)) ⟨rfl, rfl, rfl, rfl⟩) ?_
      refine aTk 3 rfl (by kernel_rfl) rfl (q_of fun D => w_loadN [_, _, _] rfl rfl lk43 rfl (rowK hc4 0 rfl rfl) ⟨rfl, rfl, rfl, rfl⟩) ?_
      refine aTP 4 rfl (by kernel_rfl) rfl (fun D B L => w_move rfl rfl rfl ⟨rfl, rfl, rfl, rfl⟩) ?_
      refine aTP 5 rfl (by kernel_rfl) rfl (fun D B L => w_move rfl rfl rfl ⟨rfl, rfl, rfl, rfl⟩) ?_
      obtain ⟨y, hy⟩ := getLt (xs := ys) (i := k) (by first | omega | (simp; done) | (simp; omega))
      obtain ⟨bb6, oo6, rfl⟩ := hb.base hy
      obtain ⟨_, ⟨rfl, hb7, hb7b⟩, hc7⟩ := hb.elem hy
      refine aTk 6 rfl (by kernel_rfl) rfl (q_of fun D => w_ixB rfl rfl Try.underlying23 sz43 rfl rfl (by first | omega | (simp; done) | (simp; omega)) (by first | omega | (simp; done) | (simp; omega)) ⟨rfl, rfl, rfl, rfl⟩) ?_
      refine aTk 7 rfl (by kernel_rfl) rfl (q_of fun D => w_loadN [_, _, _] rfl rfl lk43 rfl (rowK hc7 0 rfl rfl) ⟨rfl, rfl, rfl, rfl⟩) ?_
      refine aTk 8 rfl (by kernel_rfl) rfl (q_of fun D => w_neqF (rs := [_, _, _]) rfl rfl rfl rfl flat43 ⟨⟨_, _, rfl, rfl, eqIn_str Try.underlying9⟩, ⟨_, _, rfl, rfl, eqIn_str Try.underlying9⟩, ⟨_, _, rfl, rfl, eqIn_int Try.underlying3⟩, trivial⟩ ⟨rfl, rfl, rfl, rfl⟩) ?_
      refine any_done (by kernel_rfl) (by kernel_rfl) ?_
      refine thn_n ?_
      refine wKp [(0, _), (1, _), (5, _), (10, _), (14, _), (25, _)] ⟨rfl, rfl, rfl, rfl, rfl, rfl, trivial⟩ ?_
      refine wCd rfl (fun g3 => ?_) (fun g3 => ?_)
      · try simp only [sQ1, sQ2, sQ3, sQ4, sQ5, sQ6, sQ7, sQ8, ne_eq] at g3
        refine wSR ?_
        refine xAs ?_
        refine wKp [(0, _), (1, _), (4, _), (5, _), (10, _), (14, _), (25, _)] ⟨rfl, rfl, rfl, rfl, rfl, rfl, rfl, trivial⟩ ?_
        refine w_ret (inB_r (thn_r (rndE_r (inB_r (thn_r ?_)))))
        exact end0 .ret (.inl rfl) [_] ⟨rfl, trivial⟩ ⟨bool_eq (eqF_elem hx hy (by rintro rfl; simp at g3)), rfl, rfl⟩
      · try simp only [sQ1, sQ2, sQ3, sQ4, sQ5, sQ6, sQ7, sQ8, ne_eq] at g3
        refine w_skip ?_
        refine inB_n (thn_n ?_)
        refine w_region ?_
        refine xMv ?_
        refine oX (w_add rfl rfl rfl rfl (by first | exact wrI64 (by first | omega | (simp; done) | (simp; omega)) (by first | omega | (simp; done) | (simp; omega)) | rfl) ?_)
        refine xAs ?_
        exact rndE_n (k + 1) [] (by first | omega | (simp only []; omega)) ⟨rfl, by omega, take_eq_next hx hy (by cases x; cases y; simpa [and_assoc] using g3) he⟩ ⟨rfl, rfl, rfl, rfl, trivial⟩ rfl
    · try simp only [sQ1, sQ2, sQ3, sQ4, sQ5, sQ6, sQ7, sQ8, ne_eq] at g2
      refine w_exit (thn_x (rndE_x (inB_hit (thn_n ?_))))
      refine wSR ?_
      refine xAs ?_
      refine wKp [(0, _), (1, _), (4, _), (5, _), (10, _), (14, _)] ⟨rfl, rfl, rfl, rfl, rfl, rfl, trivial⟩ ?_
      refine w_ret ?_
      exact end0 .ret (.inl rfl) [_] ⟨rfl, trivial⟩ ⟨bool_eq (eqT (by omega) (by omega) he), rfl, rfl⟩

set_option maxRecDepth 4000 in
set_option maxHeartbeats 400000 in
theorem sameGrants_c (q q' : Option Addr) (cp cp' : Nat) (xs ys : List DGrant) (B : Kn) (ha : SlK B q cp 2 GrantR xs) (hb : SlK B q' cp' 2 GrantR ys) : RetB (pj J) 45 [.slice q xs.length cp, .slice q' ys.length cp'] B (.bool (decide (xs = ys))) := by
  refine cBB 26 Try.func45 rfl rfl rfl (Nat.le_of_ble_eq_true rfl) ?_
  have han := ha.len
  have hbn := hb.len
  refine wSR ?_
  refine xAs ?_
  refine wKp [(0, _), (1, _), (4, _)] ⟨rfl, rfl, rfl, trivial⟩ ?_
  refine w_seq ?_
  refine wSR ?_
  refine xMv ?_
  refine oX (w_lenV rfl rfl Try.underlying44 rfl ?_)
  refine xMv ?_
  refine oX (w_lenV rfl rfl Try.underlying44 rfl ?_)
  refine oX (w_neqI rfl rfl rfl rfl ?_)
  refine wKp [(0, _), (1, _), (4, _), (10, _)] ⟨rfl, rfl, rfl, rfl, trivial⟩ ?_
  refine wCd rfl (fun g1 => ?_) (fun g1 => ?_)
  · try simp only [sQ1, sQ2, sQ3, sQ4, sQ5, sQ6, sQ7, sQ8, ne_eq] at g1
    refine wSR ?_
    refine xAs ?_
    refine wKp [(0, _), (1, _), (4, _), (10, _)] ⟨rfl, rfl, rfl, rfl, trivial⟩ ?_
    refine w_ret (thn_r ?_)
    exact end0 .ret (.inl rfl) [_] ⟨rfl, trivial⟩ ⟨bool_eq (eqF_len g1), rfl, rfl⟩
  · try simp only [sQ1, sQ2, sQ3, sQ4, sQ5, sQ6, sQ7, sQ8, ne_eq] at g1
    refine w_skip ?_
    refine thn_n ?_
    refine w_seq ?_
    refine wSR ?_
    refine xAs ?_
    refine wKp [(0, _), (1, _), (4, _), (5, _), (10, _)] ⟨rfl, rfl, rfl, rfl, rfl, trivial⟩ ?_
    refine w_block ?_
    refine w_loopE (α := Nat) [0, 1, 10] (fun k => [(5, .int .i64 k)]) [] (fun k => []) (fun k Bx => Bx = B ∧ k ≤ xs.length ∧ xs.take k = ys.take k) (fun k => xs.length - k) 0 ⟨rfl, trivial⟩ rfl (⟨rfl, Nat.zero_le _, by simp⟩) (fun k B1 hle1 hI => ?_)
    obtain ⟨rfl, hk, he⟩ := hI
    refine wTd [(0, _), (1, _), (5, _), (10, _)] [] ⟨rfl, rfl, rfl, rfl, trivial⟩ rfl ?_
    refine w_seq ?_
    refine wSR ?_
    refine xMv ?_
    refine xMv ?_
    refine oX (w_lenV rfl rfl Try.underlying44 rfl ?_)
    refine oX (w_lss rfl rfl rfl rfl ?_)
    refine wKp [(0, _), (1, _), (5, _), (10, _), (14, _)] ⟨rfl, rfl, rfl, rfl, rfl, trivial⟩ ?_
    refine wCd rfl (fun g2 => ?_) (fun g2 => ?_)
    · try simp only [sQ1, sQ2, sQ3, sQ4, sQ5, sQ6, sQ7, sQ8, ne_eq] at g2
      refine w_skip ?_
      refine thn_n ?_
      refine w_seq ?_
      refine w_block ?_
      refine w_seq ?_
      refine w_draw (same _ _) mo (by kernel_rfl) ⟨rfl, rfl⟩ (fun _ _ => ?_)
      refine aTP 0 rfl (by kernel_rfl) rfl (fun D B L => w_move rfl rfl rfl ⟨rfl, rfl, rfl, rfl⟩) ?_
      refine aTP 1 rfl (by kernel_rfl) rfl (fun D B L => w_move rfl rfl rfl ⟨rfl, rfl, rfl, rfl⟩) ?_
      obtain ⟨x, hx⟩ := getLt (xs := xs) (i := k) (by first | omega | (simp; done) | (simp; omega))
      obtain ⟨bb3, oo3, rfl⟩ := ha.base hx
      obtain ⟨_, ⟨rfl, hb4⟩, hc4⟩ := ha.elem hx
      refine aTk 2 rfl (by kernel_rfl) rfl (q_of fun D => w_ixB rfl rfl Try.underlying44 sz90 rfl rfl (by first | omega | (simp; done) | (simp; omega)) (by first | omega | (simp; done) | (simp; omega)) ⟨rfl, rfl, rfl, rfl⟩) ?_
      refine aTk 3 rfl (by kernel_rfl) rfl (q_of fun D => w_loadN [_, _] rfl rfl lk90 rfl (rowK hc4 0 rfl rfl) ⟨rfl, rfl, rfl, rfl⟩) ?_
      refine aTP 4 rfl (by kernel_rfl) rfl (fun D B L => w_move rfl rfl rfl ⟨rfl, rfl, rfl, rfl⟩) ?_
      refine aTP 5 rfl (by kernel_rfl) rfl (fun D B L => w_move rfl rfl rfl ⟨rfl, rfl, rfl, rfl⟩) ?_
      obtain ⟨y, hy⟩ := getLt (xs := ys) (i := k) (by first | omega | (simp; done) | (simp; omega))
      obtain ⟨bb6, oo6, rfl⟩ := hb.base hy
      obtain ⟨_, ⟨rfl, hb7⟩, hc7⟩ := hb.elem hy
      refine aTk 6 rfl (by kernel_rfl) rfl (q_of fun D => w_ixB rfl rfl Try.underlying44 sz90 rfl rfl (by first | omega | (simp; done) | (simp; omega)) (by first | omega | (simp; done) | (simp; omega)) ⟨rfl, rfl, rfl, rfl⟩) ?_
      refine aTk 7 rfl (by kernel_rfl) rfl (q_of fun D => w_loadN [_, _] rfl rfl lk90 rfl (rowK hc7 0 rfl rfl) ⟨rfl, rfl, rfl, rfl⟩) ?_
      refine aTk 8 rfl (by kernel_rfl) rfl (q_of fun D => w_neqF (rs := [_, _]) rfl rfl rfl rfl flat90 ⟨⟨_, _, rfl, rfl, eqIn_str Try.underlying9⟩, ⟨_, _, rfl, rfl, eqIn_int Try.underlying3⟩, trivial⟩ ⟨rfl, rfl, rfl, rfl⟩) ?_
      refine any_done (by kernel_rfl) (by kernel_rfl) ?_
      refine thn_n ?_
      refine wKp [(0, _), (1, _), (5, _), (10, _), (14, _), (25, _)] ⟨rfl, rfl, rfl, rfl, rfl, rfl, trivial⟩ ?_
      refine wCd rfl (fun g3 => ?_) (fun g3 => ?_)
      · try simp only [sQ1, sQ2, sQ3, sQ4, sQ5, sQ6, sQ7, sQ8, ne_eq] at g3
        refine wSR ?_
        refine xAs ?_
        refine wKp [(0, _), (1, _), (4, _), (5, _), (10, _), (14, _), (25, _)] ⟨rfl, rfl, rfl, rfl, rfl, rfl, rfl, trivial⟩ ?_
        refine w_ret (inB_r (thn_r (rndE_r (inB_r (thn_r ?_)))))
        exact end0 .ret (.inl rfl) [_] ⟨rfl, trivial⟩ ⟨bool_eq (eqF_elem hx hy (by rintro rfl; simp at g3)), rfl, rfl⟩
      · try simp only [sQ1, sQ2, sQ3, sQ4, sQ5, sQ6, sQ7, sQ8, ne_eq] at g3
        refine w_skip ?_
        refine inB_n (thn_n ?_)
        refine w_region ?_
        refine xMv ?_
        refine oX (w_add rfl rfl rfl rfl (by first | exact wrI64 (by first | omega | (simp; done) | (simp; omega)) (by first | omega | (simp; done) | (simp; omega)) | rfl) ?_)
        refine xAs ?_
        exact rndE_n (k + 1) [] (by first | omega | (simp only []; omega)) ⟨rfl, by omega, take_eq_next hx hy (by cases x; cases y; simpa [and_assoc] using g3) he⟩ ⟨rfl, rfl, rfl, rfl, trivial⟩ rfl
    · try simp only [sQ1, sQ2, sQ3, sQ4, sQ5, sQ6, sQ7, sQ8, ne_eq] at g2
      refine w_exit (thn_x (rndE_x (inB_hit (thn_n ?_))))
      refine wSR ?_
      refine xAs ?_
      refine wKp [(0, _), (1, _), (4, _), (5, _), (10, _), (14, _)] ⟨rfl, rfl, rfl, rfl, rfl, rfl, trivial⟩ ?_
      refine w_ret ?_
      exact end0 .ret (.inl rfl) [_] ⟨rfl, trivial⟩ ⟨bool_eq (eqT (by omega) (by omega) he), rfl, rfl⟩

set_option maxRecDepth 4000 in
set_option maxHeartbeats 400000 in
theorem sameMail_c (q q' : Option Addr) (cp cp' : Nat) (xs ys : List DMail) (B : Kn) (ha : SlK B q cp 3 MailR xs) (hb : SlK B q' cp' 3 MailR ys) : RetB (pj J) 50 [.slice q xs.length cp, .slice q' ys.length cp'] B (.bool (decide (xs = ys))) := by
  refine cBB 26 Try.func50 rfl rfl rfl (Nat.le_of_ble_eq_true rfl) ?_
  have han := ha.len
  have hbn := hb.len
  refine wSR ?_
  refine xAs ?_
  refine wKp [(0, _), (1, _), (4, _)] ⟨rfl, rfl, rfl, trivial⟩ ?_
  refine w_seq ?_
  refine wSR ?_
  refine xMv ?_
  refine oX (w_lenV rfl rfl Try.underlying45 rfl ?_)
  refine xMv ?_
  refine oX (w_lenV rfl rfl Try.underlying45 rfl ?_)
  refine oX (w_neqI rfl rfl rfl rfl ?_)
  refine wKp [(0, _), (1, _), (4, _), (10, _)] ⟨rfl, rfl, rfl, rfl, trivial⟩ ?_
  refine wCd rfl (fun g1 => ?_) (fun g1 => ?_)
  · try simp only [sQ1, sQ2, sQ3, sQ4, sQ5, sQ6, sQ7, sQ8, ne_eq] at g1
    refine wSR ?_
    refine xAs ?_
    refine wKp [(0, _), (1, _), (4, _), (10, _)] ⟨rfl, rfl, rfl, rfl, trivial⟩ ?_
    refine w_ret (thn_r ?_)
    exact end0 .ret (.inl rfl) [_] ⟨rfl, trivial⟩ ⟨bool_eq (eqF_len g1), rfl, rfl⟩
  · try simp only [sQ1, sQ2, sQ3, sQ4, sQ5, sQ6, sQ7, sQ8, ne_eq] at g1
    refine w_skip ?_
    refine thn_n ?_
    refine w_seq ?_
    refine wSR ?_
    refine xAs ?_
    refine wKp [(0, _), (1, _), (4, _), (5, _), (10, _)] ⟨rfl, rfl, rfl, rfl, rfl, trivial⟩ ?_
    refine w_block ?_
    refine w_loopE (α := Nat) [0, 1, 10] (fun k => [(5, .int .i64 k)]) [] (fun k => []) (fun k Bx => Bx = B ∧ k ≤ xs.length ∧ xs.take k = ys.take k) (fun k => xs.length - k) 0 ⟨rfl, trivial⟩ rfl (⟨rfl, Nat.zero_le _, by simp⟩) (fun k B1 hle1 hI => ?_)
    obtain ⟨rfl, hk, he⟩ := hI
    refine wTd [(0, _), (1, _), (5, _), (10, _)] [] ⟨rfl, rfl, rfl, rfl, trivial⟩ rfl ?_
    refine w_seq ?_
    refine wSR ?_
    refine xMv ?_
    refine xMv ?_
    refine oX (w_lenV rfl rfl Try.underlying45 rfl ?_)
    refine oX (w_lss rfl rfl rfl rfl ?_)
    refine wKp [(0, _), (1, _), (5, _), (10, _), (14, _)] ⟨rfl, rfl, rfl, rfl, rfl, trivial⟩ ?_
    refine wCd rfl (fun g2 => ?_) (fun g2 => ?_)
    · try simp only [sQ1, sQ2, sQ3, sQ4, sQ5, sQ6, sQ7, sQ8, ne_eq] at g2
      refine w_skip ?_
      refine thn_n ?_
      refine w_seq ?_
      refine w_block ?_
      refine w_seq ?_
      refine w_draw (same _ _) mo (by kernel_rfl) ⟨rfl, rfl⟩ (fun _ _ => ?_)
      refine aTP 0 rfl (by kernel_rfl) rfl (fun D B L => w_move rfl rfl rfl ⟨rfl, rfl, rfl, rfl⟩) ?_
      refine aTP 1 rfl (by kernel_rfl) rfl (fun D B L => w_move rfl rfl rfl ⟨rfl, rfl, rfl, rfl⟩) ?_
      obtain ⟨x, hx⟩ := getLt (xs := xs) (i := k) (by first | omega | (simp; done) | (simp; omega))
      obtain ⟨bb3, oo3, rfl⟩ := ha.base hx
      obtain ⟨_, ⟨rfl, hb4⟩, hc4⟩ := ha.elem hx
      refine aTk 2 rfl (by kernel_rfl) rfl (q_of fun D => w_ixB rfl rfl Try.underlying45 sz93 rfl rfl (by first | omega | (simp; done) | (simp; omega)) (by first | omega | (simp; done) | (simp; omega)) ⟨rfl, rfl, rfl, rfl⟩) ?_
      refine aTk 3 rfl (by kernel_rfl) rfl (q_of fun D => w_loadN [_, _, _] rfl rfl lk93 rfl (rowK hc4 0 rfl rfl) ⟨rfl, rfl, rfl, rfl⟩) ?_
      refine aTP 4 rfl (by kernel_rfl) rfl (fun D B L => w_move rfl rfl rfl ⟨rfl, rfl, rfl, rfl⟩) ?_
      refine aTP 5 rfl (by kernel_rfl) rfl (fun D B L => w_move rfl rfl rfl ⟨rfl, rfl, rfl, rfl⟩) ?_
      obtain ⟨y, hy⟩ := getLt (xs := ys) (i := k) (by first | omega | (simp; done) | (simp; omega))
      obtain ⟨bb6, oo6, rfl⟩ := hb.base hy
      obtain ⟨_, ⟨rfl, hb7⟩, hc7⟩ := hb.elem hy
      refine aTk 6 rfl (by kernel_rfl) rfl (q_of fun D => w_ixB rfl rfl Try.underlying45 sz93 rfl rfl (by first | omega | (simp; done) | (simp; omega)) (by first | omega | (simp; done) | (simp; omega)) ⟨rfl, rfl, rfl, rfl⟩) ?_
      refine aTk 7 rfl (by kernel_rfl) rfl (q_of fun D => w_loadN [_, _, _] rfl rfl lk93 rfl (rowK hc7 0 rfl rfl) ⟨rfl, rfl, rfl, rfl⟩) ?_
      refine aTk 8 rfl (by kernel_rfl) rfl (q_of fun D => w_neqF (rs := [_, _, _]) rfl rfl rfl rfl flat93 ⟨⟨_, _, rfl, rfl, eqIn_int Try.underlying3⟩, ⟨_, _, rfl, rfl, eqIn_int Try.underlying3⟩, ⟨_, _, rfl, rfl, eqIn_str Try.underlying9⟩, trivial⟩ ⟨rfl, rfl, rfl, rfl⟩) ?_
      refine any_done (by kernel_rfl) (by kernel_rfl) ?_
      refine thn_n ?_
      refine wKp [(0, _), (1, _), (5, _), (10, _), (14, _), (25, _)] ⟨rfl, rfl, rfl, rfl, rfl, rfl, trivial⟩ ?_
      refine wCd rfl (fun g3 => ?_) (fun g3 => ?_)
      · try simp only [sQ1, sQ2, sQ3, sQ4, sQ5, sQ6, sQ7, sQ8, ne_eq] at g3
        refine wSR ?_
        refine xAs ?_
        refine wKp [(0, _), (1, _), (4, _), (5, _), (10, _), (14, _), (25, _)] ⟨rfl, rfl, rfl, rfl, rfl, rfl, rfl, trivial⟩ ?_
        refine w_ret (inB_r (thn_r (rndE_r (inB_r (thn_r ?_)))))
        exact end0 .ret (.inl rfl) [_] ⟨rfl, trivial⟩ ⟨bool_eq (eqF_elem hx hy (by rintro rfl; simp at g3)), rfl, rfl⟩
      · try simp only [sQ1, sQ2, sQ3, sQ4, sQ5, sQ6, sQ7, sQ8, ne_eq] at g3
        refine w_skip ?_
        refine inB_n (thn_n ?_)
        refine w_region ?_
        refine xMv ?_
        refine oX (w_add rfl rfl rfl rfl (by first | exact wrI64 (by first | omega | (simp; done) | (simp; omega)) (by first | omega | (simp; done) | (simp; omega)) | rfl) ?_)
        refine xAs ?_
        exact rndE_n (k + 1) [] (by first | omega | (simp only []; omega)) ⟨rfl, by omega, take_eq_next hx hy (by cases x; cases y; simpa [and_assoc] using g3) he⟩ ⟨rfl, rfl, rfl, rfl, trivial⟩ rfl
    · try simp only [sQ1, sQ2, sQ3, sQ4, sQ5, sQ6, sQ7, sQ8, ne_eq] at g2
      refine w_exit (thn_x (rndE_x (inB_hit (thn_n ?_))))
      refine wSR ?_
      refine xAs ?_
      refine wKp [(0, _), (1, _), (4, _), (5, _), (10, _), (14, _)] ⟨rfl, rfl, rfl, rfl, rfl, rfl, trivial⟩ ?_
      refine w_ret ?_
      exact end0 .ret (.inl rfl) [_] ⟨rfl, trivial⟩ ⟨bool_eq (eqT (by omega) (by omega) he), rfl, rfl⟩

set_option maxRecDepth 4000 in
set_option maxHeartbeats 400000 in
theorem sameBox_c (q1 : Option Addr) (c1 : Nat) (q2 : Option Addr) (c2 : Nat) (a b : DBox) (B : Kn) (h1 : SlK B q1 c1 3 MailR a.mail) (h2 : SlK B q2 c2 3 MailR b.mail) : RetB (pj J) 46 [.agg #[.int .i64 a.next, .slice q1 a.mail.length c1], .agg #[.int .i64 b.next, .slice q2 b.mail.length c2]] B (.bool (decide (a = b))) := by
  refine cBB 17 Try.func46 rfl rfl rfl (Nat.le_of_ble_eq_true rfl) ?_
  refine wSR ?_
  refine oX (w_box (l := [_, _]) rfl rfl rfl rfl (fun b1 => ?_))
  refine oX (w_box (l := [_, _]) rfl rfl rfl rfl (fun b2 => ?_))
  refine xAs ?_
  refine wTd [(0, _), (1, _), (2, _), (3, _), (4, _)] [_, _] ⟨rfl, rfl, rfl, rfl, rfl, trivial⟩ rfl ?_
  refine wSR ?_
  refine oX (wFA rfl rfl fo47x0 rfl ?_)
  refine oX (w_load1 rfl rfl lk3 rfl (atL 0 rfl rfl rfl) ?_)
  refine oX (wFA rfl rfl fo47x0 rfl ?_)
  refine oX (w_load1 rfl rfl lk3 rfl (atL 1 rfl rfl rfl) ?_)
  refine oX (w_eqlI rfl rfl rfl rfl ?_)
  refine xMv ?_
  refine r_split (d := 10) rfl (fun g1 => ?_) (fun g1 => ?_)
  · try simp only [sQ1, sQ2, sQ3, sQ4, sQ5, sQ6, sQ7, sQ8, ne_eq] at g1
    refine oX (wFA rfl rfl fo47x1 rfl ?_)
    refine oX (w_load1 rfl rfl lk45 rfl (atL 0 rfl rfl rfl) ?_)
    refine oX (wFA rfl rfl fo47x1 rfl ?_)
    refine oX (w_load1 rfl rfl lk45 rfl (atL 1 rfl rfl rfl) ?_)
    refine oX (w_retB rfl rfl en50 rfl (sameMail_c _ _ _ _ _ _ _ h1 h2) ?_)
    refine oX (w_pickT rfl rfl rfl rfl ?_)
    refine xAs ?_
    refine wKp [(0, _), (1, _), (2, _), (3, _), (4, _)] ⟨rfl, rfl, rfl, rfl, rfl, trivial⟩ ?_
    refine w_ret ?_
    exact end0 .ret (.inl rfl) [_] ⟨rfl, trivial⟩ ⟨bool_eq (by cases a; cases b; simp_all), rfl, rfl⟩
  · try simp only [sQ1, sQ2, sQ3, sQ4, sQ5, sQ6, sQ7, sQ8, ne_eq] at g1
    refine oX (w_pass rfl rfl ?_)
    refine oX (w_pass rfl rfl ?_)
    refine oX (w_pass rfl rfl ?_)
    refine oX (w_pass rfl rfl ?_)
    refine oX (w_pass rfl rfl ?_)
    refine oX (w_pickF rfl rfl rfl rfl ?_)
    refine xAs ?_
    refine wKp [(0, _), (1, _), (2, _), (3, _), (4, _)] ⟨rfl, rfl, rfl, rfl, rfl, trivial⟩ ?_
    refine w_ret ?_
    exact end0 .ret (.inl rfl) [_] ⟨rfl, trivial⟩ ⟨bool_eq (by cases a; cases b; simp_all), rfl, rfl⟩

set_option maxRecDepth 4000 in
set_option maxHeartbeats 400000 in
theorem sameFolder_c (qa1 qb1 : Option Addr) (ca1 cb1 : Nat) (qa2 qb2 : Option Addr) (ca2 cb2 : Nat) (a b : DFolder) (B : Kn) (hg1 : SlK B qa1 ca1 2 GrantR a.grants) (hm1 : SlK B qb1 cb1 3 MailR a.mail) (hg2 : SlK B qa2 ca2 2 GrantR b.grants) (hm2 : SlK B qb2 cb2 3 MailR b.mail) : RetB (pj J) 32 [.agg #[str a.owner, str a.name, .slice qa1 a.grants.length ca1, .int .i64 a.next, .slice qb1 a.mail.length cb1], .agg #[str b.owner, str b.name, .slice qa2 b.grants.length ca2, .int .i64 b.next, .slice qb2 b.mail.length cb2]] B (.bool (decide (a = b))) := by
  refine cBB 31 Try.func32 rfl rfl rfl (Nat.le_of_ble_eq_true rfl) ?_
  refine wSR ?_
  refine oX (w_box (l := [_, _, _, _, _]) rfl rfl rfl rfl (fun b1 => ?_))
  refine oX (w_box (l := [_, _, _, _, _]) rfl rfl rfl rfl (fun b2 => ?_))
  refine xAs ?_
  refine wTd [(0, _), (1, _), (2, _), (3, _), (4, _)] [_, _] ⟨rfl, rfl, rfl, rfl, rfl, trivial⟩ rfl ?_
  refine wSR ?_
  refine oX (wFA rfl rfl fo49x0 rfl ?_)
  refine oX (w_load1 rfl rfl lk9 rfl (atL 0 rfl rfl rfl) ?_)
  refine oX (wFA rfl rfl fo49x0 rfl ?_)
  refine oX (w_load1 rfl rfl lk9 rfl (atL 1 rfl rfl rfl) ?_)
  refine oX (w_eqlS rfl rfl rfl rfl ?_)
  refine xMv ?_
  refine r_split (d := 10) rfl (fun g1 => ?_) (fun g1 => ?_)
  · try simp only [sQ1, sQ2, sQ3, sQ4, sQ5, sQ6, sQ7, sQ8, ne_eq] at g1
    refine oX (wFA rfl rfl fo49x1 rfl ?_)
    refine oX (w_load1 rfl rfl lk9 rfl (atL 0 rfl rfl rfl) ?_)
    refine oX (wFA rfl rfl fo49x1 rfl ?_)
    refine oX (w_load1 rfl rfl lk9 rfl (atL 1 rfl rfl rfl) ?_)
    refine oX (w_eqlS rfl rfl rfl rfl ?_)
    refine oX (w_pickT rfl rfl rfl rfl ?_)
    refine xMv ?_
    refine r_split (d := 17) rfl (fun g2 => ?_) (fun g2 => ?_)
    · try simp only [sQ1, sQ2, sQ3, sQ4, sQ5, sQ6, sQ7, sQ8, ne_eq] at g2
      refine oX (wFA rfl rfl fo49x2 rfl ?_)
      refine oX (w_load1 rfl rfl lk44 rfl (atL 0 rfl rfl rfl) ?_)
      refine oX (wFA rfl rfl fo49x2 rfl ?_)
      refine oX (w_load1 rfl rfl lk44 rfl (atL 1 rfl rfl rfl) ?_)
      refine oX (w_retB rfl rfl en45 rfl (sameGrants_c _ _ _ _ _ _ _ hg1 hg2) ?_)
      refine oX (w_pickT rfl rfl rfl rfl ?_)
      refine xMv ?_
      refine r_split (d := 24) rfl (fun g3 => ?_) (fun g3 => ?_)
      · try simp only [sQ1, sQ2, sQ3, sQ4, sQ5, sQ6, sQ7, sQ8, ne_eq] at g3
        refine oX (wFA rfl rfl fo49x3 rfl ?_)
        refine oX (w_loadN [_, _] rfl rfl lk47 rfl (rowL 0 rfl rfl rfl) ?_)
        refine oX (wFA rfl rfl fo49x3 rfl ?_)
        refine oX (w_loadN [_, _] rfl rfl lk47 rfl (rowL 1 rfl rfl rfl) ?_)
        refine oX (w_retB rfl rfl en46 rfl (sameBox_c _ _ _ _ (⟨a.next, a.mail⟩ : DBox) (⟨b.next, b.mail⟩ : DBox) _ hm1 hm2) ?_)
        refine oX (w_pickT rfl rfl rfl rfl ?_)
        refine xAs ?_
        refine wKp [(0, _), (1, _), (2, _), (3, _), (4, _)] ⟨rfl, rfl, rfl, rfl, rfl, trivial⟩ ?_
        refine w_ret ?_
        exact end0 .ret (.inl rfl) [_] ⟨rfl, trivial⟩ ⟨bool_eq (by cases a; cases b; simp_all), rfl, rfl⟩
      · try simp only [sQ1, sQ2, sQ3, sQ4, sQ5, sQ6, sQ7, sQ8, ne_eq] at g3
        refine oX (w_pass rfl rfl ?_)
        refine oX (w_pass rfl rfl ?_)
        refine oX (w_pass rfl rfl ?_)
        refine oX (w_pass rfl rfl ?_)
        refine oX (w_pass rfl rfl ?_)
        refine oX (w_pickF rfl rfl rfl rfl ?_)
        refine xAs ?_
        refine wKp [(0, _), (1, _), (2, _), (3, _), (4, _)] ⟨rfl, rfl, rfl, rfl, rfl, trivial⟩ ?_
        refine w_ret ?_
        exact end0 .ret (.inl rfl) [_] ⟨rfl, trivial⟩ ⟨bool_eq (by cases a; cases b; simp_all), rfl, rfl⟩
    · try simp only [sQ1, sQ2, sQ3, sQ4, sQ5, sQ6, sQ7, sQ8, ne_eq] at g2
      refine oX (w_pass rfl rfl ?_)
      refine oX (w_pass rfl rfl ?_)
      refine oX (w_pass rfl rfl ?_)
      refine oX (w_pass rfl rfl ?_)
      refine oX (w_pass rfl rfl ?_)
      refine oX (w_pickF rfl rfl rfl rfl ?_)
      refine xMv ?_
      refine oX (w_pass rfl rfl ?_)
      refine oX (w_pass rfl rfl ?_)
      refine oX (w_pass rfl rfl ?_)
      refine oX (w_pass rfl rfl ?_)
      refine oX (w_pass rfl rfl ?_)
      refine oX (w_pickF rfl rfl rfl rfl ?_)
      refine xAs ?_
      refine wKp [(0, _), (1, _), (2, _), (3, _), (4, _)] ⟨rfl, rfl, rfl, rfl, rfl, trivial⟩ ?_
      refine w_ret ?_
      exact end0 .ret (.inl rfl) [_] ⟨rfl, trivial⟩ ⟨bool_eq (by cases a; cases b; simp_all), rfl, rfl⟩
  · try simp only [sQ1, sQ2, sQ3, sQ4, sQ5, sQ6, sQ7, sQ8, ne_eq] at g1
    refine oX (w_pass rfl rfl ?_)
    refine oX (w_pass rfl rfl ?_)
    refine oX (w_pass rfl rfl ?_)
    refine oX (w_pass rfl rfl ?_)
    refine oX (w_pass rfl rfl ?_)
    refine oX (w_pickF rfl rfl rfl rfl ?_)
    refine xMv ?_
    refine oX (w_pass rfl rfl ?_)
    refine oX (w_pass rfl rfl ?_)
    refine oX (w_pass rfl rfl ?_)
    refine oX (w_pass rfl rfl ?_)
    refine oX (w_pass rfl rfl ?_)
    refine oX (w_pickF rfl rfl rfl rfl ?_)
    refine xMv ?_
    refine oX (w_pass rfl rfl ?_)
    refine oX (w_pass rfl rfl ?_)
    refine oX (w_pass rfl rfl ?_)
    refine oX (w_pass rfl rfl ?_)
    refine oX (w_pass rfl rfl ?_)
    refine oX (w_pickF rfl rfl rfl rfl ?_)
    refine xAs ?_
    refine wKp [(0, _), (1, _), (2, _), (3, _), (4, _)] ⟨rfl, rfl, rfl, rfl, rfl, trivial⟩ ?_
    refine w_ret ?_
    exact end0 .ret (.inl rfl) [_] ⟨rfl, trivial⟩ ⟨bool_eq (by cases a; cases b; simp_all), rfl, rfl⟩

set_option maxRecDepth 4000 in
set_option maxHeartbeats 400000 in
theorem sameFolders_c (q q' : Option Addr) (cp cp' : Nat) (xs ys : List DFolder) (B : Kn) (ha : SlK B q cp 5 FolderR xs) (hb : SlK B q' cp' 5 FolderR ys) : RetB (pj J) 16 [.slice q xs.length cp, .slice q' ys.length cp'] B (.bool (decide (xs = ys))) := by
  refine cBB 27 Try.func16 rfl rfl rfl (Nat.le_of_ble_eq_true rfl) ?_
  have han := ha.len
  have hbn := hb.len
  refine wSR ?_
  refine xAs ?_
  refine wKp [(0, _), (1, _), (4, _)] ⟨rfl, rfl, rfl, trivial⟩ ?_
  refine w_seq ?_
  refine wSR ?_
  refine xMv ?_
  refine oX (w_lenV rfl rfl Try.underlying26 rfl ?_)
  refine xMv ?_
  refine oX (w_lenV rfl rfl Try.underlying26 rfl ?_)
  refine oX (w_neqI rfl rfl rfl rfl ?_)
  refine wKp [(0, _), (1, _), (4, _), (10, _)] ⟨rfl, rfl, rfl, rfl, trivial⟩ ?_
  refine wCd rfl (fun g1 => ?_) (fun g1 => ?_)
  · try simp only [sQ1, sQ2, sQ3, sQ4, sQ5, sQ6, sQ7, sQ8, ne_eq] at g1
    refine wSR ?_
    refine xAs ?_
    refine wKp [(0, _), (1, _), (4, _), (10, _)] ⟨rfl, rfl, rfl, rfl, trivial⟩ ?_
    refine w_ret (thn_r ?_)
    exact end0 .ret (.inl rfl) [_] ⟨rfl, trivial⟩ ⟨bool_eq (eqF_len g1), rfl, rfl⟩
  · try simp only [sQ1, sQ2, sQ3, sQ4, sQ5, sQ6, sQ7, sQ8, ne_eq] at g1
    refine w_skip ?_
    refine thn_n ?_
    refine w_seq ?_
    refine wSR ?_
    refine xAs ?_
    refine wKp [(0, _), (1, _), (4, _), (5, _), (10, _)] ⟨rfl, rfl, rfl, rfl, rfl, trivial⟩ ?_
    refine w_block ?_
    refine w_loopE (α := Nat) [0, 1, 10] (fun k => [(5, .int .i64 k)]) [] (fun k => []) (fun k Bx => Bx = B ∧ k ≤ xs.length ∧ xs.take k = ys.take k) (fun k => xs.length - k) 0 ⟨rfl, trivial⟩ rfl (⟨rfl, Nat.zero_le _, by simp⟩) (fun k B1 hle1 hI => ?_)
    obtain ⟨rfl, hk, he⟩ := hI
    refine wTd [(0, _), (1, _), (5, _), (10, _)] [] ⟨rfl, rfl, rfl, rfl, trivial⟩ rfl ?_
    refine w_seq ?_
    refine wSR ?_
    refine xMv ?_
    refine xMv ?_
    refine oX (w_lenV rfl rfl Try.underlying26 rfl ?_)
    refine oX (w_lss rfl rfl rfl rfl ?_)
    refine wKp [(0, _), (1, _), (5, _), (10, _), (14, _)] ⟨rfl, rfl, rfl, rfl, rfl, trivial⟩ ?_
    refine wCd rfl (fun g2 => ?_) (fun g2 => ?_)
    · try simp only [sQ1, sQ2, sQ3, sQ4, sQ5, sQ6, sQ7, sQ8, ne_eq] at g2
      refine w_skip ?_
      refine thn_n ?_
      refine w_seq ?_
      refine w_block ?_
      refine w_seq ?_
      refine w_draw (same _ _) mo (by kernel_rfl) ⟨rfl, rfl⟩ (fun _ _ => ?_)
      refine aTP 0 rfl (by kernel_rfl) rfl (fun D B L => w_move rfl rfl rfl ⟨rfl, rfl, rfl, rfl⟩) ?_
      refine aTP 1 rfl (by kernel_rfl) rfl (fun D B L => w_move rfl rfl rfl ⟨rfl, rfl, rfl, rfl⟩) ?_
      obtain ⟨x, hx⟩ := getLt (xs := xs) (i := k) (by first | omega | (simp; done) | (simp; omega))
      obtain ⟨bb3, oo3, rfl⟩ := ha.base hx
      obtain ⟨_, ⟨qg4, cg4, qm4, cm4, rfl, hg4, hm4, hb4, hb4b⟩, hc4⟩ := ha.elem hx
      have hg4n := hg4.len
      have hm4n := hm4.len
      have hm4s := sizeMs_le hm4
      refine aTk 2 rfl (by kernel_rfl) rfl (q_of fun D => w_ixB rfl rfl Try.underlying26 sz49 rfl rfl (by first | omega | (simp; done) | (simp; omega)) (by first | omega | (simp; done) | (simp; omega)) ⟨rfl, rfl, rfl, rfl⟩) ?_
      refine aTk 3 rfl (by kernel_rfl) rfl (q_of fun D => w_loadN [_, _, _, _, _] rfl rfl lk49 rfl (rowK hc4 0 rfl rfl) ⟨rfl, rfl, rfl, rfl⟩) ?_
      refine aTP 4 rfl (by kernel_rfl) rfl (fun D B L => w_move rfl rfl rfl ⟨rfl, rfl, rfl, rfl⟩) ?_
      refine aTP 5 rfl (by kernel_rfl) rfl (fun D B L => w_move rfl rfl rfl ⟨rfl, rfl, rfl, rfl⟩) ?_
      obtain ⟨y, hy⟩ := getLt (xs := ys) (i := k) (by first | omega | (simp; done) | (simp; omega))
      obtain ⟨bb6, oo6, rfl⟩ := hb.base hy
      obtain ⟨_, ⟨qg7, cg7, qm7, cm7, rfl, hg7, hm7, hb7, hb7b⟩, hc7⟩ := hb.elem hy
      have hg7n := hg7.len
      have hm7n := hm7.len
      have hm7s := sizeMs_le hm7
      refine aTk 6 rfl (by kernel_rfl) rfl (q_of fun D => w_ixB rfl rfl Try.underlying26 sz49 rfl rfl (by first | omega | (simp; done) | (simp; omega)) (by first | omega | (simp; done) | (simp; omega)) ⟨rfl, rfl, rfl, rfl⟩) ?_
      refine aTk 7 rfl (by kernel_rfl) rfl (q_of fun D => w_loadN [_, _, _, _, _] rfl rfl lk49 rfl (rowK hc7 0 rfl rfl) ⟨rfl, rfl, rfl, rfl⟩) ?_
      refine aTk 8 rfl (by kernel_rfl) rfl (q_of fun D => w_retB rfl rfl en32 rfl (sameFolder_c _ _ _ _ _ _ _ _ x y _ hg4 hm4 hg7 hm7) ⟨rfl, rfl, rfl, rfl⟩) ?_
      refine aTk 9 rfl (by kernel_rfl) rfl (q_of fun D => w_not rfl rfl rfl ⟨rfl, rfl, rfl, rfl⟩) ?_
      refine any_done (by kernel_rfl) (by kernel_rfl) ?_
      refine thn_n ?_
      refine wKp [(0, _), (1, _), (5, _), (10, _), (14, _), (26, _)] ⟨rfl, rfl, rfl, rfl, rfl, rfl, trivial⟩ ?_
      refine wCd rfl (fun g3 => ?_) (fun g3 => ?_)
      · try simp only [sQ1, sQ2, sQ3, sQ4, sQ5, sQ6, sQ7, sQ8, ne_eq] at g3
        refine wSR ?_
        refine xAs ?_
        refine wKp [(0, _), (1, _), (4, _), (5, _), (10, _), (14, _), (26, _)] ⟨rfl, rfl, rfl, rfl, rfl, rfl, rfl, trivial⟩ ?_
        refine w_ret (inB_r (thn_r (rndE_r (inB_r (thn_r ?_)))))
        exact end0 .ret (.inl rfl) [_] ⟨rfl, trivial⟩ ⟨bool_eq (eqF_elem hx hy g3), rfl, rfl⟩
      · try simp only [sQ1, sQ2, sQ3, sQ4, sQ5, sQ6, sQ7, sQ8, ne_eq] at g3
        refine w_skip ?_
        refine inB_n (thn_n ?_)
        refine w_region ?_
        refine xMv ?_
        refine oX (w_add rfl rfl rfl rfl (by first | exact wrI64 (by first | omega | (simp; done) | (simp; omega)) (by first | omega | (simp; done) | (simp; omega)) | rfl) ?_)
        refine xAs ?_
        exact rndE_n (k + 1) [] (by first | omega | (simp only []; omega)) ⟨rfl, by omega, take_eq_next hx hy g3 he⟩ ⟨rfl, rfl, rfl, rfl, trivial⟩ rfl
    · try simp only [sQ1, sQ2, sQ3, sQ4, sQ5, sQ6, sQ7, sQ8, ne_eq] at g2
      refine w_exit (thn_x (rndE_x (inB_hit (thn_n ?_))))
      refine wSR ?_
      refine xAs ?_
      refine wKp [(0, _), (1, _), (4, _), (5, _), (10, _), (14, _)] ⟨rfl, rfl, rfl, rfl, rfl, rfl, trivial⟩ ?_
      refine w_ret ?_
      exact end0 .ret (.inl rfl) [_] ⟨rfl, trivial⟩ ⟨bool_eq (eqT (by omega) (by omega) he), rfl, rfl⟩

set_option maxRecDepth 4000 in
set_option maxHeartbeats 400000 in
theorem sameHost_c (qa1 qb1 qc1 : Option Addr) (ca1 cb1 cc1 : Nat) (qa2 qb2 qc2 : Option Addr) (ca2 cb2 cc2 : Nat) (a b : DHost) (B : Kn) (hu1 : SlK B qa1 ca1 3 UserR a.users) (hf1 : SlK B qb1 cb1 5 FolderR a.folders) (hi1 : SlK B qc1 cc1 4 ItemR a.queue.items) (hu2 : SlK B qa2 ca2 3 UserR b.users) (hf2 : SlK B qb2 cb2 5 FolderR b.folders) (hi2 : SlK B qc2 cc2 4 ItemR b.queue.items) : RetB (pj J) 7 [.agg #[str a.domain, .slice qa1 a.users.length ca1, .slice qb1 a.folders.length cb1, .int .i64 a.queue.next, .slice qc1 a.queue.items.length cc1], .agg #[str b.domain, .slice qa2 b.users.length ca2, .slice qb2 b.folders.length cb2, .int .i64 b.queue.next, .slice qc2 b.queue.items.length cc2]] B (.bool (decide (a = b))) := by
  refine cBB 31 Try.func7 rfl rfl rfl (Nat.le_of_ble_eq_true rfl) ?_
  refine wSR ?_
  refine oX (w_box (l := [_, _, _, _, _]) rfl rfl rfl rfl (fun b1 => ?_))
  refine oX (w_box (l := [_, _, _, _, _]) rfl rfl rfl rfl (fun b2 => ?_))
  refine xAs ?_
  refine wTd [(0, _), (1, _), (2, _), (3, _), (4, _)] [_, _] ⟨rfl, rfl, rfl, rfl, rfl, trivial⟩ rfl ?_
  refine wSR ?_
  refine oX (wFA rfl rfl fo31x0 rfl ?_)
  refine oX (w_load1 rfl rfl lk9 rfl (atL 0 rfl rfl rfl) ?_)
  refine oX (wFA rfl rfl fo31x0 rfl ?_)
  refine oX (w_load1 rfl rfl lk9 rfl (atL 1 rfl rfl rfl) ?_)
  refine oX (w_eqlS rfl rfl rfl rfl ?_)
  refine xMv ?_
  refine r_split (d := 10) rfl (fun g1 => ?_) (fun g1 => ?_)
  · try simp only [sQ1, sQ2, sQ3, sQ4, sQ5, sQ6, sQ7, sQ8, ne_eq] at g1
    refine oX (wFA rfl rfl fo31x1 rfl ?_)
    refine oX (w_load1 rfl rfl lk23 rfl (atL 0 rfl rfl rfl) ?_)
    refine oX (wFA rfl rfl fo31x1 rfl ?_)
    refine oX (w_load1 rfl rfl lk23 rfl (atL 1 rfl rfl rfl) ?_)
    refine oX (w_retB rfl rfl en15 rfl (sameUsers_c _ _ _ _ _ _ _ hu1 hu2) ?_)
    refine oX (w_pickT rfl rfl rfl rfl ?_)
    refine xMv ?_
    refine r_split (d := 17) rfl (fun g2 => ?_) (fun g2 => ?_)
    · try simp only [sQ1, sQ2, sQ3, sQ4, sQ5, sQ6, sQ7, sQ8, ne_eq] at g2
      refine oX (wFA rfl rfl fo31x2 rfl ?_)
      refine oX (w_load1 rfl rfl lk26 rfl (atL 0 rfl rfl rfl) ?_)
      refine oX (wFA rfl rfl fo31x2 rfl ?_)
      refine oX (w_load1 rfl rfl lk26 rfl (atL 1 rfl rfl rfl) ?_)
      refine oX (w_retB rfl rfl en16 rfl (sameFolders_c _ _ _ _ _ _ _ hf1 hf2) ?_)
      refine oX (w_pickT rfl rfl rfl rfl ?_)
      refine xMv ?_
      refine r_split (d := 24) rfl (fun g3 => ?_) (fun g3 => ?_)
      · try simp only [sQ1, sQ2, sQ3, sQ4, sQ5, sQ6, sQ7, sQ8, ne_eq] at g3
        refine oX (wFA rfl rfl fo31x3 rfl ?_)
        refine oX (w_loadN [_, _] rfl rfl lk29 rfl (rowL 0 rfl rfl rfl) ?_)
        refine oX (wFA rfl rfl fo31x3 rfl ?_)
        refine oX (w_loadN [_, _] rfl rfl lk29 rfl (rowL 1 rfl rfl rfl) ?_)
        refine oX (w_retB rfl rfl en17 rfl (sameQueue_c _ _ a.queue _ _ b.queue _ hi1 hi2) ?_)
        refine oX (w_pickT rfl rfl rfl rfl ?_)
        refine xAs ?_
        refine wKp [(0, _), (1, _), (2, _), (3, _), (4, _)] ⟨rfl, rfl, rfl, rfl, rfl, trivial⟩ ?_
        refine w_ret ?_
        exact end0 .ret (.inl rfl) [_] ⟨rfl, trivial⟩ ⟨bool_eq (by cases a; cases b; simp_all), rfl, rfl⟩
      · try simp only [sQ1, sQ2, sQ3, sQ4, sQ5, sQ6, sQ7, sQ8, ne_eq] at g3
        refine oX (w_pass rfl rfl ?_)
        refine oX (w_pass rfl rfl ?_)
        refine oX (w_pass rfl rfl ?_)
        refine oX (w_pass rfl rfl ?_)
        refine oX (w_pass rfl rfl ?_)
        refine oX (w_pickF rfl rfl rfl rfl ?_)
        refine xAs ?_
        refine wKp [(0, _), (1, _), (2, _), (3, _), (4, _)] ⟨rfl, rfl, rfl, rfl, rfl, trivial⟩ ?_
        refine w_ret ?_
        exact end0 .ret (.inl rfl) [_] ⟨rfl, trivial⟩ ⟨bool_eq (by cases a; cases b; simp_all), rfl, rfl⟩
    · try simp only [sQ1, sQ2, sQ3, sQ4, sQ5, sQ6, sQ7, sQ8, ne_eq] at g2
      refine oX (w_pass rfl rfl ?_)
      refine oX (w_pass rfl rfl ?_)
      refine oX (w_pass rfl rfl ?_)
      refine oX (w_pass rfl rfl ?_)
      refine oX (w_pass rfl rfl ?_)
      refine oX (w_pickF rfl rfl rfl rfl ?_)
      refine xMv ?_
      refine oX (w_pass rfl rfl ?_)
      refine oX (w_pass rfl rfl ?_)
      refine oX (w_pass rfl rfl ?_)
      refine oX (w_pass rfl rfl ?_)
      refine oX (w_pass rfl rfl ?_)
      refine oX (w_pickF rfl rfl rfl rfl ?_)
      refine xAs ?_
      refine wKp [(0, _), (1, _), (2, _), (3, _), (4, _)] ⟨rfl, rfl, rfl, rfl, rfl, trivial⟩ ?_
      refine w_ret ?_
      exact end0 .ret (.inl rfl) [_] ⟨rfl, trivial⟩ ⟨bool_eq (by cases a; cases b; simp_all), rfl, rfl⟩
  · try simp only [sQ1, sQ2, sQ3, sQ4, sQ5, sQ6, sQ7, sQ8, ne_eq] at g1
    refine oX (w_pass rfl rfl ?_)
    refine oX (w_pass rfl rfl ?_)
    refine oX (w_pass rfl rfl ?_)
    refine oX (w_pass rfl rfl ?_)
    refine oX (w_pass rfl rfl ?_)
    refine oX (w_pickF rfl rfl rfl rfl ?_)
    refine xMv ?_
    refine oX (w_pass rfl rfl ?_)
    refine oX (w_pass rfl rfl ?_)
    refine oX (w_pass rfl rfl ?_)
    refine oX (w_pass rfl rfl ?_)
    refine oX (w_pass rfl rfl ?_)
    refine oX (w_pickF rfl rfl rfl rfl ?_)
    refine xMv ?_
    refine oX (w_pass rfl rfl ?_)
    refine oX (w_pass rfl rfl ?_)
    refine oX (w_pass rfl rfl ?_)
    refine oX (w_pass rfl rfl ?_)
    refine oX (w_pass rfl rfl ?_)
    refine oX (w_pickF rfl rfl rfl rfl ?_)
    refine xAs ?_
    refine wKp [(0, _), (1, _), (2, _), (3, _), (4, _)] ⟨rfl, rfl, rfl, rfl, rfl, trivial⟩ ?_
    refine w_ret ?_
    exact end0 .ret (.inl rfl) [_] ⟨rfl, trivial⟩ ⟨bool_eq (by cases a; cases b; simp_all), rfl, rfl⟩

set_option maxRecDepth 4000 in
set_option maxHeartbeats 400000 in
theorem l92Users_c (b : Nat) (q : Option Addr) (m cp p : Nat) (hp : p ≤ 850000000000) (hm : m ≤ 2000) (B : Kn) (hbm : BytesAt B q m) : CallsB (pj J) 12 [ptr ⟨b, 0, none⟩] B [rd b q m cp p] (fun v B' Ls => ∃ q' cp' us p', v = .slice q' us.length cp' ∧ SlK B' q' cp' 3 UserR us ∧ us.length ≤ 5 ∧ p' ≤ p + 10 ∧ Ls = [rd b q m cp p']) := by
  refine cBB 61 Try.func12 rfl rfl rfl (Nat.le_of_ble_eq_true rfl) ?_
  refine wSR ?_
  refine xAs ?_
  refine wKp [(0, _), (2, _)] ⟨rfl, rfl, trivial⟩ ?_
  refine wSR ?_
  refine oX (w_build (parts := [(0, _), (1, _), (2, _)]) [_, _, _] [_, _, _] rfl rfl pl43 zo43 rfl rfl rfl ?_)
  refine xMv ?_
  refine oX (w_ex1 0 rfl rfl rfl en21 rfl (pick_c _ _ _ _ _ _ (by omega) (by omega) (by omega) hm _ hbm) ?_)
  rintro _ _ ⟨ru, rfl, rua, rub, rfl⟩
  refine oX (w_add rfl rfl rfl rfl (by first | exact wrI64 (by first | omega | (simp; done) | (simp; omega)) (by first | omega | (simp; done) | (simp; omega)) | rfl) ?_)
  refine oX (w_build (parts := [(0, _), (1, _), (2, _)]) [_, _, _] [_, _, _] rfl rfl pl43 zo43 rfl rfl rfl ?_)
  refine xMv ?_
  refine oX (w_ex1 0 rfl rfl rfl en21 rfl (pick_c _ _ _ _ _ _ (by omega) (by omega) (by omega) hm _ hbm) ?_)
  rintro _ _ ⟨ro, rfl, roa, rob, rfl⟩
  refine oX (w_add rfl rfl rfl rfl (by first | exact wrI64 (by first | omega | (simp; done) | (simp; omega)) (by first | omega | (simp; done) | (simp; omega)) | rfl) ?_)
  refine oX (w_build (parts := [(0, _), (1, _), (2, _)]) [_, _, _] [_, _, _] rfl rfl pl43 zo43 rfl rfl rfl ?_)
  refine oX (wBS (parts := [(0, _), (1, _), (2, _)]) [_, _, _, _, _, _, _, _, _] rfl rfl Try.underlying23 sz43 zo43 rfl rfl rfl rfl rfl (fun b3 => ?_))
  refine xAs ?_
  refine wTd [(0, _), (2, _), (3, _)] [_, _] ⟨rfl, rfl, rfl, trivial⟩ rfl ?_
  obtain ⟨us0, hn0, hv0⟩ : ∃ us0 : List DUser, us0.length = 3 ∧ VecR B (box1 b3 [str [97, 109, 121], str [97, 49], int 60, str [98, 111, 98], str [98, 50], int (20 + ru), str [99, 121, 100], str [99, 51], int (100 + ro)] 43) (some ⟨b3, 0, none⟩) 3 43 3 UserR us0 := ⟨[⟨[97, 109, 121], [97, 49], 60⟩, ⟨[98, 111, 98], [98, 50], 20 + ru⟩, ⟨[99, 121, 100], [99, 51], 100 + ro⟩], rfl, VecR.lit (rows := [[str [97, 109, 121], str [97, 49], int 60], [str [98, 111, 98], str [98, 50], int (20 + ru)], [str [99, 121, 100], str [99, 51], int (100 + ro)]]) (.cons ⟨rfl, by simp, by simp⟩ (.cons ⟨rfl, by simp, by simp⟩ (.cons ⟨rfl, by simp, by simp⟩ .nil))) (by intro row hr; simp only [List.mem_cons, List.not_mem_nil, or_false] at hr; rcases hr with rfl | rfl | rfl <;> rfl)⟩
  refine wSR ?_
  refine xMv ?_
  refine xMv ?_
  refine oX (w_ex1 0 rfl rfl rfl en21 rfl (pick_c _ _ _ _ _ _ (by omega) (by omega) (by omega) hm _ hbm) ?_)
  rintro _ _ ⟨ry, rfl, rya, ryb, rfl⟩
  refine oX (w_add rfl rfl rfl rfl (by first | exact wrI64 (by first | omega | (simp; done) | (simp; omega)) (by first | omega | (simp; done) | (simp; omega)) | rfl) ?_)
  refine oX (w_sliceV rfl rfl Try.underlying23 sz43 rfl (a := 0) (b := (1 + ry).toNat) rfl ⟨_, _, rfl, by omega⟩ (by omega) (by omega) ?_)
  refine xAs ?_
  refine wTd [(0, _), (2, _), (3, _)] [_, _] ⟨rfl, rfl, rfl, trivial⟩ rfl ?_
  obtain ⟨us1, hn1, hv1⟩ : ∃ us1 : List DUser, us1.length = (1 + ry).toNat ∧ VecR B _ _ 3 43 3 UserR us1 := ⟨us0.take (1 + ry).toNat, by rw [List.length_take]; omega, hv0.take (by omega)⟩
  rw [hv0.slice0 (sz := 3), show (1 + ry).toNat - 0 = us1.length from by omega]
  refine wSR ?_
  refine xMv ?_
  refine xMv ?_
  refine oX (w_lenV rfl rfl Try.underlying23 rfl ?_)
  refine oX (w_ex1 0 rfl rfl rfl en21 rfl (pick_c _ _ _ _ _ _ (by omega) (by omega) (by omega) hm _ hbm) ?_)
  rintro _ _ ⟨rk, rfl, rka, rkb, rfl⟩
  refine xAs ?_
  refine wTd [(0, _), (2, _), (3, _), (4, _)] [_, _] ⟨rfl, rfl, rfl, rfl, trivial⟩ rfl ?_
  refine w_midF (α := Gh DUser) [0, 2, 4] (fun g => [(3, .slice g.a g.xs.length g.c)]) (fun g => [rd b q m cp g.p, g.l]) (fun g Bx => g.p ≤ p + 10 ∧ g.xs.length ≤ 5 ∧ VecR Bx g.l g.a g.c 43 3 UserR g.xs) ?_ (fun g B6 hle6 hF => ?_)
  · skip
    refine wSR ?_
    refine xMv ?_
    refine oX (w_ex1 0 rfl rfl rfl en21 rfl (pick_c _ _ _ _ _ _ (by omega) (by omega) (by omega) hm _ hbm) ?_)
    rintro _ _ ⟨rj, rfl, rja, rjb, rfl⟩
    refine wTd [(0, _), (2, _), (3, _), (4, _), (25, _)] [_, _] ⟨rfl, rfl, rfl, rfl, rfl, trivial⟩ rfl ?_
    refine w_block ?_
    refine wSR ?_
    refine oX (w_eqlI rfl rfl rfl rfl ?_)
    refine xAs ?_
    refine wKp [(0, _), (2, _), (3, _), (4, _), (25, _), (26, _)] ⟨rfl, rfl, rfl, rfl, rfl, rfl, trivial⟩ ?_
    refine wCd rfl (fun g1 => ?_) (fun g1 => ?_)
    · try simp only [sQ1, sQ2, sQ3, sQ4, sQ5, sQ6, sQ7, sQ8, ne_eq] at g1
      refine w_region ?_
      refine xMv ?_
      refine xMv ?_
      refine xMv ?_
      refine oX (w_ex1 0 rfl rfl rfl en23 rfl (l91Name_c _ _ _ _ _ (by omega) hm _ hbm) ?_)
      rintro _ _ ⟨xs, rfl, hxs, rfl⟩
      obtain ⟨z, hz⟩ := getI (xs := us1) (i := rk) (by first | omega | (simp; done) | (simp; omega)) (by first | omega | (simp; done) | (simp; omega))
      obtain ⟨bb10, _, hp10, ⟨rfl, hb10, hb10b⟩, hw10, hc10⟩ := hv1.row hz
      refine oX (w_ixP hp10 rfl rfl Try.underlying23 sz43 rfl rfl (by first | omega | (simp; done) | (simp; omega)) (by first | omega | (simp; done) | (simp; omega)) ?_)
      refine oX (wFA rfl rfl fo43x0 rfl ?_)
      refine oX (w_stO (k := (rk).toNat) (off := 0) (⟨xs, z.pass, z.quota⟩) [_] 1 hv1 hp10 hz rfl rfl sz9 rfl rfl rfl rfl rfl rfl (by rintro _ ⟨rfl, e1, e2⟩; exact ⟨rfl, show xs.length ≤ 2000000 by omega, e2⟩) (fun l11 hv11 => ?_))
      refine inB_n ?_
      obtain ⟨us12, hn12, hv12⟩ : ∃ us12 : List DUser, us12.length = us1.length ∧ VecR B l11 _ _ 43 3 UserR us12 := ⟨_, by rw [List.length_set], hv11⟩
      rw [← hn12]
      exact mid_leaf ⟨0, ((((((p + 1) + 1) + 1) + 1) + 1) + 2), l11, (some ⟨b3, 0, none⟩), 3, us12⟩ [0, 1] ⟨by simp only []; omega, by first | (simp only []; omega) | (simp; omega), hv12⟩ ⟨rfl, rfl, rfl, rfl, trivial⟩ rfl
    · try simp only [sQ1, sQ2, sQ3, sQ4, sQ5, sQ6, sQ7, sQ8, ne_eq] at g1
      refine wSR ?_
      refine oX (w_eqlI rfl rfl rfl rfl ?_)
      refine xAs ?_
      refine wKp [(0, _), (2, _), (3, _), (4, _), (25, _), (26, _), (34, _)] ⟨rfl, rfl, rfl, rfl, rfl, rfl, rfl, trivial⟩ ?_
      refine wCd rfl (fun g2 => ?_) (fun g2 => ?_)
      · try simp only [sQ1, sQ2, sQ3, sQ4, sQ5, sQ6, sQ7, sQ8, ne_eq] at g2
        refine w_region ?_
        refine xMv ?_
        refine xMv ?_
        refine xMv ?_
        refine oX (w_ex1 0 rfl rfl rfl en23 rfl (l91Name_c _ _ _ _ _ (by omega) hm _ hbm) ?_)
        rintro _ _ ⟨xs, rfl, hxs, rfl⟩
        obtain ⟨z, hz⟩ := getI (xs := us1) (i := rk) (by first | omega | (simp; done) | (simp; omega)) (by first | omega | (simp; done) | (simp; omega))
        obtain ⟨bb15, _, hp15, ⟨rfl, hb15, hb15b⟩, hw15, hc15⟩ := hv1.row hz
        refine oX (w_ixP hp15 rfl rfl Try.underlying23 sz43 rfl rfl (by first | omega | (simp; done) | (simp; omega)) (by first | omega | (simp; done) | (simp; omega)) ?_)
        refine oX (wFA rfl rfl fo43x1 rfl ?_)
        refine oX (w_stO (k := (rk).toNat) (off := 1) (⟨z.name, xs, z.quota⟩) [_] 1 hv1 hp15 hz rfl rfl sz9 rfl rfl rfl rfl rfl rfl (by rintro _ ⟨rfl, e1, e2⟩; exact ⟨rfl, e1, show xs.length ≤ 2000000 by omega⟩) (fun l16 hv16 => ?_))
        refine inB_n ?_
        obtain ⟨us17, hn17, hv17⟩ : ∃ us17 : List DUser, us17.length = us1.length ∧ VecR B l16 _ _ 43 3 UserR us17 := ⟨_, by rw [List.length_set], hv16⟩
        rw [← hn17]
        exact mid_leaf ⟨0, ((((((p + 1) + 1) + 1) + 1) + 1) + 2), l16, (some ⟨b3, 0, none⟩), 3, us17⟩ [0, 1] ⟨by simp only []; omega, by first | (simp only []; omega) | (simp; omega), hv17⟩ ⟨rfl, rfl, rfl, rfl, trivial⟩ rfl
      · try simp only [sQ1, sQ2, sQ3, sQ4, sQ5, sQ6, sQ7, sQ8, ne_eq] at g2
        refine wSR ?_
        refine oX (w_eqlI rfl rfl rfl rfl ?_)
        refine xAs ?_
        refine wKp [(0, _), (2, _), (3, _), (4, _), (25, _), (26, _), (34, _), (42, _)] ⟨rfl, rfl, rfl, rfl, rfl, rfl, rfl, rfl, trivial⟩ ?_
        refine wCd rfl (fun g3 => ?_) (fun g3 => ?_)
        · try simp only [sQ1, sQ2, sQ3, sQ4, sQ5, sQ6, sQ7, sQ8, ne_eq] at g3
          refine w_region ?_
          refine xMv ?_
          refine xMv ?_
          refine oX (wBS (parts := [(0, _), (1, _), (2, _), (3, _)]) [_, _, _, _] rfl rfl Try.underlying66 sz3 zo3 rfl rfl rfl rfl rfl (fun b18 => ?_))
          refine r_pubK 2 rfl (VecR.ints (ls := ([(-1), 0, 200, 201] : List Int))) IntR.mono (by first | omega | decide | (simp; done) | (simp; omega)) (fun B19 hle19 hr19 => ?_)
          replace hv1 := hv1.mono UserR.mono hle19
          replace hbm := hbm.mono hle19
          have hr19n := hr19.len
          refine xMv ?_
          refine oX (w_ex1 0 rfl rfl rfl en21 rfl (pick_c _ _ _ _ _ _ (by omega) (by omega) (by omega) hm _ hbm) ?_)
          rintro _ _ ⟨rs, rfl, rsa, rsb, rfl⟩
          obtain ⟨e, he⟩ := getI (xs := ([(-1), 0, 200, 201] : List Int)) (i := rs) (by first | omega | (simp; done) | (simp; omega)) (by first | omega | (simp; done) | (simp; omega))
          obtain ⟨_, rfl, hc22⟩ := hr19.elem he
          refine oX (w_ixB rfl rfl Try.underlying66 sz3 rfl rfl (by first | omega | (simp; done) | (simp; omega)) (by first | omega | (simp; done) | (simp; omega)) ?_)
          refine oX (w_load1 rfl rfl lk3 rfl (hc22 _ 0 _ rfl) ?_)
          obtain ⟨z, hz⟩ := getI (xs := us1) (i := rk) (by first | omega | (simp; done) | (simp; omega)) (by first | omega | (simp; done) | (simp; omega))
          obtain ⟨bb24, _, hp24, ⟨rfl, hb24, hb24b⟩, hw24, hc24⟩ := hv1.row hz
          refine oX (w_ixP hp24 rfl rfl Try.underlying23 sz43 rfl rfl (by first | omega | (simp; done) | (simp; omega)) (by first | omega | (simp; done) | (simp; omega)) ?_)
          refine oX (wFA rfl rfl fo43x2 rfl ?_)
          refine oX (w_stO (k := (rk).toNat) (off := 2) (⟨z.name, z.pass, e⟩) [_] 1 hv1 hp24 hz rfl rfl sz3 rfl rfl rfl rfl rfl rfl (by rintro _ ⟨rfl, e1, e2⟩; exact ⟨rfl, e1, e2⟩) (fun l25 hv25 => ?_))
          refine inB_n ?_
          obtain ⟨us26, hn26, hv26⟩ : ∃ us26 : List DUser, us26.length = us1.length ∧ VecR B19 l25 _ _ 43 3 UserR us26 := ⟨_, by rw [List.length_set], hv25⟩
          rw [← hn26]
          exact mid_leaf ⟨0, ((((((p + 1) + 1) + 1) + 1) + 1) + 1), l25, (some ⟨b3, 0, none⟩), 3, us26⟩ [0, 1] ⟨by simp only []; omega, by first | (simp only []; omega) | (simp; omega), hv26⟩ ⟨rfl, rfl, rfl, rfl, trivial⟩ rfl
        · try simp only [sQ1, sQ2, sQ3, sQ4, sQ5, sQ6, sQ7, sQ8, ne_eq] at g3
          refine wSR ?_
          refine oX (w_eqlI rfl rfl rfl rfl ?_)
          refine xAs ?_
          refine wKp [(0, _), (2, _), (3, _), (4, _), (25, _), (26, _), (34, _), (42, _), (53, _)] ⟨rfl, rfl, rfl, rfl, rfl, rfl, rfl, rfl, rfl, trivial⟩ ?_
          refine wCd rfl (fun g4 => ?_) (fun g4 => ?_)
          · try simp only [sQ1, sQ2, sQ3, sQ4, sQ5, sQ6, sQ7, sQ8, ne_eq] at g4
            refine w_region ?_
            refine xMv ?_
            refine oX (w_build (parts := [(0, _), (1, _), (2, _)]) [_, _, _] [_, _, _] rfl rfl pl43 zo43 rfl rfl rfl ?_)
            refine oX (w_build (parts := [(0, _), (1, _), (2, _)]) [_, _, _] [_, _, _] rfl rfl pl43 zo43 rfl rfl rfl ?_)
            refine oX (wBS (parts := [(0, _), (1, _)]) [_, _, _, _, _, _] rfl rfl Try.underlying23 sz43 zo43 rfl rfl rfl rfl rfl (fun b27 => ?_))
            refine oX (w_appN (rows := [[str [100, 97, 110], str [100, 52], .int .i64 9], [str [101, 118, 101], str [101, 53], .int .i64 9]]) (ys := [⟨[100, 97, 110], [100, 52], 9⟩, ⟨[101, 118, 101], [101, 53], 9⟩]) (R := UserR) 1 rfl hv1 rfl rfl rfl eo23 su23 rfl rfl rfl (SrcAt.box 2 rfl) rfl (by intro row hr; simp only [List.mem_cons, List.not_mem_nil, or_false] at hr; rcases hr with rfl | rfl <;> rfl) (.cons (⟨rfl, by first | assumption | omega | (simp; done) | (simp; omega), by first | assumption | omega | (simp; done) | (simp; omega)⟩) (.cons (⟨rfl, by first | assumption | omega | (simp; done) | (simp; done) | (simp; omega), by first | assumption | omega | (simp; done) | (simp; done) | (simp; omega)⟩) .nil)) (by first | omega | (simp; done) | (simp; omega)) (fun l28 p28 c28 hv28 => ?_))
            refine xAs ?_
            refine inB_n ?_
            exact mid_leaf ⟨0, (((((p + 1) + 1) + 1) + 1) + 1), l28, p28, c28, (us1 ++ [⟨[100, 97, 110], [100, 52], 9⟩, ⟨[101, 118, 101], [101, 53], 9⟩])⟩ [0, 1] ⟨by simp only []; omega, by first | (simp only []; omega) | (simp; omega), hv28⟩ ⟨rfl, rfl, rfl, rfl, trivial⟩ rfl
          · try simp only [sQ1, sQ2, sQ3, sQ4, sQ5, sQ6, sQ7, sQ8, ne_eq] at g4
            refine w_skip ?_
            refine inB_n ?_
            exact mid_leaf ⟨0, (((((p + 1) + 1) + 1) + 1) + 1), _, (some ⟨b3, 0, none⟩), 3, us1⟩ [0, 1] ⟨by simp only []; omega, by first | (simp only []; omega) | (simp; omega), hv1⟩ ⟨rfl, rfl, rfl, rfl, trivial⟩ rfl
  · skip
    obtain ⟨hgp, hgn, hw⟩ := hF
    replace hbm := hbm.mono hle6
    refine wTd [(0, _), (2, _), (3, _), (4, _)] [_, _] ⟨rfl, rfl, rfl, rfl, trivial⟩ rfl ?_
    refine w_pubK 1 rfl hw UserR.mono (by first | omega | decide | (simp; done) | (simp; omega)) (fun B29 hle29 hr29 => ?_)
    replace hbm := hbm.mono hle29
    have hr29n := hr29.len
    refine wSR ?_
    refine xMv ?_
    refine xAs ?_
    refine wTd [(0, _), (2, _), (3, _), (4, _)] [_, _] ⟨rfl, rfl, rfl, rfl, trivial⟩ rfl ?_
    refine w_ret ?_
    exact endN .ret (.inl rfl) [_] [0] rfl ⟨rfl, trivial⟩ ⟨_, _, _, _, rfl, hr29, by omega, by omega, rfl⟩

set_option maxRecDepth 4000 in
set_option maxHeartbeats 400000 in
theorem drawHN_c (q : Option Addr) (m cp : Nat) (hmc : m ≤ cp) (B : Kn) (hb : BytesAt B q m) : CallsB (pj J) 4 [.slice q m cp] B [] (fun v B' Ls => Ls = [] ∧ ∃ (d : Str) (aq : Option Addr) (cq : Nat) (us : List DUser), v = .tuple #[str d, .slice aq us.length cq] ∧ SlK B' aq cq 3 UserR us ∧ us.length ≤ 5 ∧ d.length ≤ 40) := by
  refine cBB 13 Try.func4 rfl rfl rfl (Nat.le_of_ble_eq_true rfl) ?_
  refine wSR ?_
  refine xAs ?_
  refine xAs ?_
  refine wKp [(0, _), (2, _), (3, _)] ⟨rfl, rfl, rfl, trivial⟩ ?_
  refine wSR ?_
  refine xMv ?_
  refine oX (w_new1 rfl rfl en10 rfl (l6Open_c _ _ _ (by omega) _ (by assumption)) ?_)
  rintro _ _ ⟨bu, qu, mu, cpu, rfl, rfl, hm, hbm⟩
  refine xAs ?_
  refine wTd [(0, _), (2, _), (3, _), (4, _)] [_] ⟨rfl, rfl, rfl, rfl, trivial⟩ rfl ?_
  refine wSR ?_
  refine xMv ?_
  refine oX (w_ex1 0 rfl rfl rfl en11 rfl (l91Domain_c _ _ _ _ _ (by omega) hm _ hbm) ?_)
  rintro _ _ ⟨xv, rfl, hxv, rfl⟩
  refine xAs ?_
  refine wTd [(0, _), (2, _), (3, _), (4, _), (5, _)] [_] ⟨rfl, rfl, rfl, rfl, rfl, trivial⟩ rfl ?_
  refine wSR ?_
  refine xMv ?_
  refine xMv ?_
  refine oX (w_callN [0] rfl rfl rfl rfl en12 rfl (l92Users_c _ _ _ _ _ (by omega) hm _ hbm) ?_)
  rintro _ Bw _ hlew ⟨qw, cpw, usw, pw, rfl, huw, hunw, hpw, rfl⟩
  replace hbm := hbm.mono hlew
  have huwn := huw.len
  refine xAs ?_
  refine xAs ?_
  refine wTd [(0, _), (2, _), (3, _), (4, _), (5, _)] [_] ⟨rfl, rfl, rfl, rfl, rfl, trivial⟩ rfl ?_
  refine w_ret ?_
  exact endN .ret (.inl rfl) [_, _] [] rfl ⟨rfl, rfl, trivial⟩ ⟨rfl, _, _, _, _, rfl, huw, hunw, hxv⟩

set_option maxRecDepth 4000 in
set_option maxHeartbeats 400000 in
theorem folderNew_c (o n : Str) (B : Kn) : CallsB (pj J) 13 [str o, str n] B [] (fun v B' Ls => B' = B ∧ Ls = [] ∧ ∃ qa qb, v = .agg #[str o, str n, .slice qa 0 0, .int .i64 1, .slice qb 0 0] ∧ SlK B' qa 0 2 GrantR ([] : List DGrant) ∧ SlK B' qb 0 3 MailR ([] : List DMail)) := by
  refine cBB 11 Try.func13 rfl rfl rfl (Nat.le_of_ble_eq_true rfl) ?_
  refine wSR ?_
  refine oX (w_alloc (l := [_, _, _, _, _]) rfl rfl zo49 rfl (fun b1 => ?_))
  refine wTd [(0, _), (1, _), (4, _)] [_] ⟨rfl, rfl, rfl, trivial⟩ rfl ?_
  refine wSR ?_
  refine xMv ?_
  refine xMv ?_
  refine oX (wBS (parts := []) [] rfl rfl Try.underlying44 sz90 zo90 rfl rfl rfl rfl rfl (fun b2 => ?_))
  refine oX (wBS (parts := []) [] rfl rfl Try.underlying45 sz93 zo93 rfl rfl rfl rfl rfl (fun b3 => ?_))
  refine oX (w_build (parts := [(0, _), (1, _)]) [_, _] [_, _] rfl rfl pl47 zo47 rfl rfl rfl ?_)
  refine oX (w_build (parts := [(0, _), (1, _), (2, _), (3, _)]) [_, _, _, _, _] [_, _, _, _, _] rfl rfl pl49 zo49 rfl rfl rfl ?_)
  refine oX (w_store [_, _, _, _, _] 0 [_, _, _, _, _] rfl rfl sz49 rfl rfl rfl rfl rfl rfl rfl rfl ?_)
  refine wTd [(0, _), (1, _), (4, _)] [_, _, _] ⟨rfl, rfl, rfl, trivial⟩ rfl ?_
  refine w_ret ?_
  exact endN .ret (.inl rfl) [_] [] rfl ⟨⟨_, rfl, .inr ⟨[_, _, _, _, _], lk49, rowL 0 rfl rfl rfl, rfl⟩⟩, trivial⟩ ⟨rfl, rfl, _, _, rfl, SlK.nil, SlK.nil⟩

set_option maxRecDepth 4000 in
set_option maxHeartbeats 400000 in
theorem hostNew_c (q : Option Addr) (cp : Nat) (d : Str) (us : List DUser) (hd : d.length ≤ 2000000) (hl : us.length ≤ 1000000) (B : Kn) (hu : SlK B q cp 3 UserR us) : CallsB (pj J) 5 [str d, .slice q us.length cp] B [] (fun v B' Ls => Ls = [] ∧ ∃ q1 c1 q2 c2 q3 c3, v = .tuple #[.agg #[str (hostNew d us).1.domain, .slice q1 (hostNew d us).1.users.length c1, .slice q2 (hostNew d us).1.folders.length c2, .int .i64 (hostNew d us).1.queue.next, .slice q3 (hostNew d us).1.queue.items.length c3], .bool (hostNew d us).2] ∧ SlK B' q1 c1 3 UserR (hostNew d us).1.users ∧ SlK B' q2 c2 5 FolderR (hostNew d us).1.folders ∧ SlK B' q3 c3 4 ItemR (hostNew d us).1.queue.items) := by
  refine cBB 41 Try.func5 rfl rfl rfl (Nat.le_of_ble_eq_true rfl) ?_
  have hun := hu.len
  refine wSR ?_
  refine oX (w_alloc (l := [_, _, _, _, _]) rfl rfl zo31 rfl (fun b1 => ?_))
  refine xAs ?_
  refine wTd [(0, _), (1, _), (4, _), (5, _)] [_] ⟨rfl, rfl, rfl, rfl, trivial⟩ rfl ?_
  refine w_seq ?_
  refine wSR ?_
  refine xMv ?_
  refine oX (w_retB rfl rfl en8 rfl (implDomain_c _ (by first | assumption | omega | (simp; done) | (simp; omega)) _) ?_)
  refine oX (w_not rfl rfl rfl ?_)
  refine xMv ?_
  refine r_split (d := 12) rfl (fun g1 => ?_) (fun g1 => ?_)
  · try simp only [sQ1, sQ2, sQ3, sQ4, sQ5, sQ6, sQ7, sQ8, ne_eq] at g1
    rw [hostNew_no (by rw [newH_ok, g1]; rfl)]
    refine oX (w_pass rfl rfl ?_)
    refine oX (w_pass rfl rfl ?_)
    refine oX (w_pass rfl rfl ?_)
    refine oX (w_pickT rfl rfl rfl rfl ?_)
    refine wKp [(0, _), (1, _), (4, _), (5, _), (16, _)] ⟨rfl, rfl, rfl, rfl, rfl, trivial⟩ ?_
    refine wCd (t := true) rfl (fun _ => ?_) (fun h => Bool.noConfusion h)
    refine wSR ?_
    refine oX (w_build (parts := []) [_, _, _, _, _] [_, _, _, _, _] rfl rfl pl31 zo31 rfl rfl rfl ?_)
    refine oX (w_store [_, _, _, _, _] 0 [_, _, _, _, _] rfl rfl sz31 rfl rfl rfl rfl rfl rfl rfl rfl ?_)
    refine xAs ?_
    refine wTd [(0, _), (1, _), (4, _), (5, _), (16, _)] [_] ⟨rfl, rfl, rfl, rfl, rfl, trivial⟩ rfl ?_
    refine w_ret (thn_r ?_)
    exact endN .ret (.inl rfl) [_, _] [] rfl ⟨⟨_, rfl, .inr ⟨[_, _, _, _, _], lk31, rowL 0 rfl rfl rfl, rfl⟩⟩, rfl, trivial⟩ ⟨rfl, none, 0, none, 0, none, 0, rfl, SlK.nil, SlK.nil, SlK.nil⟩
  · try simp only [sQ1, sQ2, sQ3, sQ4, sQ5, sQ6, sQ7, sQ8, ne_eq] at g1
    refine xMv ?_
    refine oX (w_retB rfl rfl en9 rfl (implUsers_c _ _ _ _ hu) ?_)
    refine oX (w_not rfl rfl rfl ?_)
    refine oX (w_pickF rfl rfl rfl rfl ?_)
    refine wKp [(0, _), (1, _), (4, _), (5, _), (16, _)] ⟨rfl, rfl, rfl, rfl, rfl, trivial⟩ ?_
    refine wCd rfl (fun g2 => ?_) (fun g2 => ?_)
    · try simp only [sQ1, sQ2, sQ3, sQ4, sQ5, sQ6, sQ7, sQ8, ne_eq] at g2
      rw [hostNew_no (by rw [newH_ok, g2, Bool.and_false])]
      refine wSR ?_
      refine oX (w_build (parts := []) [_, _, _, _, _] [_, _, _, _, _] rfl rfl pl31 zo31 rfl rfl rfl ?_)
      refine oX (w_store [_, _, _, _, _] 0 [_, _, _, _, _] rfl rfl sz31 rfl rfl rfl rfl rfl rfl rfl rfl ?_)
      refine xAs ?_
      refine wTd [(0, _), (1, _), (4, _), (5, _), (16, _)] [_] ⟨rfl, rfl, rfl, rfl, rfl, trivial⟩ rfl ?_
      refine w_ret (thn_r ?_)
      exact endN .ret (.inl rfl) [_, _] [] rfl ⟨⟨_, rfl, .inr ⟨[_, _, _, _, _], lk31, rowL 0 rfl rfl rfl, rfl⟩⟩, rfl, trivial⟩ ⟨rfl, none, 0, none, 0, none, 0, rfl, SlK.nil, SlK.nil, SlK.nil⟩
    · try simp only [sQ1, sQ2, sQ3, sQ4, sQ5, sQ6, sQ7, sQ8, ne_eq] at g2
      have hok : hostOk (newH d us) = true := by rw [newH_ok, g1, g2]; rfl
      refine w_skip ?_
      refine thn_n ?_
      refine wSR ?_
      refine xMv ?_
      refine oX (wBS (parts := []) [] rfl rfl Try.underlying23 sz43 zo43 rfl rfl rfl rfl rfl (fun b4 => ?_))
      refine xMv ?_
      refine oX (w_appR (R := UserR) 1 rfl (VecR.lit0 (R := UserR)) rfl rfl rfl eo23 su23 rfl rfl rfl hu.rows UserR.one rfl (by first | omega | (simp; done) | (simp; omega)) (fun l5 p5 c5 hv5 => ?_))
      refine oX (wBS (parts := []) [] rfl rfl Try.underlying27 sz71 zo71 rfl rfl rfl rfl rfl (fun b6 => ?_))
      refine r_pubK 2 rfl (VecR.lit0 (R := ItemR) (w := 4)) ItemR.mono (by first | omega | decide | (simp; done) | (simp; omega)) (fun B7 hle7 hr7 => ?_)
      replace hu := hu.mono UserR.mono hle7
      replace hv5 := hv5.mono UserR.mono hle7
      have hr7n := hr7.len
      refine oX (w_build (parts := [(0, _), (1, _)]) [_, _] [_, _] rfl rfl pl29 zo29 rfl rfl rfl ?_)
      refine oX (w_build (parts := [(0, _), (1, _), (3, _)]) [_, _, _, _, _] [_, _, _, _, _] rfl rfl pl31 zo31 rfl rfl rfl ?_)
      refine oX (w_alloc (l := [_, _, _, _, _]) rfl rfl zo31 rfl (fun b8 => ?_))
      refine oX (w_store [_, _, _, _, _] 3 [_, _, _, _, _] rfl rfl sz31 rfl rfl rfl rfl rfl rfl rfl rfl ?_)
      refine wTd [(0, _), (1, _), (4, _), (5, _), (6, _), (16, _)] [_, _, _, _] ⟨rfl, rfl, rfl, rfl, rfl, rfl, trivial⟩ rfl ?_
      refine w_seq ?_
      refine wSR ?_
      refine xMv ?_
      refine oX (w_lenV rfl rfl Try.underlying23 rfl ?_)
      refine xMv ?_
      refine wKp [(0, _), (1, _), (4, _), (5, _), (6, _), (16, _), (25, _), (26, _), (27, _)] ⟨rfl, rfl, rfl, rfl, rfl, rfl, rfl, rfl, rfl, trivial⟩ ?_
      refine w_block ?_
      refine w_loopE (α := Gh DFolder) [0, 1, 4, 5, 6, 16, 25, 26] (fun g => [(27, .int .i64 g.k)]) [2, 3] (fun g => [g.l, box1 b8 [str d, .slice p5 us.length c5, .slice g.a g.xs.length g.c, .int .i64 1, .slice (some ⟨b6, 0, none⟩) 0 0] 31]) (fun g Bx => Bx = B7 ∧ g.k ≤ us.length ∧ g.xs = (us.take g.k).map (fun u => newF u.name) ∧ VecR Bx g.l g.a g.c 49 5 FolderR g.xs) (fun g => us.length - g.k) ⟨0, 0, [], none, 0, []⟩ ⟨rfl, trivial⟩ rfl (⟨rfl, Nat.zero_le _, by simp, VecR.nil⟩) (fun g B9 hle9 hI => ?_)
      obtain ⟨rfl, hk, hx, hv⟩ := hI
      have hgl : g.xs.length ≤ us.length := by rw [hx, List.length_map, List.length_take]; omega
      refine wTd [(0, _), (1, _), (4, _), (5, _), (6, _), (16, _), (25, _), (26, _), (27, _)] [_, _, _, _] ⟨rfl, rfl, rfl, rfl, rfl, rfl, rfl, rfl, rfl, trivial⟩ rfl ?_
      refine wSR ?_
      refine oX (w_lss rfl rfl rfl rfl ?_)
      refine wKp [(0, _), (1, _), (4, _), (5, _), (6, _), (16, _), (25, _), (26, _), (27, _), (28, _)] ⟨rfl, rfl, rfl, rfl, rfl, rfl, rfl, rfl, rfl, rfl, trivial⟩ ?_
      refine w_seq ?_
      refine wCd rfl (fun g3 => ?_) (fun g3 => ?_)
      · try simp only [sQ1, sQ2, sQ3, sQ4, sQ5, sQ6, sQ7, sQ8, ne_eq] at g3
        refine w_skip ?_
        refine thn_n ?_
        refine w_seq ?_
        refine w_block ?_
        refine wSR ?_
        obtain ⟨w, hw⟩ := getLt (xs := us) (i := g.k) (by first | omega | (simp; done) | (simp; omega))
        obtain ⟨bb11, oo11, rfl⟩ := hu.base hw
        obtain ⟨_, ⟨rfl, hb12, hb12b⟩, hc12⟩ := hu.elem hw
        refine oX (w_ixB rfl rfl Try.underlying23 sz43 rfl rfl (by first | omega | (simp; done) | (simp; omega)) (by first | omega | (simp; done) | (simp; omega)) ?_)
        refine oX (w_loadN [_, _, _] rfl rfl lk43 rfl (rowK hc12 0 rfl rfl) ?_)
        refine oX (w_alloc (l := [_, _, _]) rfl rfl zo43 rfl (fun b13 => ?_))
        refine oX (w_store [_, _, _] 4 [_, _, _] rfl rfl sz43 rfl rfl rfl rfl rfl rfl rfl rfl ?_)
        refine wTd [(0, _), (1, _), (4, _), (5, _), (6, _), (8, _), (16, _), (25, _), (26, _), (27, _), (28, _)] [_, _, _, _, _] ⟨rfl, rfl, rfl, rfl, rfl, rfl, rfl, rfl, rfl, rfl, rfl, trivial⟩ rfl ?_
        refine w_draw (keeps _ [3, 4] _) mo (by kernel_rfl) ⟨Kn.le.refl _, keepsL.refl _ _⟩ (fun _ _ => ?_)
        refine aTk 0 rfl (by kernel_rfl) rfl (q_ofI fun D B L hI => wFA rfl rfl fo31x2 rfl ⟨rfl, rfl, rfl, rfl⟩) ?_
        refine aTk 1 rfl (by kernel_rfl) rfl (q_ofI fun D B L hI => w_load1 rfl rfl lk26 rfl (atL 3 (hI.2.1.trans rfl) rfl rfl) ⟨rfl, rfl, rfl, rfl⟩) ?_
        refine aTk 2 rfl (by kernel_rfl) rfl (q_ofI fun D B L hI => wFA rfl rfl fo43x0 rfl ⟨rfl, rfl, rfl, rfl⟩) ?_
        refine aTk 3 rfl (by kernel_rfl) rfl (q_ofI fun D B L hI => w_load1 rfl rfl lk9 rfl (atL 4 (hI.2.2.1.trans rfl) rfl rfl) ⟨rfl, rfl, rfl, rfl⟩) ?_
        refine aOne 4 (by kernel_rfl) rfl (by kernel_rfl) (w_call rfl rfl en13 rfl (folderNew_c w.name [105, 110, 98, 111, 120] _) ?_)
        rintro _ _ _ hle14 ⟨rfl, rfl, qa14, qb14, rfl, hga14, hgb14⟩
        refine ⟨⟨Kn.le.refl _, ⟨rfl, rfl, trivial⟩⟩, ?_⟩
        refine aOne 5 (by kernel_rfl) rfl (by kernel_rfl) (wBS (parts := [(0, _)]) [_, _, _, _, _] rfl rfl Try.underlying26 sz49 zo49 rfl rfl rfl rfl rfl (fun b15 => ?_))
        refine ⟨⟨Kn.le.refl _, ⟨rfl, rfl, trivial⟩⟩, ?_⟩
        refine aOne 6 (by kernel_rfl) rfl (by kernel_rfl) (w_app1 (z := ⟨w.name, [105, 110, 98, 111, 120], ([] : List DGrant), 1, ([] : List DMail)⟩) (R := FolderR) 2 rfl hv rfl rfl rfl eo26 su26 rfl rfl (SrcAt.box 5 rfl) rfl rfl (⟨_, _, _, _, rfl, hga14, hgb14, by first | assumption | omega | (simp; done) | (simp; omega), by first | assumption | omega | (simp; done) | (simp; omega)⟩) (by first | omega | (simp; done) | (simp; omega)) (fun l16 p16 c16 hv16 => ?_))
        refine ⟨⟨Kn.le.refl _, ⟨rfl, rfl, trivial⟩⟩, ?_⟩
        refine aTk 7 rfl (by kernel_rfl) rfl (q_ofI fun D B L hI => wFA rfl rfl fo31x2 rfl ⟨rfl, rfl, rfl, rfl⟩) ?_
        refine any_fin 8 (by kernel_rfl) rfl (by kernel_rfl) (by kernel_rfl) (by kernel_rfl) (w_store [_] 3 [_, _, _, _, _] rfl rfl sz26 rfl rfl rfl rfl rfl rfl rfl rfl ?_)
        refine inB_n (thn_n ?_)
        refine w_region ?_
        refine oX (w_add rfl rfl rfl rfl (by first | exact wrI64 (by first | omega | (simp; done) | (simp; omega)) (by first | omega | (simp; done) | (simp; omega)) | rfl) ?_)
        refine xMv ?_
        exact rndE_n ⟨g.k + 1, 0, l16, p16, c16, (g.xs ++ [⟨w.name, [105, 110, 98, 111, 120], ([] : List DGrant), 1, ([] : List DMail)⟩])⟩ [0, 1, 2, 3] (by first | omega | (simp only []; omega)) ⟨rfl, by simp only []; omega, by rw [List.take_add_one, hw]; simp [hx, newF, inbox], hv16⟩ ⟨rfl, rfl, rfl, rfl, rfl, rfl, rfl, rfl, rfl, trivial⟩ rfl
      · try simp only [sQ1, sQ2, sQ3, sQ4, sQ5, sQ6, sQ7, sQ8, ne_eq] at g3
        have he : (us.map fun u => newF u.name) = g.xs := by rw [hx, List.take_of_length_le (by omega)]
        refine w_exit (thn_x (rndE_x (inB_hit (thn_n ?_))))
        refine wSR ?_
        refine oX (w_loadN [_, _, _, _, _] rfl rfl lk31 rfl (rowL 3 rfl rfl rfl) ?_)
        refine r_pubK 1 rfl hv5 UserR.mono (by first | omega | decide | (simp; done) | (simp; omega)) (fun B17 hle17 hr17 => ?_)
        replace hu := hu.mono UserR.mono hle17
        replace hr7 := hr7.mono ItemR.mono hle17
        replace hv := hv.mono FolderR.mono hle17
        have hr17n := hr17.len
        refine r_pubK 2 rfl hv FolderR.mono (by first | omega | decide | (simp; done) | (simp; omega)) (fun B18 hle18 hr18 => ?_)
        replace hu := hu.mono UserR.mono hle18
        replace hr17 := hr17.mono UserR.mono hle18
        replace hr7 := hr7.mono ItemR.mono hle18
        have hr18n := hr18.len
        refine oX (w_store [_, _, _, _, _] 0 [_, _, _, _, _] rfl rfl sz31 rfl rfl rfl rfl rfl rfl rfl rfl ?_)
        refine xAs ?_
        refine wTd [(0, _), (1, _), (4, _), (5, _), (6, _), (16, _), (25, _), (26, _), (27, _), (28, _)] [_, _, _, _] ⟨rfl, rfl, rfl, rfl, rfl, rfl, rfl, rfl, rfl, rfl, trivial⟩ rfl ?_
        refine w_ret ?_
        exact endN .ret (.inl rfl) [_, _] [] rfl ⟨⟨_, rfl, .inr ⟨[_, _, _, _, _], lk31, rowL 0 rfl rfl rfl, rfl⟩⟩, rfl, trivial⟩ (by rw [hostNew_yes hok, newH, he]; exact ⟨rfl, _, _, _, _, _, _, rfl, hr17, hr18, hr7⟩)

end Go.Proofs.Ytjechkhbcnpmfaa
