/-
  WHAT THE FUNCTIONS THAT THE LAWS REACH COMPUTE: each function's contract, proved off its printed body (the text is written by program). No condition beyond those that each theorem states.
-/
import Derived.Test.YtnhgfdfmfhkcmaaA1
namespace Go.Proofs.Ytnhgfdfmfhkcmaa
open Go Go.BL
set_option linter.unusedVariables false
set_option linter.unusedSimpArgs false
set_option maxRecDepth 4000 in
set_option maxHeartbeats 400000 in
theorem implAdd_c (aq : Option Addr) (cq : Nat) (q : DQueue) (qx : Option Addr) (cx : Nat) (x : DLetter) (B : Kn) (hq : SlK B aq cq 4 ItemR q.items) (hx : SlK B qx cx 1 StrR x.to_) (h1 : x.fr.length ≤ 2000000) (h2 : x.text.length ≤ 2000000) : CallsB Try.prog 23 [.agg #[.int .i64 q.next, .slice aq q.items.length cq], .agg #[str x.fr, .slice qx x.to_.length cx, str x.text]] B [] (fun v B' Ls => (∃ l a cp, Ls = [l] ∧ v = .tuple #[.agg #[.int .i64 (addQ q x).1.next, .slice a (addQ q x).1.items.length cp], .bool (addQ q x).2] ∧ VecD l a cp 47 4 (ItemO 9) (addQ q x).1.items)) := by
  refine callsB_body 50 Try.func23 rfl rfl rfl (Nat.le_of_ble_eq_true rfl) ?_
  have hqn := hq.len
  have hxn := hx.len
  refine w_seq_region ?_
  refine opW_x (w_box (l := [_, _]) rfl rfl rfl rfl (fun b1 => ?_))
  refine opW_x (w_box (l := [_, _, _]) rfl rfl rfl rfl (fun b2 => ?_))
  refine opW_x (w_alloc (l := [_, _]) rfl rfl zo29 rfl (fun b3 => ?_))
  refine opW_x (w_assign rfl rfl rfl ?_)
  refine w_tidy [(0, _), (1, _), (2, _), (3, _), (4, _), (5, _)] [_, _, _] ⟨rfl, rfl, rfl, rfl, rfl, rfl, trivial⟩ rfl ?_
  refine w_seq ?_
  refine w_seq_region ?_
  refine opW_x (w_loadN [_, _] rfl rfl lk29 rfl (rowL 0 rfl rfl rfl) ?_)
  refine opW_x (w_retB rfl rfl en27 rfl (implQueue_c _ _ q _ hq) ?_)
  refine opW_x (w_not rfl rfl rfl ?_)
  refine opW_x (w_move rfl rfl rfl ?_)
  refine r_split (d := 11) rfl (fun g1 => ?_) (fun g1 => ?_)
  · try simp only [decide_eq_true_eq, decide_eq_false_iff_not, Bool.not_eq_true', Bool.not_eq_false', decide_not, Decidable.not_not, Int.not_lt, Int.not_le, ne_eq] at g1
    refine opW_x (w_pass rfl rfl ?_)
    refine opW_x (w_pass rfl rfl ?_)
    refine opW_x (w_pass rfl rfl ?_)
    refine opW_x (w_pickT rfl rfl rfl rfl ?_)
    refine w_keep [(0, _), (1, _), (2, _), (3, _), (4, _), (5, _), (15, _)] ⟨rfl, rfl, rfl, rfl, rfl, rfl, rfl, trivial⟩ ?_
    refine w_cond (t := true) rfl (fun _ => ?_) (fun h => Bool.noConfusion h)
    refine w_seq_region ?_
    refine opW_x (w_build (parts := []) [_, _] [_, _] rfl rfl pl29 zo29 rfl rfl rfl ?_)
    refine opW_x (w_store [_, _] 2 [_, _] rfl rfl sz29 rfl rfl rfl rfl rfl rfl rfl rfl ?_)
    refine opW_x (w_assign rfl rfl rfl ?_)
    refine w_tidy [(0, _), (1, _), (2, _), (3, _), (4, _), (5, _), (15, _)] [_, _, _] ⟨rfl, rfl, rfl, rfl, rfl, rfl, rfl, trivial⟩ rfl ?_
    refine w_ret (thn_r ?_)
    have he := addQ_bad1 (x := x) g1
    exact endE .ret (.inl rfl) [_, _] ⟨⟨_, rfl, .inr ⟨[_, _], lk29, rowL 2 rfl rfl rfl, rfl⟩⟩, rfl, trivial⟩ ⟨_, none, 0, rfl, by rw [he]; rfl, by rw [he]; exact VecD.nil⟩
  · try simp only [decide_eq_true_eq, decide_eq_false_iff_not, Bool.not_eq_true', Bool.not_eq_false', decide_not, Decidable.not_not, Int.not_lt, Int.not_le, ne_eq] at g1
    refine opW_x (w_loadN [_, _, _] rfl rfl lk40 rfl (rowL 1 rfl rfl rfl) ?_)
    refine opW_x (w_retB rfl rfl en64 rfl (implLetter_c _ _ x _ hx (by first | assumption | omega) (by first | assumption | omega)) ?_)
    refine opW_x (w_not rfl rfl rfl ?_)
    refine opW_x (w_pickF rfl rfl rfl rfl ?_)
    refine w_keep [(0, _), (1, _), (2, _), (3, _), (4, _), (5, _), (15, _)] ⟨rfl, rfl, rfl, rfl, rfl, rfl, rfl, trivial⟩ ?_
    refine w_cond rfl (fun g2 => ?_) (fun g2 => ?_)
    · try simp only [decide_eq_true_eq, decide_eq_false_iff_not, Bool.not_eq_true', Bool.not_eq_false', decide_not, Decidable.not_not, Int.not_lt, Int.not_le, ne_eq] at g2
      refine w_seq_region ?_
      refine opW_x (w_build (parts := []) [_, _] [_, _] rfl rfl pl29 zo29 rfl rfl rfl ?_)
      refine opW_x (w_store [_, _] 2 [_, _] rfl rfl sz29 rfl rfl rfl rfl rfl rfl rfl rfl ?_)
      refine opW_x (w_assign rfl rfl rfl ?_)
      refine w_tidy [(0, _), (1, _), (2, _), (3, _), (4, _), (5, _), (15, _)] [_, _, _] ⟨rfl, rfl, rfl, rfl, rfl, rfl, rfl, trivial⟩ rfl ?_
      refine w_ret (thn_r ?_)
      have he := addQ_bad2 (q := q) g2
      exact endE .ret (.inl rfl) [_, _] ⟨⟨_, rfl, .inr ⟨[_, _], lk29, rowL 2 rfl rfl rfl, rfl⟩⟩, rfl, trivial⟩ ⟨_, none, 0, rfl, by rw [he]; rfl, by rw [he]; exact VecD.nil⟩
    · try simp only [decide_eq_true_eq, decide_eq_false_iff_not, Bool.not_eq_true', Bool.not_eq_false', decide_not, Decidable.not_not, Int.not_lt, Int.not_le, ne_eq] at g2
      have hqb := queueOk_next g1
      refine w_skip ?_
      refine thn_n ?_
      refine w_seq_region ?_
      refine opW_x (w_loadN [_, _] rfl rfl lk29 rfl (rowL 0 rfl rfl rfl) ?_)
      refine opW_x (w_call rfl rfl en65 rfl (queueClone_c _ _ q _ hq) ?_)
      rintro _ Bk _ hlek ⟨lk, qk, ck, rfl, rfl, hdk⟩
      replace hq := hq.mono ItemR.mono hlek
      replace hx := hx.mono StrR.mono hlek
      refine opW_x (w_alloc (l := [_, _]) rfl rfl zo29 rfl (fun b7 => ?_))
      refine opW_x (w_store [_, _] 4 [_, _] rfl rfl sz29 rfl rfl rfl rfl rfl rfl rfl rfl ?_)
      refine w_tidy [(0, _), (1, _), (2, _), (3, _), (4, _), (5, _), (6, _), (15, _)] [_, _, _, _, _] ⟨rfl, rfl, rfl, rfl, rfl, rfl, rfl, rfl, trivial⟩ rfl ?_
      refine w_seq ?_
      refine w_seq_region ?_
      refine opW_x (w_fieldAddr rfl rfl fo29x1 rfl ?_)
      refine opW_x (w_load1 rfl rfl lk27 rfl (atL 0 rfl rfl rfl) ?_)
      refine opW_x (w_lenV rfl rfl Try.underlying27 rfl ?_)
      refine opW_x (w_eqlI rfl rfl rfl rfl ?_)
      refine opW_x (w_move rfl rfl rfl ?_)
      refine r_split (d := 23) rfl (fun g3 => ?_) (fun g3 => ?_)
      · try simp only [decide_eq_true_eq, decide_eq_false_iff_not, Bool.not_eq_true', Bool.not_eq_false', decide_not, Decidable.not_not, Int.not_lt, Int.not_le, ne_eq] at g3
        refine opW_x (w_pass rfl rfl ?_)
        refine opW_x (w_pass rfl rfl ?_)
        refine opW_x (w_pass rfl rfl ?_)
        refine opW_x (w_pickT rfl rfl rfl rfl ?_)
        refine w_keep [(0, _), (1, _), (2, _), (3, _), (4, _), (5, _), (6, _), (15, _), (27, _)] ⟨rfl, rfl, rfl, rfl, rfl, rfl, rfl, rfl, rfl, trivial⟩ ?_
        refine w_cond (t := true) rfl (fun _ => ?_) (fun h => Bool.noConfusion h)
        refine w_seq_region ?_
        refine opW_x (w_loadN [_, _] rfl rfl lk29 rfl (rowL 4 rfl rfl rfl) ?_)
        refine opW_x (w_store [_, _] 2 [_, _] rfl rfl sz29 rfl rfl rfl rfl rfl rfl rfl rfl ?_)
        refine opW_x (w_assign rfl rfl rfl ?_)
        refine w_tidy [(0, _), (1, _), (2, _), (3, _), (4, _), (5, _), (6, _), (15, _), (27, _)] [_, _, _, _, _] ⟨rfl, rfl, rfl, rfl, rfl, rfl, rfl, rfl, rfl, trivial⟩ rfl ?_
        refine w_ret (thn_r ?_)
        have he := addQ_full g1 g2 (.inl (by omega))
        exact endN .ret (.inl rfl) [_, _] [3] rfl ⟨⟨_, rfl, .inr ⟨[_, _], lk29, rowL 2 rfl rfl rfl, rfl⟩⟩, rfl, trivial⟩ ⟨_, _, _, rfl, by rw [he]; rfl, by rw [he]; exact hdk⟩
      · try simp only [decide_eq_true_eq, decide_eq_false_iff_not, Bool.not_eq_true', Bool.not_eq_false', decide_not, Decidable.not_not, Int.not_lt, Int.not_le, ne_eq] at g3
        refine opW_x (w_fieldAddr rfl rfl fo29x0 rfl ?_)
        refine opW_x (w_load1 rfl rfl lk3 rfl (atL 0 rfl rfl rfl) ?_)
        refine opW_x (w_gtr rfl rfl rfl rfl ?_)
        refine opW_x (w_pickF rfl rfl rfl rfl ?_)
        refine w_keep [(0, _), (1, _), (2, _), (3, _), (4, _), (5, _), (6, _), (15, _), (27, _)] ⟨rfl, rfl, rfl, rfl, rfl, rfl, rfl, rfl, rfl, trivial⟩ ?_
        refine w_cond rfl (fun g4 => ?_) (fun g4 => ?_)
        · try simp only [decide_eq_true_eq, decide_eq_false_iff_not, Bool.not_eq_true', Bool.not_eq_false', decide_not, Decidable.not_not, Int.not_lt, Int.not_le, ne_eq] at g4
          refine w_seq_region ?_
          refine opW_x (w_loadN [_, _] rfl rfl lk29 rfl (rowL 4 rfl rfl rfl) ?_)
          refine opW_x (w_store [_, _] 2 [_, _] rfl rfl sz29 rfl rfl rfl rfl rfl rfl rfl rfl ?_)
          refine opW_x (w_assign rfl rfl rfl ?_)
          refine w_tidy [(0, _), (1, _), (2, _), (3, _), (4, _), (5, _), (6, _), (15, _), (27, _)] [_, _, _, _, _] ⟨rfl, rfl, rfl, rfl, rfl, rfl, rfl, rfl, rfl, trivial⟩ rfl ?_
          refine w_ret (thn_r ?_)
          have he := addQ_full g1 g2 (.inr (by omega))
          exact endN .ret (.inl rfl) [_, _] [3] rfl ⟨⟨_, rfl, .inr ⟨[_, _], lk29, rowL 2 rfl rfl rfl, rfl⟩⟩, rfl, trivial⟩ ⟨_, _, _, rfl, by rw [he]; rfl, by rw [he]; exact hdk⟩
        · try simp only [decide_eq_true_eq, decide_eq_false_iff_not, Bool.not_eq_true', Bool.not_eq_false', decide_not, Decidable.not_not, Int.not_lt, Int.not_le, ne_eq] at g4
          refine w_skip ?_
          refine thn_n ?_
          refine w_seq_region ?_
          refine opW_x (w_fieldAddr rfl rfl fo29x0 rfl ?_)
          refine opW_x (w_load1 rfl rfl lk3 rfl (atL 0 rfl rfl rfl) ?_)
          refine opW_x (w_fieldAddr rfl rfl fo40x0 rfl ?_)
          refine opW_x (w_load1 rfl rfl lk9 rfl (atL 1 rfl rfl rfl) ?_)
          refine opW_x (w_fieldAddr rfl rfl fo40x2 rfl ?_)
          refine opW_x (w_load1 rfl rfl lk9 rfl (atL 1 rfl rfl rfl) ?_)
          refine opW_x (w_fieldAddr rfl rfl fo40x1 rfl ?_)
          refine opW_x (w_load1 rfl rfl lk38 rfl (atL 1 rfl rfl rfl) ?_)
          refine opW_x (w_build (parts := [(0, _), (1, _), (2, _), (3, _)]) [_, _, _, _] [_, _, _, _] rfl rfl pl47 zo47 rfl rfl rfl ?_)
          refine opW_x (w_alloc (l := [_, _, _, _]) rfl rfl zo47 rfl (fun b8 => ?_))
          refine opW_x (w_store [_, _, _, _] 5 [_, _, _, _] rfl rfl sz47 rfl rfl rfl rfl rfl rfl rfl rfl ?_)
          refine w_tidy [(0, _), (1, _), (2, _), (3, _), (4, _), (5, _), (6, _), (7, _), (15, _), (27, _)] [_, _, _, _, _, _] ⟨rfl, rfl, rfl, rfl, rfl, rfl, rfl, rfl, rfl, rfl, trivial⟩ rfl ?_
          refine w_seq ?_
          refine w_draw (keeps _ [4, 5] _) mo (by kernel_rfl) ⟨Kn.le.refl _, keepsL.refl _ _⟩ ?_
          refine any_take 0 rfl (by kernel_rfl) rfl (q_ofI fun D B L hI => w_fieldAddr rfl rfl fo29x1 rfl ⟨rfl, rfl, rfl, rfl⟩) ?_
          refine any_take 1 rfl (by kernel_rfl) rfl (q_ofI fun D B L hI => w_load1 rfl rfl lk27 rfl (atL 4 (hI.2.1.trans rfl) rfl rfl) ⟨rfl, rfl, rfl, rfl⟩) ?_
          refine any_take 2 rfl (by kernel_rfl) rfl (q_ofI fun D B L hI => w_loadN [_, _, _, _] rfl rfl lk47 rfl (rowL 5 (hI.2.2.1.trans rfl) rfl rfl) ⟨rfl, rfl, rfl, rfl⟩) ?_
          refine any_one 3 (by kernel_rfl) rfl (by kernel_rfl) (w_call rfl rfl en66 rfl (itemClone_c _ _ ⟨q.next, x.fr, x.text, x.to_⟩ _ hx) ?_)
          rintro _ _ _ hle9 ⟨rfl, ins9, a9, c9, rfl, rfl, hs9⟩
          refine ⟨⟨Kn.le.refl _, ⟨rfl, rfl, trivial⟩⟩, ?_⟩
          refine any_one 4 (by kernel_rfl) rfl (by kernel_rfl) (w_buildSlice (parts := [(0, _)]) [_, _, _, _] rfl rfl Try.underlying27 sz47 zo47 rfl rfl rfl rfl rfl (fun b10 => ?_))
          refine ⟨⟨Kn.le.refl _, ⟨rfl, rfl, trivial⟩⟩, ?_⟩
          refine any_one 5 (by kernel_rfl) rfl (by kernel_rfl) (w_appD (R := ItemO 9) (z := ⟨q.next, x.fr, x.text, x.to_⟩) 3 6 rfl rfl rfl hdk rfl rfl rfl eo27 su27 rfl rfl (SrcAt.box 7 rfl) rfl rfl (⟨_, _, rfl, hs9, by first | assumption | omega | (simp; omega), by first | assumption | omega | (simp; omega), by first | assumption | omega | (simp; omega)⟩) (by first | omega | (simp; done) | (simp; omega)) (fun l11 p11 c11 hd11 => ?_))
          refine ⟨⟨Kn.le.refl _, ⟨rfl, rfl, trivial⟩⟩, ?_⟩
          refine any_take 6 rfl (by kernel_rfl) rfl (q_ofI fun D B L hI => w_fieldAddr rfl rfl fo29x1 rfl ⟨rfl, rfl, rfl, rfl⟩) ?_
          refine any_fin 7 (by kernel_rfl) rfl (by kernel_rfl) (by kernel_rfl) (by kernel_rfl) (w_store [_] 4 [_, _] rfl rfl sz27 rfl rfl rfl rfl rfl rfl rfl rfl ?_)
          refine thn_n ?_
          refine w_tidy [(0, _), (1, _), (2, _), (3, _), (4, _), (5, _), (6, _), (7, _), (15, _), (27, _)] [_, _, _, _, _, _, _, _] ⟨rfl, rfl, rfl, rfl, rfl, rfl, rfl, rfl, rfl, rfl, trivial⟩ rfl ?_
          refine w_seq_region ?_
          refine opW_x (w_fieldAddr rfl rfl fo29x0 rfl ?_)
          refine opW_x (w_load1 rfl rfl lk3 rfl (atL 4 rfl rfl rfl) ?_)
          refine opW_x (w_add rfl rfl rfl rfl (by first | exact wrI64 (by first | omega | (simp; done) | (simp; omega)) (by first | omega | (simp; done) | (simp; omega)) | rfl) ?_)
          refine opW_x (w_fieldAddr rfl rfl fo29x0 rfl ?_)
          refine opW_x (w_store [_] 4 [_, _] rfl rfl sz3 rfl rfl rfl rfl rfl rfl rfl rfl ?_)
          refine w_tidy [(0, _), (1, _), (2, _), (3, _), (4, _), (5, _), (6, _), (7, _), (15, _), (27, _)] [_, _, _, _, _, _, _, _] ⟨rfl, rfl, rfl, rfl, rfl, rfl, rfl, rfl, rfl, rfl, trivial⟩ rfl ?_
          refine w_seq_region ?_
          refine opW_x (w_loadN [_, _] rfl rfl lk29 rfl (rowL 4 rfl rfl rfl) ?_)
          refine opW_x (w_store [_, _] 2 [_, _] rfl rfl sz29 rfl rfl rfl rfl rfl rfl rfl rfl ?_)
          refine opW_x (w_assign rfl rfl rfl ?_)
          refine w_tidy [(0, _), (1, _), (2, _), (3, _), (4, _), (5, _), (6, _), (7, _), (15, _), (27, _)] [_, _, _, _, _, _, _, _] ⟨rfl, rfl, rfl, rfl, rfl, rfl, rfl, rfl, rfl, rfl, trivial⟩ rfl ?_
          refine w_ret ?_
          have he := addQ_ok g1 g2 (by omega) (by omega)
          exact endN .ret (.inl rfl) [_, _] [3] rfl ⟨⟨_, rfl, .inr ⟨[_, _], lk29, rowL 2 rfl rfl rfl, rfl⟩⟩, rfl, trivial⟩ ⟨_, _, _, rfl, by rw [he]; rfl, by rw [he]; exact hd11⟩

set_option maxRecDepth 4000 in
set_option maxHeartbeats 400000 in
theorem somebody_c (B : Kn) : CallsB Try.prog 30 [] B [] (fun v B' Ls => B' = B ∧ ∃ l a cp, Ls = [l] ∧ v = .slice a somebodyL.length cp ∧ VecR B l a cp 9 1 StrR somebodyL) := by
  refine callsB_body 2 Try.func30 rfl rfl rfl (Nat.le_of_ble_eq_true rfl) ?_
  refine w_seq_region ?_
  refine opW_x (w_assign rfl rfl rfl ?_)
  refine w_keep [(0, _)] ⟨rfl, trivial⟩ ?_
  refine w_seq_region ?_
  refine opW_x (w_buildSlice (parts := [(0, _), (1, _), (2, _), (3, _)]) [_, _, _, _] rfl rfl Try.underlying38 sz9 zo9 rfl rfl rfl rfl rfl (fun b1 => ?_))
  refine opW_x (w_assign rfl rfl rfl ?_)
  refine w_tidy [(0, _)] [_] ⟨rfl, trivial⟩ rfl ?_
  refine w_ret ?_
  exact endN .ret (.inl rfl) [_] [0] rfl ⟨rfl, trivial⟩ ⟨rfl, _, _, _, rfl, rfl, VecR.strs (by decide)⟩

set_option maxRecDepth 4000 in
set_option maxHeartbeats 400000 in
theorem implLeft_c (aq : Option Addr) (cq : Nat) (q : DQueue) (u : Str) (B : Kn) (hq : SlK B aq cq 4 ItemR q.items) : CallsB Try.prog 31 [.agg #[.int .i64 q.next, .slice aq q.items.length cq], str u] B [] (fun v B' Ls => Ls = [] ∧ v = .int .i64 (leftQ q u)) := by
  refine callsB_body 28 Try.func31 rfl rfl rfl (Nat.le_of_ble_eq_true rfl) ?_
  have hqn := hq.len
  refine w_seq_region ?_
  refine opW_x (w_box (l := [_, _]) rfl rfl rfl rfl (fun b1 => ?_))
  refine opW_x (w_assign rfl rfl rfl ?_)
  refine w_tidy [(0, _), (1, _), (2, _), (4, _)] [_] ⟨rfl, rfl, rfl, rfl, trivial⟩ rfl ?_
  refine w_seq ?_
  refine w_seq_region ?_
  refine opW_x (w_loadN [_, _] rfl rfl lk29 rfl (rowL 0 rfl rfl rfl) ?_)
  refine opW_x (w_retB rfl rfl en27 rfl (implQueue_c _ _ q _ hq) ?_)
  refine opW_x (w_not rfl rfl rfl ?_)
  refine w_keep [(0, _), (1, _), (2, _), (4, _), (9, _)] ⟨rfl, rfl, rfl, rfl, rfl, trivial⟩ ?_
  refine w_cond rfl (fun g1 => ?_) (fun g1 => ?_)
  · try simp only [decide_eq_true_eq, decide_eq_false_iff_not, Bool.not_eq_true', Bool.not_eq_false', decide_not, Decidable.not_not, Int.not_lt, Int.not_le, ne_eq] at g1
    refine w_seq_region ?_
    refine opW_x (w_assign rfl rfl rfl ?_)
    refine w_keep [(0, _), (1, _), (2, _), (4, _), (9, _)] ⟨rfl, rfl, rfl, rfl, rfl, trivial⟩ ?_
    refine w_ret (thn_r ?_)
    exact endN .ret (.inl rfl) [_] [] rfl ⟨rfl, trivial⟩ ⟨rfl, by rw [leftQ_bad g1]; rfl⟩
  · try simp only [decide_eq_true_eq, decide_eq_false_iff_not, Bool.not_eq_true', Bool.not_eq_false', decide_not, Decidable.not_not, Int.not_lt, Int.not_le, ne_eq] at g1
    have hqb := queueOk_next g1
    refine w_skip ?_
    refine thn_n ?_
    refine w_seq_region ?_
    refine opW_x (w_assign rfl rfl rfl ?_)
    refine w_keep [(0, _), (1, _), (2, _), (4, _), (5, _), (9, _)] ⟨rfl, rfl, rfl, rfl, rfl, rfl, trivial⟩ ?_
    refine w_seq ?_
    refine w_seq_region ?_
    refine opW_x (w_loadN [_, _] rfl rfl lk29 rfl (rowL 0 rfl rfl rfl) ?_)
    refine opW_x (w_call rfl rfl en72 rfl (queueLink_c _ _ q _ hq) ?_)
    rintro _ Bk _ hlek ⟨slk, rfl, hlk⟩
    replace hq := hq.mono ItemR.mono hlek
    have hl : ListD 9 109 _ _ _ := hlk
    obtain ⟨p0, rfl⟩ := hl.ptr
    refine opW_x (w_assign rfl rfl rfl ?_)
    refine w_tidy [(0, _), (1, _), (2, _), (4, _), (5, _), (6, _), (9, _)] [_, _] ⟨rfl, rfl, rfl, rfl, rfl, rfl, rfl, trivial⟩ rfl ?_
    refine w_block ?_
    refine w_loopE (α := QLf) [0, 1, 2, 4, 9] (fun g => [(5, .int .i64 (cntQ g.ys u : Nat)), (6, .pointer g.p)]) [1] (fun g => [g.cells]) (fun g Bx => Bx = Bk ∧ g.ys ++ g.xs = q.items ∧ ListD 9 109 (.pointer g.p) g.xs g.cells) (fun g => g.xs.length) ⟨p0, [], q.items, _⟩ ⟨rfl, rfl, trivial⟩ rfl (⟨rfl, rfl, hl⟩) (fun g B4 hle4 hI => ?_)
    clear hl
    obtain ⟨rfl, hxs, hl⟩ := hI
    refine w_tidy [(0, _), (1, _), (2, _), (4, _), (5, _), (6, _), (9, _)] [_, _] ⟨rfl, rfl, rfl, rfl, rfl, rfl, rfl, trivial⟩ rfl ?_
    refine w_seq ?_
    refine w_seq_region ?_
    refine opW_x (w_move rfl rfl rfl ?_)
    refine opW_x (w_neqE rfl rfl rfl rfl rfl (eqPtrNil Try.underlying106) ?_)
    refine w_keep [(0, _), (1, _), (2, _), (4, _), (5, _), (6, _), (9, _), (13, _)] ⟨rfl, rfl, rfl, rfl, rfl, rfl, rfl, rfl, trivial⟩ ?_
    refine w_cond rfl (fun g2 => ?_) (fun g2 => ?_)
    · try simp only [decide_eq_true_eq, decide_eq_false_iff_not, Bool.not_eq_true', Bool.not_eq_false', decide_not, Decidable.not_not, Int.not_lt, Int.not_le, ne_eq] at g2
      obtain ⟨y, ys, b8, q8, c8, np, ins8, rest8, hp8, hrest, hperm, hy5, hy6, hy7, hy8, hl8⟩ := hl.more (by simpa using g2)
      rw [hp8]
      have hlen := congrArg List.length hxs
      rw [List.length_append, hrest, List.length_cons] at hlen
      have hcl := cntQ_le g.ys u
      refine w_split 1 rfl hperm ?_
      refine w_tidy [(0, _), (1, _), (2, _), (4, _), (5, _), (6, _), (9, _), (13, _)] [_, _, _, _] ⟨rfl, rfl, rfl, rfl, rfl, rfl, rfl, rfl, trivial⟩ rfl ?_
      refine w_skip ?_
      refine thn_n ?_
      refine w_seq ?_
      refine w_block ?_
      refine w_seq_region ?_
      refine opW_x (w_move rfl rfl rfl ?_)
      refine opW_x (w_nilCheck rfl rfl rfl ?_)
      refine opW_x (w_fieldAddr rfl rfl fo109x0 rfl ?_)
      refine opW_x (w_fieldAddr rfl rfl fo47x3 rfl ?_)
      refine opW_x (w_load1 rfl rfl lk38 rfl (atL 1 rfl rfl rfl) ?_)
      refine opW_x (w_move rfl rfl rfl ?_)
      refine opW_x (w_ret1 2 rfl rfl rfl en73 rfl (RetB.borrow fun hm5 => contains_c _ _ _ _ _ ((hy5.anyK StrR.any).lend StrR.mono hm5 (by first | omega | (simp; done) | (simp; omega)))) ?_)
      refine w_keep [(0, _), (1, _), (2, _), (4, _), (5, _), (6, _), (9, _), (13, _), (24, _)] ⟨rfl, rfl, rfl, rfl, rfl, rfl, rfl, rfl, rfl, trivial⟩ ?_
      refine w_cond rfl (fun g3 => ?_) (fun g3 => ?_)
      · try simp only [decide_eq_true_eq, decide_eq_false_iff_not, Bool.not_eq_true', Bool.not_eq_false', decide_not, Decidable.not_not, Int.not_lt, Int.not_le, ne_eq] at g3
        refine w_region ?_
        refine opW_x (w_move rfl rfl rfl ?_)
        refine opW_x (w_add rfl rfl rfl rfl (by first | exact wrI64 (by first | omega | (simp; done) | (simp; omega)) (by first | omega | (simp; done) | (simp; omega)) | rfl) ?_)
        refine opW_x (w_assign rfl rfl rfl ?_)
        refine inB_n (thn_n ?_)
        refine w_region ?_
        refine opW_x (w_move rfl rfl rfl ?_)
        refine opW_x (w_nilCheck rfl rfl rfl ?_)
        refine opW_x (w_fieldAddr rfl rfl fo109x1 rfl ?_)
        refine opW_x (w_load1 rfl rfl lk106 rfl (atL 1 rfl rfl rfl) ?_)
        refine opW_x (w_assign rfl rfl rfl ?_)
        rw [show ((cntQ g.ys u : Nat) : Int) + 1 = ((cntQ (g.ys ++ [y]) u : Nat) : Int) from by rw [cntQ_in g3]; rfl]
        exact rndE_n ⟨np, g.ys ++ [y], ys, rest8⟩ [0, 3] (by rw [hrest]; simp) ⟨rfl, by rw [← hxs, hrest]; simp, hl8⟩ ⟨rfl, rfl, rfl, rfl, rfl, rfl, rfl, trivial⟩ rfl
      · try simp only [decide_eq_true_eq, decide_eq_false_iff_not, Bool.not_eq_true', Bool.not_eq_false', decide_not, Decidable.not_not, Int.not_lt, Int.not_le, ne_eq] at g3
        refine w_skip ?_
        refine inB_n (thn_n ?_)
        refine w_region ?_
        refine opW_x (w_move rfl rfl rfl ?_)
        refine opW_x (w_nilCheck rfl rfl rfl ?_)
        refine opW_x (w_fieldAddr rfl rfl fo109x1 rfl ?_)
        refine opW_x (w_load1 rfl rfl lk106 rfl (atL 1 rfl rfl rfl) ?_)
        refine opW_x (w_assign rfl rfl rfl ?_)
        rw [← cntQ_no (xs := g.ys) (y := y) g3]
        exact rndE_n ⟨np, g.ys ++ [y], ys, rest8⟩ [0, 3] (by rw [hrest]; simp) ⟨rfl, by rw [← hxs, hrest]; simp, hl8⟩ ⟨rfl, rfl, rfl, rfl, rfl, rfl, rfl, trivial⟩ rfl
    · try simp only [decide_eq_true_eq, decide_eq_false_iff_not, Bool.not_eq_true', Bool.not_eq_false', decide_not, Decidable.not_not, Int.not_lt, Int.not_le, ne_eq] at g2
      rw [hl.done (by simpa using g2), List.append_nil] at hxs
      refine w_exit (thn_x (rndE_x (inB_hit (thn_n ?_))))
      refine w_seq_region ?_
      refine opW_x (w_move rfl rfl rfl ?_)
      refine opW_x (w_assign rfl rfl rfl ?_)
      refine w_keep [(0, _), (1, _), (2, _), (4, _), (5, _), (6, _), (9, _), (13, _)] ⟨rfl, rfl, rfl, rfl, rfl, rfl, rfl, rfl, trivial⟩ ?_
      refine w_ret ?_
      exact endN .ret (.inl rfl) [_] [] rfl ⟨rfl, trivial⟩ ⟨rfl, by rw [leftQ_ok g1, ← hxs]; rfl⟩

set_option maxRecDepth 4000 in
set_option maxHeartbeats 400000 in
theorem deleteS_c (p : Option Addr) (c : Nat) (xs : List Str) (l : Cells) (i : Nat) (hi : i < xs.length) (hn : xs.length ≤ 2000000) (BV B : Kn) (hv : VecR BV l p c 9 1 StrR xs) : CallsB Try.prog 75 [.slice p xs.length c, .int .i64 i, .int .i64 ((i : Int) + 1)] B [l] (fun v B' Ls => B' = B ∧ ∃ l', Ls = [l'] ∧ v = .slice p (xs.take i ++ xs.drop (i + 1)).length c ∧ VecR BV l' p c 9 1 StrR (xs.take i ++ xs.drop (i + 1))) := by
  refine callsB_body 33 Try.func75 rfl rfl rfl (Nat.le_of_ble_eq_true rfl) ?_
  obtain ⟨rows, hr1, hr2, hr3, ⟨rfl, hn0, _⟩ | ⟨b, arr, rfl, ha, ht, rfl, hmc⟩⟩ := hv
  · omega
  have hv1 : Value.slice (if c = 0 then some ⟨b, 0, none⟩ else (some ⟨b, 0, none⟩ : Option Addr).map (·.add (0 * 1))) (i - 0) (c - 0) = .slice (some ⟨b, 0, none⟩) i c := by split <;> simp [Addr.add_off ⟨b, 0, none⟩ _ rfl]
  have hrl := hr1.len
  have hrf := wide_flat hr2
  have hws : ((arr.take xs.length).drop (i + 1)).length = (xs.length - (i + 1)) * 1 := by rw [List.length_drop, List.length_take]; omega
  have hel : (xs.take i ++ xs.drop (i + 1)).length = i + (xs.length - (i + 1)) := by rw [List.length_append, List.length_take, List.length_drop]; omega
  refine w_seq_region ?_
  refine opW_x (w_assign rfl rfl rfl ?_)
  refine w_keep [(0, _), (1, _), (2, _), (6, _)] ⟨rfl, rfl, rfl, rfl, trivial⟩ ?_
  refine w_seq_region ?_
  refine opW_x (w_move rfl rfl rfl ?_)
  refine opW_x (w_move rfl rfl rfl ?_)
  refine opW_x (w_move rfl rfl rfl ?_)
  refine opW_x (w_move rfl rfl rfl ?_)
  refine opW_x (w_lenV rfl rfl Try.underlying38 rfl ?_)
  refine opW_x (w_slice3 (a := i) (b := i + 1) (m := xs.length) rfl rfl Try.underlying38 sz9 rfl ⟨_, _, rfl, rfl⟩ ⟨_, _, rfl, by omega⟩ ⟨_, _, rfl, rfl⟩ (by omega) (by omega) hmc (fun v9 => ?_))
  refine w_keep [(0, _), (1, _), (2, _), (6, _)] ⟨rfl, rfl, rfl, rfl, trivial⟩ ?_
  refine w_seq ?_
  refine w_seq_region ?_
  refine opW_x (w_move rfl rfl rfl ?_)
  refine opW_x (w_move rfl rfl rfl ?_)
  refine opW_x (w_eqlI rfl rfl rfl rfl ?_)
  refine w_keep [(0, _), (1, _), (2, _), (6, _), (16, _)] ⟨rfl, rfl, rfl, rfl, rfl, trivial⟩ ?_
  refine w_cond rfl (fun g1 => by have := of_decide_eq_true g1; omega) (fun g1 => ?_)
  try simp only [decide_eq_true_eq, decide_eq_false_iff_not, Bool.not_eq_true', Bool.not_eq_false', decide_not, Decidable.not_not, Int.not_lt, Int.not_le, ne_eq] at g1
  refine w_skip ?_
  refine thn_n ?_
  refine w_seq_region ?_
  refine opW_x (w_move rfl rfl rfl ?_)
  refine opW_x (w_lenV rfl rfl Try.underlying38 rfl ?_)
  refine opW_x (w_assign rfl rfl rfl ?_)
  refine w_keep [(0, _), (1, _), (2, _), (6, _), (7, _), (16, _)] ⟨rfl, rfl, rfl, rfl, rfl, rfl, trivial⟩ ?_
  refine w_seq ?_
  refine w_draw (keeps _ [] _) mo (by kernel_rfl) ⟨Kn.le.refl _, keepsL.refl _ _⟩ ?_
  refine any_takeP 0 rfl (by kernel_rfl) rfl (fun D B L => w_move rfl rfl rfl ⟨rfl, rfl, rfl, rfl⟩) ?_
  refine any_takeP 1 rfl (by kernel_rfl) rfl (fun D B L => w_move rfl rfl rfl ⟨rfl, rfl, rfl, rfl⟩) ?_
  refine any_take 2 rfl (by kernel_rfl) rfl (q_ofI fun D B L hI => w_cutV (a := 0) (b := i) hv1 (by omega) (by omega) rfl rfl Try.underlying38 sz9 rfl rfl ⟨_, _, rfl, rfl⟩ ⟨rfl, rfl, rfl, rfl⟩) ?_
  refine any_takeP 3 rfl (by kernel_rfl) rfl (fun D B L => w_move rfl rfl rfl ⟨rfl, rfl, rfl, rfl⟩) ?_
  refine any_takeP 4 rfl (by kernel_rfl) rfl (fun D B L => w_move rfl rfl rfl ⟨rfl, rfl, rfl, rfl⟩) ?_
  refine any_take 5 rfl (by kernel_rfl) rfl (q_ofI fun D B L hI => w_sliceV rfl rfl Try.underlying38 sz9 rfl (a := i + 1) (b := xs.length) ⟨_, _, rfl, by omega⟩ rfl (by omega) (by omega) ⟨rfl, rfl, rfl, rfl⟩) ?_
  refine any_one 6 (by kernel_rfl) rfl (by kernel_rfl) (w_appIn (ws := (arr.take xs.length).drop (i + 1)) (d := xs.length - (i + 1)) 0 rfl ha rfl rfl eo38 su38 rfl rfl (srcTail (by omega) hmc (by omega)) hws (oneTail hr1 ht) (by omega) ?_)
  refine ⟨⟨Kn.le.refl _, trivial⟩, ?_⟩
  refine any_takeP 7 rfl (by kernel_rfl) rfl (fun D B L => w_assign rfl rfl rfl ⟨rfl, rfl, rfl, rfl⟩) ?_
  refine any_done (by kernel_rfl) (by kernel_rfl) ?_
  refine thn_n ?_
  refine w_tidy [(0, _), (1, _), (2, _), (6, _), (7, _), (16, _)] [_] ⟨rfl, rfl, rfl, rfl, rfl, rfl, trivial⟩ rfl ?_
  refine w_seq_region ?_
  refine opW_x (w_move rfl rfl rfl ?_)
  refine opW_x (w_move rfl rfl rfl ?_)
  refine opW_x (w_lenV rfl rfl Try.underlying38 rfl ?_)
  refine opW_x (w_move rfl rfl rfl ?_)
  refine opW_x (w_cutV (a := i + (xs.length - (i + 1))) (b := xs.length) (v := .slice (some ⟨b, i + (xs.length - (i + 1)), none⟩) 1 (c - (i + (xs.length - (i + 1))))) (by rw [if_neg (by omega)]; simp [Addr.add_off ⟨b, 0, none⟩ _ rfl]; omega) (by omega) (by omega) rfl rfl Try.underlying38 sz9 rfl ⟨_, _, rfl, rfl⟩ ⟨_, _, rfl, rfl⟩ ?_)
  refine opW_x (w_clear (d := 1) (sz := 1) 0 rfl rfl rfl Try.underlying38 sz9 ⟨_, zo9, rfl, rfl⟩ rfl (fun _ => rfl) (by rw [setAt_length, ha]; omega) (fun zs hzs => ?_))
  refine w_tidy [(0, _), (1, _), (2, _), (6, _), (7, _), (16, _)] [_] ⟨rfl, rfl, rfl, rfl, rfl, rfl, trivial⟩ rfl ?_
  refine w_seq_region ?_
  refine opW_x (w_move rfl rfl rfl ?_)
  refine opW_x (w_assign rfl rfl rfl ?_)
  refine w_keep [(0, _), (1, _), (2, _), (6, _), (7, _), (16, _)] ⟨rfl, rfl, rfl, rfl, rfl, rfl, trivial⟩ ?_
  refine w_ret ?_
  exact endN .ret (.inl rfl) [_] [0] rfl ⟨rfl, trivial⟩ ⟨rfl, _, rfl, by rw [hel]; rfl, VecR.del hr1 hr2 ha (by rw [ht]) hi hmc rfl⟩

set_option maxRecDepth 4000 in
set_option maxHeartbeats 400000 in
theorem implTake_c (aq : Option Addr) (cq : Nat) (q : DQueue) (id : Int) (u : Str) (B : Kn) (hq : SlK B aq cq 4 ItemR q.items) : CallsB Try.prog 33 [.agg #[.int .i64 q.next, .slice aq q.items.length cq], .int .i64 id, str u] B [] (fun v B' Ls => (∃ l a cp, Ls = [l] ∧ v = .tuple #[.agg #[.int .i64 (qTake q id u).1.next, .slice a (qTake q id u).1.items.length cp], str (qTake q id u).2.1, .bool (qTake q id u).2.2] ∧ VecD l a cp 47 4 (ItemO 9) (qTake q id u).1.items ∧ (qTake q id u).2.1.length ≤ 2000000)) := by
  refine callsB_body 95 Try.func33 rfl rfl rfl (Nat.le_of_ble_eq_true rfl) ?_
  have hqn := hq.len
  refine w_seq_region ?_
  refine opW_x (w_box (l := [_, _]) rfl rfl rfl rfl (fun b1 => ?_))
  refine opW_x (w_alloc (l := [_, _]) rfl rfl zo29 rfl (fun b2 => ?_))
  refine opW_x (w_assign rfl rfl rfl ?_)
  refine opW_x (w_assign rfl rfl rfl ?_)
  refine w_tidy [(0, _), (1, _), (2, _), (3, _), (6, _), (7, _), (8, _)] [_, _] ⟨rfl, rfl, rfl, rfl, rfl, rfl, rfl, trivial⟩ rfl ?_
  refine w_seq ?_
  refine w_seq_region ?_
  refine opW_x (w_loadN [_, _] rfl rfl lk29 rfl (rowL 0 rfl rfl rfl) ?_)
  refine opW_x (w_retB rfl rfl en27 rfl (implQueue_c _ _ q _ hq) ?_)
  refine opW_x (w_not rfl rfl rfl ?_)
  refine w_keep [(0, _), (1, _), (2, _), (3, _), (6, _), (7, _), (8, _), (16, _)] ⟨rfl, rfl, rfl, rfl, rfl, rfl, rfl, rfl, trivial⟩ ?_
  refine w_cond rfl (fun g1 => ?_) (fun g1 => ?_)
  · try simp only [decide_eq_true_eq, decide_eq_false_iff_not, Bool.not_eq_true', Bool.not_eq_false', decide_not, Decidable.not_not, Int.not_lt, Int.not_le, ne_eq] at g1
    refine w_seq_region ?_
    refine opW_x (w_build (parts := []) [_, _] [_, _] rfl rfl pl29 zo29 rfl rfl rfl ?_)
    refine opW_x (w_store [_, _] 1 [_, _] rfl rfl sz29 rfl rfl rfl rfl rfl rfl rfl rfl ?_)
    refine opW_x (w_assign rfl rfl rfl ?_)
    refine opW_x (w_assign rfl rfl rfl ?_)
    refine w_tidy [(0, _), (1, _), (2, _), (3, _), (6, _), (7, _), (8, _), (16, _)] [_, _] ⟨rfl, rfl, rfl, rfl, rfl, rfl, rfl, rfl, trivial⟩ rfl ?_
    refine w_ret (thn_r ?_)
    have he : qTake q id u = (⟨0, []⟩, [], false) := by simp [qTake, g1]
    exact endE .ret (.inl rfl) [_, _, _] ⟨⟨_, rfl, .inr ⟨[_, _], lk29, rowL 1 rfl rfl rfl, rfl⟩⟩, rfl, rfl, trivial⟩ ⟨_, none, 0, rfl, by rw [he]; rfl, by rw [he]; exact VecD.nil, by rw [he]; exact Nat.zero_le _⟩
  · try simp only [decide_eq_true_eq, decide_eq_false_iff_not, Bool.not_eq_true', Bool.not_eq_false', decide_not, Decidable.not_not, Int.not_lt, Int.not_le, ne_eq] at g1
    have hqb := queueOk_next g1
    refine w_skip ?_
    refine thn_n ?_
    refine w_seq_region ?_
    refine opW_x (w_loadN [_, _] rfl rfl lk29 rfl (rowL 0 rfl rfl rfl) ?_)
    refine opW_x (w_call rfl rfl en72 rfl (queueLink_c _ _ q _ hq) ?_)
    rintro _ Bz _ hlez ⟨slz, rfl, hlz⟩
    replace hq := hq.mono ItemR.mono hlez
    obtain ⟨p0, rfl⟩ := hlz.ptr
    refine opW_x (w_alloc (l := [_]) rfl rfl zo106 rfl (fun b5 => ?_))
    refine opW_x (w_store [_] 3 [_] rfl rfl sz106 rfl rfl rfl rfl rfl rfl rfl rfl ?_)
    refine w_tidy [(0, _), (1, _), (2, _), (3, _), (6, _), (7, _), (8, _), (9, _), (16, _)] [_, _, _, _] ⟨rfl, rfl, rfl, rfl, rfl, rfl, rfl, rfl, rfl, trivial⟩ rfl ?_
    refine w_nil ?_
    refine w_tidy [(0, _), (1, _), (2, _), (3, _), (6, _), (7, _), (8, _), (9, _), (16, _)] [_, _, _, _, _] ⟨rfl, rfl, rfl, rfl, rfl, rfl, rfl, rfl, rfl, trivial⟩ rfl ?_
    refine w_seq_region ?_
    refine opW_x (w_assign rfl rfl rfl ?_)
    refine w_keep [(0, _), (1, _), (2, _), (3, _), (6, _), (7, _), (8, _), (9, _), (10, _), (16, _)] ⟨rfl, rfl, rfl, rfl, rfl, rfl, rfl, rfl, rfl, rfl, trivial⟩ ?_
    refine w_seq ?_
    refine w_block ?_
    refine w_loopE (α := QTk) [0, 1, 2, 3, 6, 7, 8, 9, 16] (fun g => [(10, ptr ⟨g.bl, g.o, none⟩)]) [2, 3, 4] (fun g => [g.cells, box1 g.bl g.cs g.Tc, g.rest]) (fun g Bx => Bx = Bz ∧ g.pre ++ g.xs = q.items ∧ LinkD 9 109 106 b5 g.bl g.o g.cs g.Tc g.rest g.pre ∧ g.cs[g.o]? = some (.pointer g.p) ∧ ListD 9 109 (.pointer g.p) g.xs g.cells ∧ (∀ y, y ∈ g.pre → y.id ≠ id)) (fun g => g.xs.length) ⟨[], q.items, p0, b5, 0, [.pointer p0], 106, [], _⟩ ⟨rfl, trivial⟩ rfl (⟨rfl, rfl, .init, rfl, hlz, (fun _ h => by cases h)⟩) (fun g B6 hle6 hI => ?_)
    obtain ⟨rfl, hxs, hlk, hcs, hl, hpre⟩ := hI
    refine w_tidy [(0, _), (1, _), (2, _), (3, _), (6, _), (7, _), (8, _), (9, _), (10, _), (16, _)] [_, _, _, _, _] ⟨rfl, rfl, rfl, rfl, rfl, rfl, rfl, rfl, rfl, rfl, trivial⟩ rfl ?_
    refine w_seq ?_
    refine w_seq_region ?_
    refine opW_x (w_move rfl rfl rfl ?_)
    refine opW_x (w_nilCheck rfl rfl rfl ?_)
    refine opW_x (w_load1 rfl rfl lk106 rfl (atL 3 rfl rfl hcs) ?_)
    refine opW_x (w_neqE rfl rfl rfl rfl rfl (eqPtrNil Try.underlying106) ?_)
    refine opW_x (w_move rfl rfl rfl ?_)
    refine r_split (d := 24) rfl (fun g2 => ?_) (fun g2 => ?_)
    · try simp only [decide_eq_true_eq, decide_eq_false_iff_not, Bool.not_eq_true', Bool.not_eq_false', decide_not, Decidable.not_not, Int.not_lt, Int.not_le, ne_eq] at g2
      obtain ⟨y, ys, b8, q8, c8, np, ins8, rest8, hp8, hrest, hperm, hy5, hy6, hy7, hy8, hl8⟩ := hl.more (by simpa using g2)
      rw [hp8] at hcs ⊢
      have hys : g.pre ++ y :: ys = q.items := by rw [← hrest]; exact hxs
      have hlen := congrArg List.length hys
      rw [List.length_append, List.length_cons] at hlen
      have hset := set_same hcs
      have hcl := lt_of_get hcs
      have hy5k := hy5.anyK (B' := B6) StrR.any
      refine opW_split 2 rfl hperm ?_
      refine opW_x (w_move rfl rfl rfl ?_)
      refine opW_x (w_nilCheck rfl rfl rfl ?_)
      refine opW_x (w_load1 rfl rfl lk106 rfl (atL 3 rfl rfl hcs) ?_)
      refine opW_x (w_nilCheck rfl rfl rfl ?_)
      refine opW_x (w_fieldAddr rfl rfl fo109x0 rfl ?_)
      refine opW_x (w_fieldAddr rfl rfl fo47x0 rfl ?_)
      refine opW_x (w_load1 rfl rfl lk3 rfl (atL 2 rfl rfl rfl) ?_)
      refine opW_x (w_move rfl rfl rfl ?_)
      refine opW_x (w_neqI rfl rfl rfl rfl ?_)
      refine opW_x (w_pickT rfl rfl rfl rfl ?_)
      refine w_tidy [(0, _), (1, _), (2, _), (3, _), (6, _), (7, _), (8, _), (9, _), (10, _), (16, _), (34, _)] [_, _, _, _, _, _, _] ⟨rfl, rfl, rfl, rfl, rfl, rfl, rfl, rfl, rfl, rfl, rfl, trivial⟩ rfl ?_
      refine w_cond rfl (fun g3 => ?_) (fun g3 => ?_)
      · try simp only [decide_eq_true_eq, decide_eq_false_iff_not, Bool.not_eq_true', Bool.not_eq_false', decide_not, Decidable.not_not, Int.not_lt, Int.not_le, ne_eq] at g3
        refine w_skip ?_
        refine thn_n ?_
        refine w_block ?_
        refine w_region ?_
        refine opW_x (w_move rfl rfl rfl ?_)
        refine opW_x (w_nilCheck rfl rfl rfl ?_)
        refine opW_x (w_load1 rfl rfl lk106 rfl (atL 3 rfl rfl hcs) ?_)
        refine opW_x (w_nilCheck rfl rfl rfl ?_)
        refine opW_x (w_fieldAddr rfl rfl fo109x1 rfl ?_)
        refine opW_x (w_assign rfl rfl rfl ?_)
        refine inB_n ?_
        have hset2 : g.cs.set g.o (ptr ⟨b8, 0, none⟩) = g.cs := hset
        refine ⟨⟨g.pre ++ [y], ys, np, b8, 4, _, 109, g.rest ++ (box1 g.bl (g.cs.set g.o (ptr ⟨b8, 0, none⟩)) g.Tc ++ ins8), rest8⟩, by simp only []; rw [hrest]; simp, ⟨rfl, by simpa using hys, LinkD.step (row := [.int .i64 y.id, str y.fr, str y.text, .slice q8 y.left.length c8]) (np := .pointer np) hlk rfl ⟨_, _, rfl, hy5, hy6, hy7, hy8⟩, rfl, hl8, fun z hz => ?_⟩, ⟨rfl, rfl, rfl, rfl, rfl, rfl, rfl, rfl, rfl, rfl, trivial⟩, ⟨[], ?_⟩, rfl⟩
        · rcases List.mem_append.1 hz with hz | hz
          · exact hpre z hz
          · rw [List.mem_singleton.1 hz]; exact g3
        · rw [hset2]
          exact permC fun f g9 h0 ha hc => by simp only [setAll, List.set_cons_succ, List.set_cons_zero, List.flatten_cons, List.flatten_nil, List.append_nil, List.cons_append, List.nil_append, box1, Addr.add_blk, ha, hc, h0]; try omega
      · try simp only [decide_eq_true_eq, decide_eq_false_iff_not, Bool.not_eq_true', Bool.not_eq_false', decide_not, Decidable.not_not, Int.not_lt, Int.not_le, ne_eq] at g3
        refine w_exit (thn_x (rndE_x (inB_hit (thn_n ?_))))
        refine w_seq ?_
        refine w_seq_region ?_
        refine opW_x (w_move rfl rfl rfl ?_)
        refine opW_x (w_nilCheck rfl rfl rfl ?_)
        refine opW_x (w_load1 rfl rfl lk106 rfl (atL 3 rfl rfl hcs) ?_)
        refine opW_x (w_eqlE rfl rfl rfl rfl rfl (eqPtrNil Try.underlying106) ?_)
        refine w_keep [(0, _), (1, _), (2, _), (3, _), (6, _), (7, _), (8, _), (9, _), (10, _), (16, _), (34, _), (43, _)] ⟨rfl, rfl, rfl, rfl, rfl, rfl, rfl, rfl, rfl, rfl, rfl, rfl, trivial⟩ ?_
        refine w_cond rfl (fun g4 => by cases g4) (fun g4 => ?_)
        try simp only [decide_eq_true_eq, decide_eq_false_iff_not, Bool.not_eq_true', Bool.not_eq_false', decide_not, Decidable.not_not, Int.not_lt, Int.not_le, ne_eq] at g4
        refine w_skip ?_
        refine thn_n ?_
        refine w_seq_region ?_
        refine opW_x (w_move rfl rfl rfl ?_)
        refine opW_x (w_nilCheck rfl rfl rfl ?_)
        refine opW_x (w_load1 rfl rfl lk106 rfl (atL 3 rfl rfl hcs) ?_)
        refine opW_x (w_nilCheck rfl rfl rfl ?_)
        refine opW_x (w_fieldAddr rfl rfl fo109x0 rfl ?_)
        refine opW_x (w_assign rfl rfl rfl ?_)
        refine w_keep [(0, _), (1, _), (2, _), (3, _), (6, _), (7, _), (8, _), (9, _), (10, _), (11, _), (16, _), (34, _), (43, _)] ⟨rfl, rfl, rfl, rfl, rfl, rfl, rfl, rfl, rfl, rfl, rfl, rfl, rfl, trivial⟩ ?_
        refine w_seq ?_
        refine w_draw (keeps _ [2] _) mo (by kernel_rfl) ⟨Kn.le.refl _, keepsL.refl _ _⟩ ?_
        refine any_takeP 0 rfl (by kernel_rfl) rfl (fun D B L => w_move rfl rfl rfl ⟨rfl, rfl, rfl, rfl⟩) ?_
        refine any_take 1 rfl (by kernel_rfl) rfl (q_ofI fun D B L hI => w_nilCheck rfl rfl rfl ⟨rfl, rfl, rfl, rfl⟩) ?_
        refine any_take 2 rfl (by kernel_rfl) rfl (q_ofI fun D B L hI => w_fieldAddr rfl rfl fo47x2 rfl ⟨rfl, rfl, rfl, rfl⟩) ?_
        refine any_take 3 rfl (by kernel_rfl) rfl (q_ofI fun D B L hI => w_load1 rfl rfl lk9 rfl (atL 2 (hI.2.1.trans rfl) rfl rfl) ⟨rfl, rfl, rfl, rfl⟩) ?_
        refine any_takeP 4 rfl (by kernel_rfl) rfl (fun D B L => w_move rfl rfl rfl ⟨rfl, rfl, rfl, rfl⟩) ?_
        refine any_take 5 rfl (by kernel_rfl) rfl (q_ofI fun D B L hI => w_nilCheck rfl rfl rfl ⟨rfl, rfl, rfl, rfl⟩) ?_
        refine any_take 6 rfl (by kernel_rfl) rfl (q_ofI fun D B L hI => w_fieldAddr rfl rfl fo47x3 rfl ⟨rfl, rfl, rfl, rfl⟩) ?_
        refine any_take 7 rfl (by kernel_rfl) rfl (q_ofI fun D B L hI => w_load1 rfl rfl lk38 rfl (atL 2 (hI.2.1.trans rfl) rfl rfl) ⟨rfl, rfl, rfl, rfl⟩) ?_
        refine any_takeP 8 rfl (by kernel_rfl) rfl (fun D B L => w_move rfl rfl rfl ⟨rfl, rfl, rfl, rfl⟩) ?_
        refine any_one 9 (by kernel_rfl) rfl (by kernel_rfl) (w_ret1 5 rfl rfl rfl en74 rfl (RetB.borrow fun hm7 => index_c _ _ _ _ _ (hy5k.lend StrR.mono hm7 (by first | omega | (simp; done) | (simp; omega)))) ?_)
        refine ⟨⟨Kn.le.refl _, ⟨rfl, trivial⟩⟩, ?_⟩
        refine any_takeP 10 rfl (by kernel_rfl) rfl (fun D B L => w_assign rfl rfl rfl ⟨rfl, rfl, rfl, rfl⟩) ?_
        refine any_takeP 11 rfl (by kernel_rfl) rfl (fun D B L => w_assign rfl rfl rfl ⟨rfl, rfl, rfl, rfl⟩) ?_
        refine any_done (by kernel_rfl) (by kernel_rfl) ?_
        refine thn_n ?_
        refine w_keep [(0, _), (1, _), (2, _), (3, _), (6, _), (7, _), (8, _), (9, _), (10, _), (11, _), (12, _), (13, _), (16, _), (34, _), (43, _)] ⟨rfl, rfl, rfl, rfl, rfl, rfl, rfl, rfl, rfl, rfl, rfl, rfl, rfl, rfl, rfl, trivial⟩ ?_
        refine w_seq ?_
        refine w_seq_region ?_
        refine opW_x (w_move rfl rfl rfl ?_)
        refine opW_x (w_lss rfl rfl rfl rfl ?_)
        refine w_keep [(0, _), (1, _), (2, _), (3, _), (6, _), (7, _), (8, _), (9, _), (10, _), (11, _), (12, _), (13, _), (16, _), (34, _), (43, _), (62, _)] ⟨rfl, rfl, rfl, rfl, rfl, rfl, rfl, rfl, rfl, rfl, rfl, rfl, rfl, rfl, rfl, rfl, trivial⟩ ?_
        refine w_cond rfl (fun g5 => ?_) (fun g5 => ?_)
        · try simp only [decide_eq_true_eq, decide_eq_false_iff_not, Bool.not_eq_true', Bool.not_eq_false', decide_not, Decidable.not_not, Int.not_lt, Int.not_le, ne_eq] at g5
          refine w_seq_region ?_
          refine opW_x (w_loadN [_, _] rfl rfl lk29 rfl (rowL 0 rfl rfl rfl) ?_)
          refine opW_x (w_call rfl rfl en65 rfl (queueClone_c _ _ q _ hq) ?_)
          rintro _ Bw _ hlew ⟨lw, qw, cw, rfl, rfl, hdw⟩
          replace hq := hq.mono ItemR.mono hlew
          replace hy5k := hy5k.mono StrR.mono hlew
          refine opW_x (w_store [_, _] 1 [_, _] rfl rfl sz29 rfl rfl rfl rfl rfl rfl rfl rfl ?_)
          refine opW_x (w_assign rfl rfl rfl ?_)
          refine opW_x (w_assign rfl rfl rfl ?_)
          refine w_tidy [(0, _), (1, _), (2, _), (3, _), (6, _), (7, _), (8, _), (9, _), (10, _), (11, _), (12, _), (13, _), (16, _), (34, _), (43, _), (62, _)] [_, _, _, _, _, _, _, _] ⟨rfl, rfl, rfl, rfl, rfl, rfl, rfl, rfl, rfl, rfl, rfl, rfl, rfl, rfl, rfl, rfl, trivial⟩ rfl ?_
          refine w_ret (thn_r ?_)
          have hnu : ¬ u ∈ y.left := fun h => absurd (idxS_mem.2 h) (by omega)
          have he : qTake q id u = (q, [], false) := by rw [← g3]; exact takeQ_miss g1 hys hnu
          exact endN .ret (.inl rfl) [_, _, _] [7] rfl ⟨⟨_, rfl, .inr ⟨[_, _], lk29, rowL 1 rfl rfl rfl, rfl⟩⟩, rfl, rfl, trivial⟩ ⟨_, _, _, rfl, by rw [he]; rfl, by rw [he]; exact hdw, by rw [he]; exact Nat.zero_le _⟩
        · try simp only [decide_eq_true_eq, decide_eq_false_iff_not, Bool.not_eq_true', Bool.not_eq_false', decide_not, Decidable.not_not, Int.not_lt, Int.not_le, ne_eq] at g5
          obtain ⟨k, hke, hkg⟩ := idxS_get (by omega)
          rw [hke]
          have hkl := lt_of_get hkg
          have hy9 : y ∈ q.items := by rw [← hys]; simp
          have hw := without_idx (itemOk_left (queueOk_item g1 hy9)).2 hkg
          have hwn : (without y.left u).length = y.left.length - 1 := by rw [hw, List.length_append, List.length_take, List.length_drop]; omega
          have hdn : (y.left.take k ++ y.left.drop (k + 1)).length = y.left.length - 1 := by rw [← hw]; exact hwn
          refine w_skip ?_
          refine thn_n ?_
          refine w_seq_region ?_
          refine opW_x (w_move rfl rfl rfl ?_)
          refine opW_x (w_move rfl rfl rfl ?_)
          refine opW_x (w_nilCheck rfl rfl rfl ?_)
          refine opW_x (w_fieldAddr rfl rfl fo47x3 rfl ?_)
          refine opW_x (w_load1 rfl rfl lk38 rfl (atL 2 rfl rfl rfl) ?_)
          refine opW_x (w_move rfl rfl rfl ?_)
          refine opW_x (w_move rfl rfl rfl ?_)
          refine opW_x (w_add rfl rfl rfl rfl (by first | exact wrI64 (by first | omega | (simp; done) | (simp; omega)) (by first | omega | (simp; done) | (simp; omega)) | rfl) ?_)
          refine opW_x (w_callN [5] rfl rfl rfl rfl en75 rfl (deleteS_c _ _ _ _ _ (by omega) (by omega) _ _ hy5k) ?_)
          rintro _ _ _ hlee ⟨rfl, le, rfl, rfl, hve⟩
          refine opW_x (w_nilCheck rfl rfl rfl ?_)
          refine opW_x (w_fieldAddr rfl rfl fo47x3 rfl ?_)
          refine opW_x (w_store [_] 2 [_, _, _, _, _] rfl rfl sz38 rfl rfl rfl rfl rfl rfl rfl rfl ?_)
          refine w_tidy [(0, _), (1, _), (2, _), (3, _), (6, _), (7, _), (8, _), (9, _), (10, _), (11, _), (12, _), (13, _), (16, _), (34, _), (43, _), (62, _)] [_, _, _, _, _, _, _] ⟨rfl, rfl, rfl, rfl, rfl, rfl, rfl, rfl, rfl, rfl, rfl, rfl, rfl, rfl, rfl, rfl, trivial⟩ rfl ?_
          refine w_seq ?_
          refine w_seq_region ?_
          refine opW_x (w_move rfl rfl rfl ?_)
          refine opW_x (w_nilCheck rfl rfl rfl ?_)
          refine opW_x (w_fieldAddr rfl rfl fo47x3 rfl ?_)
          refine opW_x (w_load1 rfl rfl lk38 rfl (atL 2 rfl rfl rfl) ?_)
          refine opW_x (w_lenV rfl rfl Try.underlying38 rfl ?_)
          refine opW_x (w_eqlI rfl rfl rfl rfl ?_)
          refine w_keep [(0, _), (1, _), (2, _), (3, _), (6, _), (7, _), (8, _), (9, _), (10, _), (11, _), (12, _), (13, _), (16, _), (34, _), (43, _), (62, _), (81, _)] ⟨rfl, rfl, rfl, rfl, rfl, rfl, rfl, rfl, rfl, rfl, rfl, rfl, rfl, rfl, rfl, rfl, rfl, trivial⟩ ?_
          refine w_cond rfl (fun g6 => ?_) (fun g6 => ?_)
          · try simp only [decide_eq_true_eq, decide_eq_false_iff_not, Bool.not_eq_true', Bool.not_eq_false', decide_not, Decidable.not_not, Int.not_lt, Int.not_le, ne_eq] at g6
            refine w_region ?_
            refine opW_x (w_move rfl rfl rfl ?_)
            refine opW_x (w_move rfl rfl rfl ?_)
            refine opW_x (w_nilCheck rfl rfl rfl ?_)
            refine opW_x (w_load1 rfl rfl lk106 rfl (atL 3 rfl rfl hcs) ?_)
            refine opW_x (w_nilCheck rfl rfl rfl ?_)
            refine opW_x (w_fieldAddr rfl rfl fo109x1 rfl ?_)
            refine opW_x (w_load1 rfl rfl lk106 rfl (atL 2 rfl rfl rfl) ?_)
            refine opW_x (w_nilCheck rfl rfl rfl ?_)
            refine opW_x (w_store [_] 3 (g.cs.set g.o (.pointer np)) rfl rfl sz106 rfl rfl rfl rfl rfl rfl (by rw [Nat.ble_eq]; exact hcl) (setAt_one hcl) ?_)
            refine thn_n ?_
            obtain ⟨v0, s0, hl0, hp0⟩ := hlk (.pointer np) ys rest8 hl8
            refine w_re [3, 4, 6] (ss' := [box1 b5 [v0] 106, s0, []]) rfl rfl ((show List.Perm _ _ from permC fun f g9 h0 ha hc => by simp only [setAll, List.set_cons_succ, List.set_cons_zero, List.flatten_cons, List.flatten_nil, List.append_nil, List.cons_append, List.nil_append, box1, Addr.add_blk, ha, hc, h0]; try omega).trans (hp0.trans (permC fun f g9 h0 ha hc => by simp only [setAll, List.set_cons_succ, List.set_cons_zero, List.flatten_cons, List.flatten_nil, List.append_nil, List.cons_append, List.nil_append, box1, Addr.add_blk, ha, hc, h0]; try omega))) ?_
            refine w_tidy [(0, _), (1, _), (2, _), (3, _), (6, _), (7, _), (8, _), (9, _), (10, _), (11, _), (12, _), (13, _), (16, _), (34, _), (43, _), (62, _), (81, _)] [_, _, _, _, _, _, _] ⟨rfl, rfl, rfl, rfl, rfl, rfl, rfl, rfl, rfl, rfl, rfl, rfl, rfl, rfl, rfl, rfl, rfl, trivial⟩ rfl ?_
            have hl9 : (g.pre ++ ys).length ≤ 2000000 := by simp only [List.length_append, List.length_cons]; omega
            refine w_seq_region ?_
            refine opW_x (w_fieldAddr rfl rfl fo29x0 rfl ?_)
            refine opW_x (w_load1 rfl rfl lk3 rfl (atL 0 rfl rfl rfl) ?_)
            refine opW_x (w_load1 rfl rfl lk106 rfl (atL 3 rfl rfl rfl) ?_)
            refine opW_x (w_callN [4] rfl rfl rfl rfl en76 rfl (queueOf_c _ _ _ _ _ (by first | assumption | omega) hl0) ?_)
            rintro _ _ _ hlef ⟨rfl, ldf, adf, cdf, rfl, rfl, hdf⟩
            refine opW_x (w_move rfl rfl rfl ?_)
            refine opW_x (w_store [_, _] 1 [_, _] rfl rfl sz29 rfl rfl rfl rfl rfl rfl rfl rfl ?_)
            refine opW_x (w_assign rfl rfl rfl ?_)
            refine opW_x (w_assign rfl rfl rfl ?_)
            refine w_tidy [(0, _), (1, _), (2, _), (3, _), (6, _), (7, _), (8, _), (9, _), (10, _), (11, _), (12, _), (13, _), (16, _), (34, _), (43, _), (62, _), (81, _)] [_, _, _, _, _, _, _] ⟨rfl, rfl, rfl, rfl, rfl, rfl, rfl, rfl, rfl, rfl, rfl, rfl, rfl, rfl, rfl, rfl, rfl, trivial⟩ rfl ?_
            refine w_ret ?_
            have he : qTake q id u = (⟨q.next, g.pre ++ ys⟩, y.text, true) := by rw [← g3, takeQ_found g1 hys (List.mem_of_getElem? hkg), if_neg (by omega)]
            exact endN .ret (.inl rfl) [_, _, _] [4] rfl ⟨⟨_, rfl, .inr ⟨[_, _], lk29, rowL 1 rfl rfl rfl, rfl⟩⟩, rfl, rfl, trivial⟩ ⟨_, _, _, rfl, by rw [he]; rfl, by rw [he]; exact hdf, by rw [he]; exact hy7⟩
          · try simp only [decide_eq_true_eq, decide_eq_false_iff_not, Bool.not_eq_true', Bool.not_eq_false', decide_not, Decidable.not_not, Int.not_lt, Int.not_le, ne_eq] at g6
            obtain ⟨v0, s0, hl0, hp0⟩ := hlk (ptr ⟨b8, 0, none⟩) (⟨y.id, y.fr, y.text, y.left.take k ++ y.left.drop (k + 1)⟩ :: ys) _ ⟨_, _, _, _, _, rfl, .refl _, ⟨_, _, rfl, hve.anyK StrR.any, hy6, hy7, by simp only []; omega⟩, hl8⟩
            rw [hset] at hp0
            refine w_re [2, 3, 4, 5, 6] (ss' := [[], box1 b5 [v0] 106, s0, [], []]) rfl rfl ((show List.Perm _ _ from permC fun f g9 h0 ha hc => by simp only [setAll, List.set_cons_succ, List.set_cons_zero, List.flatten_cons, List.flatten_nil, List.append_nil, List.cons_append, List.nil_append, box1, Addr.add_blk, ha, hc, h0]; try omega).trans (hp0.trans (permC fun f g9 h0 ha hc => by simp only [setAll, List.set_cons_succ, List.set_cons_zero, List.flatten_cons, List.flatten_nil, List.append_nil, List.cons_append, List.nil_append, box1, Addr.add_blk, ha, hc, h0]; try omega))) ?_
            refine w_tidy [(0, _), (1, _), (2, _), (3, _), (6, _), (7, _), (8, _), (9, _), (10, _), (11, _), (12, _), (13, _), (16, _), (34, _), (43, _), (62, _), (81, _)] [_, _, _, _, _, _, _] ⟨rfl, rfl, rfl, rfl, rfl, rfl, rfl, rfl, rfl, rfl, rfl, rfl, rfl, rfl, rfl, rfl, rfl, trivial⟩ rfl ?_
            have hl9 : (g.pre ++ (⟨y.id, y.fr, y.text, y.left.take k ++ y.left.drop (k + 1)⟩ :: ys)).length ≤ 2000000 := by simp only [List.length_append, List.length_cons]; omega
            refine w_skip ?_
            refine thn_n ?_
            refine w_seq_region ?_
            refine opW_x (w_fieldAddr rfl rfl fo29x0 rfl ?_)
            refine opW_x (w_load1 rfl rfl lk3 rfl (atL 0 rfl rfl rfl) ?_)
            refine opW_x (w_load1 rfl rfl lk106 rfl (atL 3 rfl rfl rfl) ?_)
            refine opW_x (w_callN [4] rfl rfl rfl rfl en76 rfl (queueOf_c _ _ _ _ _ (by first | assumption | omega) hl0) ?_)
            rintro _ _ _ hlef ⟨rfl, ldf, adf, cdf, rfl, rfl, hdf⟩
            refine opW_x (w_move rfl rfl rfl ?_)
            refine opW_x (w_store [_, _] 1 [_, _] rfl rfl sz29 rfl rfl rfl rfl rfl rfl rfl rfl ?_)
            refine opW_x (w_assign rfl rfl rfl ?_)
            refine opW_x (w_assign rfl rfl rfl ?_)
            refine w_tidy [(0, _), (1, _), (2, _), (3, _), (6, _), (7, _), (8, _), (9, _), (10, _), (11, _), (12, _), (13, _), (16, _), (34, _), (43, _), (62, _), (81, _)] [_, _, _, _, _, _, _] ⟨rfl, rfl, rfl, rfl, rfl, rfl, rfl, rfl, rfl, rfl, rfl, rfl, rfl, rfl, rfl, rfl, rfl, trivial⟩ rfl ?_
            refine w_ret ?_
            have he : qTake q id u = (⟨q.next, g.pre ++ (⟨y.id, y.fr, y.text, y.left.take k ++ y.left.drop (k + 1)⟩ :: ys)⟩, y.text, true) := by rw [← g3, takeQ_found g1 hys (List.mem_of_getElem? hkg), if_pos (by omega), hw]
            exact endN .ret (.inl rfl) [_, _, _] [4] rfl ⟨⟨_, rfl, .inr ⟨[_, _], lk29, rowL 1 rfl rfl rfl, rfl⟩⟩, rfl, rfl, trivial⟩ ⟨_, _, _, rfl, by rw [he]; rfl, by rw [he]; exact hdf, by rw [he]; exact hy7⟩
    · try simp only [decide_eq_true_eq, decide_eq_false_iff_not, Bool.not_eq_true', Bool.not_eq_false', decide_not, Decidable.not_not, Int.not_lt, Int.not_le, ne_eq] at g2
      refine opW_x (w_pass rfl rfl ?_)
      refine opW_x (w_pass rfl rfl ?_)
      refine opW_x (w_pass rfl rfl ?_)
      refine opW_x (w_pass rfl rfl ?_)
      refine opW_x (w_pass rfl rfl ?_)
      refine opW_x (w_pass rfl rfl ?_)
      refine opW_x (w_pass rfl rfl ?_)
      refine opW_x (w_pass rfl rfl ?_)
      refine opW_x (w_pass rfl rfl ?_)
      refine opW_x (w_pickF rfl rfl rfl rfl ?_)
      refine w_keep [(0, _), (1, _), (2, _), (3, _), (6, _), (7, _), (8, _), (9, _), (10, _), (16, _), (34, _)] ⟨rfl, rfl, rfl, rfl, rfl, rfl, rfl, rfl, rfl, rfl, rfl, trivial⟩ ?_
      refine w_cond (t := false) rfl (fun h => Bool.noConfusion h) (fun _ => ?_)
      refine w_exit (thn_x (rndE_x (inB_hit (thn_n ?_))))
      refine w_seq ?_
      refine w_seq_region ?_
      refine opW_x (w_move rfl rfl rfl ?_)
      refine opW_x (w_nilCheck rfl rfl rfl ?_)
      refine opW_x (w_load1 rfl rfl lk106 rfl (atL 3 rfl rfl hcs) ?_)
      refine opW_x (w_eqlE rfl rfl rfl rfl rfl (eqPtrNil Try.underlying106) ?_)
      refine w_keep [(0, _), (1, _), (2, _), (3, _), (6, _), (7, _), (8, _), (9, _), (10, _), (16, _), (34, _), (43, _)] ⟨rfl, rfl, rfl, rfl, rfl, rfl, rfl, rfl, rfl, rfl, rfl, rfl, trivial⟩ ?_
      refine w_cond rfl (fun g4 => ?_) (fun g4 => by simp_all)
      try simp only [decide_eq_true_eq, decide_eq_false_iff_not, Bool.not_eq_true', Bool.not_eq_false', decide_not, Decidable.not_not, Int.not_lt, Int.not_le, ne_eq] at g4
      refine w_seq_region ?_
      refine opW_x (w_loadN [_, _] rfl rfl lk29 rfl (rowL 0 rfl rfl rfl) ?_)
      refine opW_x (w_call rfl rfl en65 rfl (queueClone_c _ _ q _ hq) ?_)
      rintro _ Bw _ hlew ⟨lw, qw, cw, rfl, rfl, hdw⟩
      replace hq := hq.mono ItemR.mono hlew
      refine opW_x (w_store [_, _] 1 [_, _] rfl rfl sz29 rfl rfl rfl rfl rfl rfl rfl rfl ?_)
      refine opW_x (w_assign rfl rfl rfl ?_)
      refine opW_x (w_assign rfl rfl rfl ?_)
      refine w_tidy [(0, _), (1, _), (2, _), (3, _), (6, _), (7, _), (8, _), (9, _), (10, _), (16, _), (34, _), (43, _)] [_, _, _, _, _, _] ⟨rfl, rfl, rfl, rfl, rfl, rfl, rfl, rfl, rfl, rfl, rfl, rfl, trivial⟩ rfl ?_
      refine w_ret (thn_r ?_)
      have hx0 := hl.done (by simpa using g2)
      rw [hx0, List.append_nil] at hxs
      have he : qTake q id u = (q, [], false) := takeQ_no g1 (fun x hx e => hpre x (hxs ▸ hx) e.1)
      exact endN .ret (.inl rfl) [_, _, _] [5] rfl ⟨⟨_, rfl, .inr ⟨[_, _], lk29, rowL 1 rfl rfl rfl, rfl⟩⟩, rfl, rfl, trivial⟩ ⟨_, _, _, rfl, by rw [he]; rfl, by rw [he]; exact hdw, by rw [he]; exact Nat.zero_le _⟩

set_option maxRecDepth 4000 in
set_option maxHeartbeats 400000 in
theorem fnTakeNone_w (W : World) (q1 : Option Addr) (m1 c1 : Nat) (h1 : m1 ≤ c1) (hb1 : BytesAt (allOf W) q1 m1) : Calls Try.prog 9 [.slice q1 m1 c1].toArray W fun e w' => ∃ v, e = .returned v ∧ Kept W w' ∧ ∃ (B' : Kn) (Ls' : List Cells), Sat B' Ls'.flatten w' ∧ v = .bool true := by
  refine calls_of (args := [.slice q1 m1 c1]) 105 Try.func9 rfl rfl rfl (Nat.le_of_ble_eq_true rfl) ?_
  generalize allOf W = B at hb1 ⊢
  refine w_seq_region ?_
  refine opW_x (w_assign rfl rfl rfl ?_)
  refine w_keep [(0, _), (2, _)] ⟨rfl, rfl, trivial⟩ ?_
  refine w_seq ?_
  refine w_seq_region ?_
  refine opW_x (w_move rfl rfl rfl ?_)
  refine opW_x (w_lenV rfl rfl Try.underlying22 rfl ?_)
  refine opW_x (w_gtr rfl rfl rfl rfl ?_)
  refine w_keep [(0, _), (2, _), (15, _)] ⟨rfl, rfl, rfl, trivial⟩ ?_
  refine w_cond rfl (fun g1 => ?_) (fun g1 => ?_)
  · try simp only [decide_eq_true_eq, decide_eq_false_iff_not, Bool.not_eq_true', Bool.not_eq_false', decide_not, Decidable.not_not, Int.not_lt, Int.not_le, ne_eq] at g1
    refine w_seq_region ?_
    refine opW_x (w_assign rfl rfl rfl ?_)
    refine w_keep [(0, _), (2, _), (15, _)] ⟨rfl, rfl, rfl, trivial⟩ ?_
    refine w_ret (thn_r ?_)
    exact end0 .ret (.inl rfl) [_] ⟨rfl, trivial⟩ (by first | rfl | exact bool_eq (by simp [*]))
  · try simp only [decide_eq_true_eq, decide_eq_false_iff_not, Bool.not_eq_true', Bool.not_eq_false', decide_not, Decidable.not_not, Int.not_lt, Int.not_le, ne_eq] at g1
    refine w_skip ?_
    refine thn_n ?_
    refine w_seq_region ?_
    refine opW_x (w_move rfl rfl rfl ?_)
    refine opW_x (w_callP rfl rfl en34 rfl (drawQT_c _ _ _ (by omega) _ (by assumption)) ?_)
    intro vd Bd hled
    rintro ⟨aqd, cqd, qqd, idd, ud, rfl, hqd, hud⟩
    have hqdn := hqd.len
    refine opW_x (w_move rfl rfl rfl ?_)
    refine opW_x (w_extract rfl rfl rfl rfl ?_)
    refine opW_x (w_extract rfl rfl rfl rfl ?_)
    refine opW_x (w_extract rfl rfl rfl rfl ?_)
    refine opW_x (w_alloc (l := [_, _]) rfl rfl zo29 rfl (fun b2 => ?_))
    refine opW_x (w_store [_, _] 0 [_, _] rfl rfl sz29 rfl rfl rfl rfl rfl rfl rfl rfl ?_)
    refine opW_x (w_assign rfl rfl rfl ?_)
    refine opW_x (w_assign rfl rfl rfl ?_)
    refine w_tidy [(0, _), (2, _), (3, _), (4, _), (5, _), (15, _)] [_] ⟨rfl, rfl, rfl, rfl, rfl, rfl, trivial⟩ rfl ?_
    refine w_seq_region ?_
    refine opW_x (w_loadN [_, _] rfl rfl lk29 rfl (rowL 0 rfl rfl rfl) ?_)
    refine opW_x (w_move rfl rfl rfl ?_)
    refine opW_x (w_move rfl rfl rfl ?_)
    refine opW_x (w_call rfl rfl en33 rfl (implTake_c _ _ qqd idd ud _ hqd) ?_)
    rintro _ Ba _ hlea ⟨la, aa, ca, rfl, rfl, hda, hta⟩
    replace hqd := hqd.mono ItemR.mono hlea
    refine opW_x (w_move rfl rfl rfl ?_)
    refine opW_x (w_extract rfl rfl rfl rfl ?_)
    refine opW_x (w_extract rfl rfl rfl rfl ?_)
    refine opW_x (w_extract rfl rfl rfl rfl ?_)
    refine opW_x (w_alloc (l := [_, _]) rfl rfl zo29 rfl (fun b4 => ?_))
    refine opW_x (w_store [_, _] 2 [_, _] rfl rfl sz29 rfl rfl rfl rfl rfl rfl rfl rfl ?_)
    refine opW_x (w_assign rfl rfl rfl ?_)
    refine opW_x (w_assign rfl rfl rfl ?_)
    refine w_tidy [(0, _), (2, _), (3, _), (4, _), (5, _), (6, _), (7, _), (8, _), (15, _)] [_, _, _] ⟨rfl, rfl, rfl, rfl, rfl, rfl, rfl, rfl, rfl, trivial⟩ rfl ?_
    refine w_seq_region ?_
    refine opW_x (w_loadN [_, _] rfl rfl lk29 rfl (rowL 0 rfl rfl rfl) ?_)
    refine opW_x (w_move rfl rfl rfl ?_)
    refine opW_x (w_move rfl rfl rfl ?_)
    refine opW_x (w_call rfl rfl en35 rfl (specTake_c _ _ qqd idd ud _ hqd) ?_)
    rintro _ Bb _ hleb ⟨lb, ab, cb, rfl, rfl, hvb, htb⟩
    replace hqd := hqd.mono ItemR.mono hleb
    replace hvb := hvb.mono ItemR.mono Kn.less_le
    have hal : (qTake qqd idd ud).1.items.length ≤ 2000000 := qTake_le hqdn
    refine opW_x (w_move rfl rfl rfl ?_)
    refine opW_x (w_extract rfl rfl rfl rfl ?_)
    refine opW_x (w_extract rfl rfl rfl rfl ?_)
    refine opW_x (w_extract rfl rfl rfl rfl ?_)
    refine opW_x (w_alloc (l := [_, _]) rfl rfl zo29 rfl (fun b6 => ?_))
    refine opW_x (w_store [_, _] 4 [_, _] rfl rfl sz29 rfl rfl rfl rfl rfl rfl rfl rfl ?_)
    refine opW_x (w_assign rfl rfl rfl ?_)
    refine opW_x (w_assign rfl rfl rfl ?_)
    refine w_tidy [(0, _), (2, _), (3, _), (4, _), (5, _), (6, _), (7, _), (8, _), (9, _), (10, _), (11, _), (15, _)] [_, _, _, _, _] ⟨rfl, rfl, rfl, rfl, rfl, rfl, rfl, rfl, rfl, rfl, rfl, rfl, trivial⟩ rfl ?_
    refine w_seq ?_
    refine w_pubD 1 rfl hda ItemO.known ItemR.mono (by first | omega | (simp; done) | (simp; omega)) (fun B7 hle7 hr7 => ?_)
    replace hqd := hqd.mono ItemR.mono hle7
    replace hvb := hvb.mono ItemR.mono hle7
    have hr7n := hr7.len
    refine w_pubK 3 rfl hvb ItemR.mono (by first | omega | decide | (simp; done) | (simp; omega)) (fun B8 hle8 hr8 => ?_)
    replace hqd := hqd.mono ItemR.mono hle8
    replace hr7 := hr7.mono ItemR.mono hle8
    have hr8n := hr8.len
    refine w_seq_region ?_
    refine opW_x (w_move rfl rfl rfl ?_)
    refine opW_x (w_move rfl rfl rfl ?_)
    refine opW_x (w_neqE rfl rfl rfl rfl rfl (eqBool Try.underlying4) ?_)
    refine opW_x (w_move rfl rfl rfl ?_)
    refine r_split (d := 41) rfl (fun g2 => by simp at g2) (fun g2 => ?_)
    try simp only [decide_eq_true_eq, decide_eq_false_iff_not, Bool.not_eq_true', Bool.not_eq_false', decide_not, Decidable.not_not, Int.not_lt, Int.not_le, ne_eq] at g2
    refine opW_x (w_move rfl rfl rfl ?_)
    refine opW_x (w_move rfl rfl rfl ?_)
    refine opW_x (w_neqS rfl rfl rfl rfl ?_)
    refine opW_x (w_pickF rfl rfl rfl rfl ?_)
    refine opW_x (w_move rfl rfl rfl ?_)
    refine r_split (d := 46) rfl (fun g3 => by simp at g3) (fun g3 => ?_)
    try simp only [decide_eq_true_eq, decide_eq_false_iff_not, Bool.not_eq_true', Bool.not_eq_false', decide_not, Decidable.not_not, Int.not_lt, Int.not_le, ne_eq] at g3
    refine opW_x (w_loadN [_, _] rfl rfl lk29 rfl (rowL 2 rfl rfl rfl) ?_)
    refine opW_x (w_loadN [_, _] rfl rfl lk29 rfl (rowL 4 rfl rfl rfl) ?_)
    refine opW_x (w_retB rfl rfl en25 rfl (sameQueue_c _ _ (qTake qqd idd ud).1 _ _ (qTake qqd idd ud).1 _ hr7 hr8) ?_)
    refine opW_x (w_not rfl rfl rfl ?_)
    refine opW_x (w_pickF rfl rfl rfl rfl ?_)
    refine opW_x (w_move rfl rfl rfl ?_)
    refine r_split (d := 52) rfl (fun g4 => by simp at g4) (fun g4 => ?_)
    try simp only [decide_eq_true_eq, decide_eq_false_iff_not, Bool.not_eq_true', Bool.not_eq_false', decide_not, Decidable.not_not, Int.not_lt, Int.not_le, ne_eq] at g4
    refine opW_x (w_move rfl rfl rfl ?_)
    refine opW_x (w_pickF rfl rfl rfl rfl ?_)
    refine opW_x (w_move rfl rfl rfl ?_)
    refine r_split (d := 55) rfl (fun g6 => ?_) (fun g6 => ?_)
    · try simp only [decide_eq_true_eq, decide_eq_false_iff_not, Bool.not_eq_true', Bool.not_eq_false', decide_not, Decidable.not_not, Int.not_lt, Int.not_le, ne_eq] at g6
      refine opW_x (w_pass rfl rfl ?_)
      refine opW_x (w_pass rfl rfl ?_)
      refine opW_x (w_pass rfl rfl ?_)
      refine opW_x (w_pickT rfl rfl rfl rfl ?_)
      refine w_tidy [(0, _), (2, _), (3, _), (4, _), (5, _), (6, _), (7, _), (8, _), (9, _), (10, _), (11, _), (15, _), (59, _)] [_, _, _, _, _] ⟨rfl, rfl, rfl, rfl, rfl, rfl, rfl, rfl, rfl, rfl, rfl, rfl, rfl, trivial⟩ rfl ?_
      refine w_cond (t := true) rfl (fun _ => ?_) (fun h => Bool.noConfusion h)
      refine w_seq_region ?_
      refine opW_x (w_move rfl rfl rfl ?_)
      refine opW_x (w_move rfl rfl rfl ?_)
      refine opW_x (w_eqlE rfl rfl rfl rfl rfl (eqBool Try.underlying4) ?_)
      refine opW_x (w_move rfl rfl rfl ?_)
      refine r_split (d := 63) rfl (fun g5 => ?_) (fun g5 => by simp at g5)
      try simp only [decide_eq_true_eq, decide_eq_false_iff_not, Bool.not_eq_true', Bool.not_eq_false', decide_not, Decidable.not_not, Int.not_lt, Int.not_le, ne_eq] at g5
      refine opW_x (w_move rfl rfl rfl ?_)
      refine opW_x (w_move rfl rfl rfl ?_)
      refine opW_x (w_eqlS rfl rfl rfl rfl ?_)
      refine opW_x (w_pickT rfl rfl rfl rfl ?_)
      refine opW_x (w_move rfl rfl rfl ?_)
      refine r_split (d := 68) rfl (fun g55 => ?_) (fun g55 => by simp at g55)
      try simp only [decide_eq_true_eq, decide_eq_false_iff_not, Bool.not_eq_true', Bool.not_eq_false', decide_not, Decidable.not_not, Int.not_lt, Int.not_le, ne_eq] at g55
      refine opW_x (w_loadN [_, _] rfl rfl lk29 rfl (rowL 2 rfl rfl rfl) ?_)
      refine opW_x (w_loadN [_, _] rfl rfl lk29 rfl (rowL 4 rfl rfl rfl) ?_)
      refine opW_x (w_retB rfl rfl en25 rfl (sameQueue_c _ _ (qTake qqd idd ud).1 _ _ (qTake qqd idd ud).1 _ hr7 hr8) ?_)
      refine opW_x (w_pickT rfl rfl rfl rfl ?_)
      refine opW_x (w_assign rfl rfl rfl ?_)
      refine w_keep [(0, _), (2, _), (3, _), (4, _), (5, _), (6, _), (7, _), (8, _), (9, _), (10, _), (11, _), (15, _), (59, _)] ⟨rfl, rfl, rfl, rfl, rfl, rfl, rfl, rfl, rfl, rfl, rfl, rfl, rfl, trivial⟩ ?_
      refine w_ret (thn_r ?_)
      exact end0 .ret (.inl rfl) [_] ⟨rfl, trivial⟩ (by first | rfl | exact bool_eq (by simp [*]))
    · try simp only [decide_eq_true_eq, decide_eq_false_iff_not, Bool.not_eq_true', Bool.not_eq_false', decide_not, Decidable.not_not, Int.not_lt, Int.not_le, ne_eq] at g6
      refine opW_x (w_loadN [_, _] rfl rfl lk29 rfl (rowL 0 rfl rfl rfl) ?_)
      refine opW_x (w_retB rfl rfl en28 rfl (specQueue_c _ _ qqd _ hqd) ?_)
      refine opW_x (w_not rfl rfl rfl ?_)
      refine opW_x (w_pickF rfl rfl rfl rfl ?_)
      refine w_tidy [(0, _), (2, _), (3, _), (4, _), (5, _), (6, _), (7, _), (8, _), (9, _), (10, _), (11, _), (15, _), (59, _)] [_, _, _, _, _] ⟨rfl, rfl, rfl, rfl, rfl, rfl, rfl, rfl, rfl, rfl, rfl, rfl, rfl, trivial⟩ rfl ?_
      refine w_cond rfl (fun g7 => ?_) (fun g7 => ?_)
      · try simp only [decide_eq_true_eq, decide_eq_false_iff_not, Bool.not_eq_true', Bool.not_eq_false', decide_not, Decidable.not_not, Int.not_lt, Int.not_le, ne_eq] at g7
        refine w_seq_region ?_
        refine opW_x (w_move rfl rfl rfl ?_)
        refine opW_x (w_move rfl rfl rfl ?_)
        refine opW_x (w_eqlE rfl rfl rfl rfl rfl (eqBool Try.underlying4) ?_)
        refine opW_x (w_move rfl rfl rfl ?_)
        refine r_split (d := 63) rfl (fun g5 => ?_) (fun g5 => by simp at g5)
        try simp only [decide_eq_true_eq, decide_eq_false_iff_not, Bool.not_eq_true', Bool.not_eq_false', decide_not, Decidable.not_not, Int.not_lt, Int.not_le, ne_eq] at g5
        refine opW_x (w_move rfl rfl rfl ?_)
        refine opW_x (w_move rfl rfl rfl ?_)
        refine opW_x (w_eqlS rfl rfl rfl rfl ?_)
        refine opW_x (w_pickT rfl rfl rfl rfl ?_)
        refine opW_x (w_move rfl rfl rfl ?_)
        refine r_split (d := 68) rfl (fun g55 => ?_) (fun g55 => by simp at g55)
        try simp only [decide_eq_true_eq, decide_eq_false_iff_not, Bool.not_eq_true', Bool.not_eq_false', decide_not, Decidable.not_not, Int.not_lt, Int.not_le, ne_eq] at g55
        refine opW_x (w_loadN [_, _] rfl rfl lk29 rfl (rowL 2 rfl rfl rfl) ?_)
        refine opW_x (w_loadN [_, _] rfl rfl lk29 rfl (rowL 4 rfl rfl rfl) ?_)
        refine opW_x (w_retB rfl rfl en25 rfl (sameQueue_c _ _ (qTake qqd idd ud).1 _ _ (qTake qqd idd ud).1 _ hr7 hr8) ?_)
        refine opW_x (w_pickT rfl rfl rfl rfl ?_)
        refine opW_x (w_assign rfl rfl rfl ?_)
        refine w_keep [(0, _), (2, _), (3, _), (4, _), (5, _), (6, _), (7, _), (8, _), (9, _), (10, _), (11, _), (15, _), (59, _)] ⟨rfl, rfl, rfl, rfl, rfl, rfl, rfl, rfl, rfl, rfl, rfl, rfl, rfl, trivial⟩ ?_
        refine w_ret (thn_r ?_)
        exact end0 .ret (.inl rfl) [_] ⟨rfl, trivial⟩ (by first | rfl | exact bool_eq (by simp [*]))
      · try simp only [decide_eq_true_eq, decide_eq_false_iff_not, Bool.not_eq_true', Bool.not_eq_false', decide_not, Decidable.not_not, Int.not_lt, Int.not_le, ne_eq] at g7
        obtain ⟨hno, he⟩ := take_false (by simpa using g7) (by simpa using g6)
        refine w_skip ?_
        refine thn_n ?_
        refine w_seq ?_
        refine w_seq_region ?_
        refine opW_x (w_assign rfl rfl rfl ?_)
        refine w_keep [(0, _), (2, _), (3, _), (4, _), (5, _), (6, _), (7, _), (8, _), (9, _), (10, _), (11, _), (12, _), (15, _), (59, _)] ⟨rfl, rfl, rfl, rfl, rfl, rfl, rfl, rfl, rfl, rfl, rfl, rfl, rfl, rfl, trivial⟩ ?_
        refine w_block ?_
        refine w_loopE (α := Nat) [0, 3, 4, 5, 6, 7, 8, 9, 10, 11, 15, 59] (fun k => [(12, .int .i64 k)]) [] (fun k => []) (fun k Bx => Bx = B8 ∧ k ≤ qqd.items.length) (fun k => qqd.items.length - k) 0 ⟨rfl, trivial⟩ rfl (⟨rfl, Nat.zero_le _⟩) (fun k B13 hle13 hI => ?_)
        obtain ⟨rfl, hk⟩ := hI
        refine w_tidy [(0, _), (3, _), (4, _), (5, _), (6, _), (7, _), (8, _), (9, _), (10, _), (11, _), (12, _), (15, _), (59, _)] [_, _, _, _, _] ⟨rfl, rfl, rfl, rfl, rfl, rfl, rfl, rfl, rfl, rfl, rfl, rfl, rfl, trivial⟩ rfl ?_
        refine w_seq ?_
        refine w_seq_region ?_
        refine opW_x (w_move rfl rfl rfl ?_)
        refine opW_x (w_fieldAddr rfl rfl fo29x1 rfl ?_)
        refine opW_x (w_load1 rfl rfl lk27 rfl (atL 0 rfl rfl rfl) ?_)
        refine opW_x (w_lenV rfl rfl Try.underlying27 rfl ?_)
        refine opW_x (w_lss rfl rfl rfl rfl ?_)
        refine w_keep [(0, _), (3, _), (4, _), (5, _), (6, _), (7, _), (8, _), (9, _), (10, _), (11, _), (12, _), (15, _), (59, _), (77, _)] ⟨rfl, rfl, rfl, rfl, rfl, rfl, rfl, rfl, rfl, rfl, rfl, rfl, rfl, rfl, trivial⟩ ?_
        refine w_cond rfl (fun g8 => ?_) (fun g8 => ?_)
        · try simp only [decide_eq_true_eq, decide_eq_false_iff_not, Bool.not_eq_true', Bool.not_eq_false', decide_not, Decidable.not_not, Int.not_lt, Int.not_le, ne_eq] at g8
          refine w_skip ?_
          refine thn_n ?_
          refine w_seq ?_
          refine w_block ?_
          refine w_seq_region ?_
          refine opW_x (w_fieldAddr rfl rfl fo29x1 rfl ?_)
          refine opW_x (w_load1 rfl rfl lk27 rfl (atL 0 rfl rfl rfl) ?_)
          refine opW_x (w_move rfl rfl rfl ?_)
          obtain ⟨y, hy⟩ := getLt (xs := qqd.items) (i := k) (by first | omega | (simp; done) | (simp; omega))
          obtain ⟨bb15, oo15, rfl⟩ := hqd.base hy
          obtain ⟨_, ⟨qi16, ci16, rfl, hi16, hb16, hb16b⟩, hc16⟩ := hqd.elem hy
          have hi16n := hi16.len
          refine opW_x (w_ixB rfl rfl Try.underlying27 sz47 rfl rfl (by first | omega | (simp; done) | (simp; omega)) (by first | omega | (simp; done) | (simp; omega)) ?_)
          refine opW_x (w_fieldAddr rfl rfl fo47x0 rfl ?_)
          refine opW_x (w_load1 rfl rfl lk3 rfl (hc16 _ 0 _ rfl) ?_)
          refine opW_x (w_move rfl rfl rfl ?_)
          refine opW_x (w_eqlI rfl rfl rfl rfl ?_)
          refine opW_x (w_move rfl rfl rfl ?_)
          refine r_split (d := 88) rfl (fun g9 => ?_) (fun g9 => ?_)
          · try simp only [decide_eq_true_eq, decide_eq_false_iff_not, Bool.not_eq_true', Bool.not_eq_false', decide_not, Decidable.not_not, Int.not_lt, Int.not_le, ne_eq] at g9
            refine opW_x (w_fieldAddr rfl rfl fo29x1 rfl ?_)
            refine opW_x (w_load1 rfl rfl lk27 rfl (atL 0 rfl rfl rfl) ?_)
            refine opW_x (w_move rfl rfl rfl ?_)
            refine opW_x (w_ixB rfl rfl Try.underlying27 sz47 rfl rfl (by first | omega | (simp; done) | (simp; omega)) (by first | omega | (simp; done) | (simp; omega)) ?_)
            refine opW_x (w_fieldAddr rfl rfl fo47x3 rfl ?_)
            refine opW_x (w_load1 rfl rfl lk38 rfl (hc16 _ 3 _ rfl) ?_)
            refine opW_x (w_move rfl rfl rfl ?_)
            refine opW_x (w_retB rfl rfl en32 rfl (hasName_c _ _ _ _ _ hi16) ?_)
            refine opW_x (w_pickT rfl rfl rfl rfl ?_)
            refine w_keep [(0, _), (3, _), (4, _), (5, _), (6, _), (7, _), (8, _), (9, _), (10, _), (11, _), (12, _), (15, _), (59, _), (77, _), (97, _)] ⟨rfl, rfl, rfl, rfl, rfl, rfl, rfl, rfl, rfl, rfl, rfl, rfl, rfl, rfl, rfl, trivial⟩ ?_
            refine w_cond rfl (fun g10 => by exact absurd ⟨g9, of_decide_eq_true g10⟩ (hno y (List.mem_of_getElem? hy))) (fun g10 => ?_)
            try simp only [decide_eq_true_eq, decide_eq_false_iff_not, Bool.not_eq_true', Bool.not_eq_false', decide_not, Decidable.not_not, Int.not_lt, Int.not_le, ne_eq] at g10
            refine w_skip ?_
            refine inB_n (thn_n ?_)
            refine w_region ?_
            refine opW_x (w_move rfl rfl rfl ?_)
            refine opW_x (w_add rfl rfl rfl rfl (by first | exact wrI64 (by first | omega | (simp; done) | (simp; omega)) (by first | omega | (simp; done) | (simp; omega)) | rfl) ?_)
            refine opW_x (w_assign rfl rfl rfl ?_)
            exact rndE_n (k + 1) [0, 1, 2, 3, 4] (by first | omega | (simp only []; omega)) ⟨rfl, by omega⟩ ⟨rfl, rfl, rfl, rfl, rfl, rfl, rfl, rfl, rfl, rfl, rfl, rfl, rfl, trivial⟩ rfl
          · try simp only [decide_eq_true_eq, decide_eq_false_iff_not, Bool.not_eq_true', Bool.not_eq_false', decide_not, Decidable.not_not, Int.not_lt, Int.not_le, ne_eq] at g9
            refine opW_x (w_pass rfl rfl ?_)
            refine opW_x (w_pass rfl rfl ?_)
            refine opW_x (w_pass rfl rfl ?_)
            refine opW_x (w_pass rfl rfl ?_)
            refine opW_x (w_pass rfl rfl ?_)
            refine opW_x (w_pass rfl rfl ?_)
            refine opW_x (w_pass rfl rfl ?_)
            refine opW_x (w_pass rfl rfl ?_)
            refine opW_x (w_pickF rfl rfl rfl rfl ?_)
            refine w_keep [(0, _), (3, _), (4, _), (5, _), (6, _), (7, _), (8, _), (9, _), (10, _), (11, _), (12, _), (15, _), (59, _), (77, _), (97, _)] ⟨rfl, rfl, rfl, rfl, rfl, rfl, rfl, rfl, rfl, rfl, rfl, rfl, rfl, rfl, rfl, trivial⟩ ?_
            refine w_cond (t := false) rfl (fun h => Bool.noConfusion h) (fun _ => ?_)
            refine w_skip ?_
            refine inB_n (thn_n ?_)
            refine w_region ?_
            refine opW_x (w_move rfl rfl rfl ?_)
            refine opW_x (w_add rfl rfl rfl rfl (by first | exact wrI64 (by first | omega | (simp; done) | (simp; omega)) (by first | omega | (simp; done) | (simp; omega)) | rfl) ?_)
            refine opW_x (w_assign rfl rfl rfl ?_)
            exact rndE_n (k + 1) [0, 1, 2, 3, 4] (by first | omega | (simp only []; omega)) ⟨rfl, by omega⟩ ⟨rfl, rfl, rfl, rfl, rfl, rfl, rfl, rfl, rfl, rfl, rfl, rfl, rfl, trivial⟩ rfl
        · try simp only [decide_eq_true_eq, decide_eq_false_iff_not, Bool.not_eq_true', Bool.not_eq_false', decide_not, Decidable.not_not, Int.not_lt, Int.not_le, ne_eq] at g8
          refine w_exit (thn_x (rndE_x (inB_hit (thn_n ?_))))
          refine w_seq_region ?_
          refine opW_x (w_loadN [_, _] rfl rfl lk29 rfl (rowL 2 rfl rfl rfl) ?_)
          refine opW_x (w_loadN [_, _] rfl rfl lk29 rfl (rowL 0 rfl rfl rfl) ?_)
          refine opW_x (w_retB rfl rfl en25 rfl (sameQueue_c _ _ (qTake qqd idd ud).1 _ _ qqd _ hr7 hqd) ?_)
          refine opW_x (w_move rfl rfl rfl ?_)
          refine r_split (d := 101) rfl (fun g12 => ?_) (fun g12 => by simp [he] at g12)
          try simp only [decide_eq_true_eq, decide_eq_false_iff_not, Bool.not_eq_true', Bool.not_eq_false', decide_not, Decidable.not_not, Int.not_lt, Int.not_le, ne_eq] at g12
          refine opW_x (w_move rfl rfl rfl ?_)
          refine opW_x (w_eqlS rfl rfl rfl rfl ?_)
          refine opW_x (w_pickT rfl rfl rfl rfl ?_)
          refine opW_x (w_assign rfl rfl rfl ?_)
          refine w_keep [(0, _), (2, _), (3, _), (4, _), (5, _), (6, _), (7, _), (8, _), (9, _), (10, _), (11, _), (12, _), (15, _), (59, _), (77, _)] ⟨rfl, rfl, rfl, rfl, rfl, rfl, rfl, rfl, rfl, rfl, rfl, rfl, rfl, rfl, rfl, trivial⟩ ?_
          refine w_ret ?_
          exact end0 .ret (.inl rfl) [_] ⟨rfl, trivial⟩ (bool_eq (by simp [he]))

set_option maxRecDepth 4000 in
set_option maxHeartbeats 400000 in
theorem fnTakeText_w (W : World) (q1 : Option Addr) (m1 c1 : Nat) (h1 : m1 ≤ c1) (hb1 : BytesAt (allOf W) q1 m1) : Calls Try.prog 10 [.slice q1 m1 c1].toArray W fun e w' => ∃ v, e = .returned v ∧ Kept W w' ∧ ∃ (B' : Kn) (Ls' : List Cells), Sat B' Ls'.flatten w' ∧ v = .bool true := by
  refine calls_of (args := [.slice q1 m1 c1]) 96 Try.func10 rfl rfl rfl (Nat.le_of_ble_eq_true rfl) ?_
  generalize allOf W = B at hb1 ⊢
  refine w_seq_region ?_
  refine opW_x (w_assign rfl rfl rfl ?_)
  refine w_keep [(0, _), (2, _)] ⟨rfl, rfl, trivial⟩ ?_
  refine w_seq ?_
  refine w_seq_region ?_
  refine opW_x (w_move rfl rfl rfl ?_)
  refine opW_x (w_lenV rfl rfl Try.underlying22 rfl ?_)
  refine opW_x (w_gtr rfl rfl rfl rfl ?_)
  refine w_keep [(0, _), (2, _), (16, _)] ⟨rfl, rfl, rfl, trivial⟩ ?_
  refine w_cond rfl (fun g1 => ?_) (fun g1 => ?_)
  · try simp only [decide_eq_true_eq, decide_eq_false_iff_not, Bool.not_eq_true', Bool.not_eq_false', decide_not, Decidable.not_not, Int.not_lt, Int.not_le, ne_eq] at g1
    refine w_seq_region ?_
    refine opW_x (w_assign rfl rfl rfl ?_)
    refine w_keep [(0, _), (2, _), (16, _)] ⟨rfl, rfl, rfl, trivial⟩ ?_
    refine w_ret (thn_r ?_)
    exact end0 .ret (.inl rfl) [_] ⟨rfl, trivial⟩ (by first | rfl | exact bool_eq (by simp [*]))
  · try simp only [decide_eq_true_eq, decide_eq_false_iff_not, Bool.not_eq_true', Bool.not_eq_false', decide_not, Decidable.not_not, Int.not_lt, Int.not_le, ne_eq] at g1
    refine w_skip ?_
    refine thn_n ?_
    refine w_seq_region ?_
    refine opW_x (w_move rfl rfl rfl ?_)
    refine opW_x (w_callP rfl rfl en34 rfl (drawQT_c _ _ _ (by omega) _ (by assumption)) ?_)
    intro vd Bd hled
    rintro ⟨aqd, cqd, qqd, idd, ud, rfl, hqd, hud⟩
    have hqdn := hqd.len
    refine opW_x (w_move rfl rfl rfl ?_)
    refine opW_x (w_extract rfl rfl rfl rfl ?_)
    refine opW_x (w_extract rfl rfl rfl rfl ?_)
    refine opW_x (w_extract rfl rfl rfl rfl ?_)
    refine opW_x (w_alloc (l := [_, _]) rfl rfl zo29 rfl (fun b2 => ?_))
    refine opW_x (w_store [_, _] 0 [_, _] rfl rfl sz29 rfl rfl rfl rfl rfl rfl rfl rfl ?_)
    refine opW_x (w_assign rfl rfl rfl ?_)
    refine opW_x (w_assign rfl rfl rfl ?_)
    refine w_tidy [(0, _), (2, _), (3, _), (4, _), (5, _), (16, _)] [_] ⟨rfl, rfl, rfl, rfl, rfl, rfl, trivial⟩ rfl ?_
    refine w_seq_region ?_
    refine opW_x (w_loadN [_, _] rfl rfl lk29 rfl (rowL 0 rfl rfl rfl) ?_)
    refine opW_x (w_move rfl rfl rfl ?_)
    refine opW_x (w_move rfl rfl rfl ?_)
    refine opW_x (w_call rfl rfl en33 rfl (implTake_c _ _ qqd idd ud _ hqd) ?_)
    rintro _ Ba _ hlea ⟨la, aa, ca, rfl, rfl, hda, hta⟩
    replace hqd := hqd.mono ItemR.mono hlea
    refine opW_x (w_move rfl rfl rfl ?_)
    refine opW_x (w_extract rfl rfl rfl rfl ?_)
    refine opW_x (w_extract rfl rfl rfl rfl ?_)
    refine opW_x (w_extract rfl rfl rfl rfl ?_)
    refine opW_x (w_alloc (l := [_, _]) rfl rfl zo29 rfl (fun b4 => ?_))
    refine opW_x (w_store [_, _] 2 [_, _] rfl rfl sz29 rfl rfl rfl rfl rfl rfl rfl rfl ?_)
    refine opW_x (w_assign rfl rfl rfl ?_)
    refine opW_x (w_assign rfl rfl rfl ?_)
    refine w_tidy [(0, _), (2, _), (3, _), (4, _), (5, _), (6, _), (7, _), (8, _), (16, _)] [_, _, _] ⟨rfl, rfl, rfl, rfl, rfl, rfl, rfl, rfl, rfl, trivial⟩ rfl ?_
    refine w_seq_region ?_
    refine opW_x (w_loadN [_, _] rfl rfl lk29 rfl (rowL 0 rfl rfl rfl) ?_)
    refine opW_x (w_move rfl rfl rfl ?_)
    refine opW_x (w_move rfl rfl rfl ?_)
    refine opW_x (w_call rfl rfl en35 rfl (specTake_c _ _ qqd idd ud _ hqd) ?_)
    rintro _ Bb _ hleb ⟨lb, ab, cb, rfl, rfl, hvb, htb⟩
    replace hqd := hqd.mono ItemR.mono hleb
    replace hvb := hvb.mono ItemR.mono Kn.less_le
    have hal : (qTake qqd idd ud).1.items.length ≤ 2000000 := qTake_le hqdn
    refine opW_x (w_move rfl rfl rfl ?_)
    refine opW_x (w_extract rfl rfl rfl rfl ?_)
    refine opW_x (w_extract rfl rfl rfl rfl ?_)
    refine opW_x (w_extract rfl rfl rfl rfl ?_)
    refine opW_x (w_alloc (l := [_, _]) rfl rfl zo29 rfl (fun b6 => ?_))
    refine opW_x (w_store [_, _] 4 [_, _] rfl rfl sz29 rfl rfl rfl rfl rfl rfl rfl rfl ?_)
    refine opW_x (w_assign rfl rfl rfl ?_)
    refine opW_x (w_assign rfl rfl rfl ?_)
    refine w_tidy [(0, _), (2, _), (3, _), (4, _), (5, _), (6, _), (7, _), (8, _), (9, _), (10, _), (11, _), (16, _)] [_, _, _, _, _] ⟨rfl, rfl, rfl, rfl, rfl, rfl, rfl, rfl, rfl, rfl, rfl, rfl, trivial⟩ rfl ?_
    refine w_seq ?_
    refine w_pubD 1 rfl hda ItemO.known ItemR.mono (by first | omega | (simp; done) | (simp; omega)) (fun B7 hle7 hr7 => ?_)
    replace hqd := hqd.mono ItemR.mono hle7
    replace hvb := hvb.mono ItemR.mono hle7
    have hr7n := hr7.len
    refine w_pubK 3 rfl hvb ItemR.mono (by first | omega | decide | (simp; done) | (simp; omega)) (fun B8 hle8 hr8 => ?_)
    replace hqd := hqd.mono ItemR.mono hle8
    replace hr7 := hr7.mono ItemR.mono hle8
    have hr8n := hr8.len
    refine w_seq_region ?_
    refine opW_x (w_move rfl rfl rfl ?_)
    refine opW_x (w_move rfl rfl rfl ?_)
    refine opW_x (w_neqE rfl rfl rfl rfl rfl (eqBool Try.underlying4) ?_)
    refine opW_x (w_move rfl rfl rfl ?_)
    refine r_split (d := 42) rfl (fun g2 => by simp at g2) (fun g2 => ?_)
    try simp only [decide_eq_true_eq, decide_eq_false_iff_not, Bool.not_eq_true', Bool.not_eq_false', decide_not, Decidable.not_not, Int.not_lt, Int.not_le, ne_eq] at g2
    refine opW_x (w_move rfl rfl rfl ?_)
    refine opW_x (w_move rfl rfl rfl ?_)
    refine opW_x (w_neqS rfl rfl rfl rfl ?_)
    refine opW_x (w_pickF rfl rfl rfl rfl ?_)
    refine opW_x (w_move rfl rfl rfl ?_)
    refine r_split (d := 47) rfl (fun g3 => by simp at g3) (fun g3 => ?_)
    try simp only [decide_eq_true_eq, decide_eq_false_iff_not, Bool.not_eq_true', Bool.not_eq_false', decide_not, Decidable.not_not, Int.not_lt, Int.not_le, ne_eq] at g3
    refine opW_x (w_loadN [_, _] rfl rfl lk29 rfl (rowL 2 rfl rfl rfl) ?_)
    refine opW_x (w_loadN [_, _] rfl rfl lk29 rfl (rowL 4 rfl rfl rfl) ?_)
    refine opW_x (w_retB rfl rfl en25 rfl (sameQueue_c _ _ (qTake qqd idd ud).1 _ _ (qTake qqd idd ud).1 _ hr7 hr8) ?_)
    refine opW_x (w_not rfl rfl rfl ?_)
    refine opW_x (w_pickF rfl rfl rfl rfl ?_)
    refine opW_x (w_move rfl rfl rfl ?_)
    refine r_split (d := 53) rfl (fun g4 => by simp at g4) (fun g4 => ?_)
    try simp only [decide_eq_true_eq, decide_eq_false_iff_not, Bool.not_eq_true', Bool.not_eq_false', decide_not, Decidable.not_not, Int.not_lt, Int.not_le, ne_eq] at g4
    refine opW_x (w_move rfl rfl rfl ?_)
    refine opW_x (w_not rfl rfl rfl ?_)
    refine opW_x (w_pickF rfl rfl rfl rfl ?_)
    refine w_tidy [(0, _), (2, _), (3, _), (4, _), (5, _), (6, _), (7, _), (8, _), (9, _), (10, _), (11, _), (16, _), (56, _)] [_, _, _, _, _] ⟨rfl, rfl, rfl, rfl, rfl, rfl, rfl, rfl, rfl, rfl, rfl, rfl, rfl, trivial⟩ rfl ?_
    refine w_cond rfl (fun g6 => ?_) (fun g6 => ?_)
    · try simp only [decide_eq_true_eq, decide_eq_false_iff_not, Bool.not_eq_true', Bool.not_eq_false', decide_not, Decidable.not_not, Int.not_lt, Int.not_le, ne_eq] at g6
      refine w_seq_region ?_
      refine opW_x (w_move rfl rfl rfl ?_)
      refine opW_x (w_move rfl rfl rfl ?_)
      refine opW_x (w_eqlE rfl rfl rfl rfl rfl (eqBool Try.underlying4) ?_)
      refine opW_x (w_move rfl rfl rfl ?_)
      refine r_split (d := 60) rfl (fun g5 => ?_) (fun g5 => by simp at g5)
      try simp only [decide_eq_true_eq, decide_eq_false_iff_not, Bool.not_eq_true', Bool.not_eq_false', decide_not, Decidable.not_not, Int.not_lt, Int.not_le, ne_eq] at g5
      refine opW_x (w_move rfl rfl rfl ?_)
      refine opW_x (w_move rfl rfl rfl ?_)
      refine opW_x (w_eqlS rfl rfl rfl rfl ?_)
      refine opW_x (w_pickT rfl rfl rfl rfl ?_)
      refine opW_x (w_move rfl rfl rfl ?_)
      refine r_split (d := 65) rfl (fun g55 => ?_) (fun g55 => by simp at g55)
      try simp only [decide_eq_true_eq, decide_eq_false_iff_not, Bool.not_eq_true', Bool.not_eq_false', decide_not, Decidable.not_not, Int.not_lt, Int.not_le, ne_eq] at g55
      refine opW_x (w_loadN [_, _] rfl rfl lk29 rfl (rowL 2 rfl rfl rfl) ?_)
      refine opW_x (w_loadN [_, _] rfl rfl lk29 rfl (rowL 4 rfl rfl rfl) ?_)
      refine opW_x (w_retB rfl rfl en25 rfl (sameQueue_c _ _ (qTake qqd idd ud).1 _ _ (qTake qqd idd ud).1 _ hr7 hr8) ?_)
      refine opW_x (w_pickT rfl rfl rfl rfl ?_)
      refine opW_x (w_assign rfl rfl rfl ?_)
      refine w_keep [(0, _), (2, _), (3, _), (4, _), (5, _), (6, _), (7, _), (8, _), (9, _), (10, _), (11, _), (16, _), (56, _)] ⟨rfl, rfl, rfl, rfl, rfl, rfl, rfl, rfl, rfl, rfl, rfl, rfl, rfl, trivial⟩ ?_
      refine w_ret (thn_r ?_)
      exact end0 .ret (.inl rfl) [_] ⟨rfl, trivial⟩ (by first | rfl | exact bool_eq (by simp [*]))
    · try simp only [decide_eq_true_eq, decide_eq_false_iff_not, Bool.not_eq_true', Bool.not_eq_false', decide_not, Decidable.not_not, Int.not_lt, Int.not_le, ne_eq] at g6
      have ht : (qTake qqd idd ud).2.2 = true := by simpa using g6
      refine w_skip ?_
      refine thn_n ?_
      refine w_seq ?_
      refine w_seq_region ?_
      refine opW_x (w_assign rfl rfl rfl ?_)
      refine w_keep [(0, _), (2, _), (3, _), (4, _), (5, _), (6, _), (7, _), (8, _), (9, _), (10, _), (11, _), (12, _), (16, _), (56, _)] ⟨rfl, rfl, rfl, rfl, rfl, rfl, rfl, rfl, rfl, rfl, rfl, rfl, rfl, rfl, trivial⟩ ?_
      refine w_block ?_
      refine w_loopE (α := Nat) [0, 3, 4, 5, 6, 7, 8, 9, 10, 11, 16, 56] (fun k => [(12, .int .i64 k)]) [] (fun k => []) (fun k Bx => Bx = B8 ∧ k ≤ qqd.items.length ∧ ∀ x, x ∈ qqd.items.take k → x.id ≠ idd) (fun k => qqd.items.length - k) 0 ⟨rfl, trivial⟩ rfl (⟨rfl, Nat.zero_le _, by simp⟩) (fun k B11 hle11 hI => ?_)
      obtain ⟨rfl, hk, hno⟩ := hI
      refine w_tidy [(0, _), (3, _), (4, _), (5, _), (6, _), (7, _), (8, _), (9, _), (10, _), (11, _), (12, _), (16, _), (56, _)] [_, _, _, _, _] ⟨rfl, rfl, rfl, rfl, rfl, rfl, rfl, rfl, rfl, rfl, rfl, rfl, rfl, trivial⟩ rfl ?_
      refine w_seq ?_
      refine w_seq_region ?_
      refine opW_x (w_move rfl rfl rfl ?_)
      refine opW_x (w_fieldAddr rfl rfl fo29x1 rfl ?_)
      refine opW_x (w_load1 rfl rfl lk27 rfl (atL 0 rfl rfl rfl) ?_)
      refine opW_x (w_lenV rfl rfl Try.underlying27 rfl ?_)
      refine opW_x (w_lss rfl rfl rfl rfl ?_)
      refine w_keep [(0, _), (3, _), (4, _), (5, _), (6, _), (7, _), (8, _), (9, _), (10, _), (11, _), (12, _), (16, _), (56, _), (74, _)] ⟨rfl, rfl, rfl, rfl, rfl, rfl, rfl, rfl, rfl, rfl, rfl, rfl, rfl, rfl, trivial⟩ ?_
      refine w_cond rfl (fun g8 => ?_) (fun g8 => ?_)
      · try simp only [decide_eq_true_eq, decide_eq_false_iff_not, Bool.not_eq_true', Bool.not_eq_false', decide_not, Decidable.not_not, Int.not_lt, Int.not_le, ne_eq] at g8
        refine w_skip ?_
        refine thn_n ?_
        refine w_seq ?_
        refine w_block ?_
        refine w_seq_region ?_
        refine opW_x (w_fieldAddr rfl rfl fo29x1 rfl ?_)
        refine opW_x (w_load1 rfl rfl lk27 rfl (atL 0 rfl rfl rfl) ?_)
        refine opW_x (w_move rfl rfl rfl ?_)
        obtain ⟨y, hy⟩ := getLt (xs := qqd.items) (i := k) (by first | omega | (simp; done) | (simp; omega))
        obtain ⟨bb13, oo13, rfl⟩ := hqd.base hy
        obtain ⟨_, ⟨qi14, ci14, rfl, hi14, hb14, hb14b⟩, hc14⟩ := hqd.elem hy
        have hi14n := hi14.len
        refine opW_x (w_ixB rfl rfl Try.underlying27 sz47 rfl rfl (by first | omega | (simp; done) | (simp; omega)) (by first | omega | (simp; done) | (simp; omega)) ?_)
        refine opW_x (w_loadN [_, _, _, _] rfl rfl lk47 rfl (rowK hc14 0 rfl rfl) ?_)
        refine opW_x (w_alloc (l := [_, _, _, _]) rfl rfl zo47 rfl (fun b15 => ?_))
        refine opW_x (w_store [_, _, _, _] 5 [_, _, _, _] rfl rfl sz47 rfl rfl rfl rfl rfl rfl rfl rfl ?_)
        refine w_tidy [(0, _), (3, _), (4, _), (5, _), (6, _), (7, _), (8, _), (9, _), (10, _), (11, _), (12, _), (13, _), (16, _), (56, _), (74, _)] [_, _, _, _, _, _] ⟨rfl, rfl, rfl, rfl, rfl, rfl, rfl, rfl, rfl, rfl, rfl, rfl, rfl, rfl, rfl, trivial⟩ rfl ?_
        refine w_seq_region ?_
        refine opW_x (w_fieldAddr rfl rfl fo47x0 rfl ?_)
        refine opW_x (w_load1 rfl rfl lk3 rfl (atL 5 rfl rfl rfl) ?_)
        refine opW_x (w_move rfl rfl rfl ?_)
        refine opW_x (w_eqlI rfl rfl rfl rfl ?_)
        refine w_keep [(0, _), (3, _), (4, _), (5, _), (6, _), (7, _), (8, _), (9, _), (10, _), (11, _), (12, _), (13, _), (16, _), (56, _), (74, _), (85, _)] ⟨rfl, rfl, rfl, rfl, rfl, rfl, rfl, rfl, rfl, rfl, rfl, rfl, rfl, rfl, rfl, rfl, trivial⟩ ?_
        refine w_cond rfl (fun g9 => ?_) (fun g9 => ?_)
        · try simp only [decide_eq_true_eq, decide_eq_false_iff_not, Bool.not_eq_true', Bool.not_eq_false', decide_not, Decidable.not_not, Int.not_lt, Int.not_le, ne_eq] at g9
          obtain ⟨hyt, hyl⟩ := take_item ht (List.mem_of_getElem? hy) g9
          refine w_seq_region ?_
          refine opW_x (w_fieldAddr rfl rfl fo47x2 rfl ?_)
          refine opW_x (w_load1 rfl rfl lk9 rfl (atL 5 rfl rfl rfl) ?_)
          refine opW_x (w_move rfl rfl rfl ?_)
          refine opW_x (w_eqlS rfl rfl rfl rfl ?_)
          refine opW_x (w_move rfl rfl rfl ?_)
          refine r_split (d := 90) rfl (fun g10 => ?_) (fun g10 => by simp [hyt] at g10)
          try simp only [decide_eq_true_eq, decide_eq_false_iff_not, Bool.not_eq_true', Bool.not_eq_false', decide_not, Decidable.not_not, Int.not_lt, Int.not_le, ne_eq] at g10
          refine opW_x (w_fieldAddr rfl rfl fo47x3 rfl ?_)
          refine opW_x (w_load1 rfl rfl lk38 rfl (atL 5 rfl rfl rfl) ?_)
          refine opW_x (w_move rfl rfl rfl ?_)
          refine opW_x (w_retB rfl rfl en32 rfl (hasName_c _ _ _ _ _ hi14) ?_)
          refine opW_x (w_pickT rfl rfl rfl rfl ?_)
          refine opW_x (w_assign rfl rfl rfl ?_)
          refine w_keep [(0, _), (2, _), (3, _), (4, _), (5, _), (6, _), (7, _), (8, _), (9, _), (10, _), (11, _), (12, _), (13, _), (16, _), (56, _), (74, _), (85, _)] ⟨rfl, rfl, rfl, rfl, rfl, rfl, rfl, rfl, rfl, rfl, rfl, rfl, rfl, rfl, rfl, rfl, rfl, trivial⟩ ?_
          refine w_ret (inB_r (thn_r (rndE_r (inB_r (thn_r ?_)))))
          exact end0 .ret (.inl rfl) [_] ⟨rfl, trivial⟩ (bool_eq (by simp [hyl]))
        · try simp only [decide_eq_true_eq, decide_eq_false_iff_not, Bool.not_eq_true', Bool.not_eq_false', decide_not, Decidable.not_not, Int.not_lt, Int.not_le, ne_eq] at g9
          refine w_skip ?_
          refine inB_n (thn_n ?_)
          refine w_region ?_
          refine opW_x (w_move rfl rfl rfl ?_)
          refine opW_x (w_add rfl rfl rfl rfl (by first | exact wrI64 (by first | omega | (simp; done) | (simp; omega)) (by first | omega | (simp; done) | (simp; omega)) | rfl) ?_)
          refine opW_x (w_assign rfl rfl rfl ?_)
          exact rndE_n (k + 1) [0, 1, 2, 3, 4] (by first | omega | (simp only []; omega)) ⟨rfl, by omega, all_next hy hno g9⟩ ⟨rfl, rfl, rfl, rfl, rfl, rfl, rfl, rfl, rfl, rfl, rfl, rfl, rfl, trivial⟩ rfl
      · try simp only [decide_eq_true_eq, decide_eq_false_iff_not, Bool.not_eq_true', Bool.not_eq_false', decide_not, Decidable.not_not, Int.not_lt, Int.not_le, ne_eq] at g8
        refine w_exit (thn_x (rndE_x (inB_hit (thn_n ?_))))
        refine w_seq_region ?_
        refine opW_x (w_assign rfl rfl rfl ?_)
        refine w_keep [(0, _), (2, _), (3, _), (4, _), (5, _), (6, _), (7, _), (8, _), (9, _), (10, _), (11, _), (12, _), (16, _), (56, _), (74, _)] ⟨rfl, rfl, rfl, rfl, rfl, rfl, rfl, rfl, rfl, rfl, rfl, rfl, rfl, rfl, rfl, trivial⟩ ?_
        refine w_ret ?_
        exfalso
        obtain ⟨x, hx, he⟩ := take_some ht
        exact take_end (by omega) hno x hx he

set_option maxRecDepth 4000 in
set_option maxHeartbeats 400000 in
theorem fnTake_w (W : World) (q1 : Option Addr) (m1 c1 : Nat) (h1 : m1 ≤ c1) (hb1 : BytesAt (allOf W) q1 m1) : Calls Try.prog 11 [.slice q1 m1 c1].toArray W fun e w' => ∃ v, e = .returned v ∧ Kept W w' ∧ ∃ (B' : Kn) (Ls' : List Cells), Sat B' Ls'.flatten w' ∧ v = .bool true := by
  refine calls_of (args := [.slice q1 m1 c1]) 100 Try.func11 rfl rfl rfl (Nat.le_of_ble_eq_true rfl) ?_
  generalize allOf W = B at hb1 ⊢
  refine w_seq_region ?_
  refine opW_x (w_assign rfl rfl rfl ?_)
  refine w_keep [(0, _), (2, _)] ⟨rfl, rfl, trivial⟩ ?_
  refine w_seq ?_
  refine w_seq_region ?_
  refine opW_x (w_move rfl rfl rfl ?_)
  refine opW_x (w_lenV rfl rfl Try.underlying22 rfl ?_)
  refine opW_x (w_gtr rfl rfl rfl rfl ?_)
  refine w_keep [(0, _), (2, _), (17, _)] ⟨rfl, rfl, rfl, trivial⟩ ?_
  refine w_cond rfl (fun g1 => ?_) (fun g1 => ?_)
  · try simp only [decide_eq_true_eq, decide_eq_false_iff_not, Bool.not_eq_true', Bool.not_eq_false', decide_not, Decidable.not_not, Int.not_lt, Int.not_le, ne_eq] at g1
    refine w_seq_region ?_
    refine opW_x (w_assign rfl rfl rfl ?_)
    refine w_keep [(0, _), (2, _), (17, _)] ⟨rfl, rfl, rfl, trivial⟩ ?_
    refine w_ret (thn_r ?_)
    exact end0 .ret (.inl rfl) [_] ⟨rfl, trivial⟩ (by first | rfl | exact bool_eq (by simp [*]))
  · try simp only [decide_eq_true_eq, decide_eq_false_iff_not, Bool.not_eq_true', Bool.not_eq_false', decide_not, Decidable.not_not, Int.not_lt, Int.not_le, ne_eq] at g1
    refine w_skip ?_
    refine thn_n ?_
    refine w_seq_region ?_
    refine opW_x (w_move rfl rfl rfl ?_)
    refine opW_x (w_callP rfl rfl en34 rfl (drawQT_c _ _ _ (by omega) _ (by assumption)) ?_)
    intro vd Bd hled
    rintro ⟨aqd, cqd, qqd, idd, ud, rfl, hqd, hud⟩
    have hqdn := hqd.len
    refine opW_x (w_move rfl rfl rfl ?_)
    refine opW_x (w_extract rfl rfl rfl rfl ?_)
    refine opW_x (w_extract rfl rfl rfl rfl ?_)
    refine opW_x (w_extract rfl rfl rfl rfl ?_)
    refine opW_x (w_alloc (l := [_, _]) rfl rfl zo29 rfl (fun b2 => ?_))
    refine opW_x (w_store [_, _] 0 [_, _] rfl rfl sz29 rfl rfl rfl rfl rfl rfl rfl rfl ?_)
    refine opW_x (w_assign rfl rfl rfl ?_)
    refine opW_x (w_assign rfl rfl rfl ?_)
    refine w_tidy [(0, _), (2, _), (3, _), (4, _), (5, _), (17, _)] [_] ⟨rfl, rfl, rfl, rfl, rfl, rfl, trivial⟩ rfl ?_
    refine w_seq_region ?_
    refine opW_x (w_loadN [_, _] rfl rfl lk29 rfl (rowL 0 rfl rfl rfl) ?_)
    refine opW_x (w_move rfl rfl rfl ?_)
    refine opW_x (w_move rfl rfl rfl ?_)
    refine opW_x (w_call rfl rfl en33 rfl (implTake_c _ _ qqd idd ud _ hqd) ?_)
    rintro _ Ba _ hlea ⟨la, aa, ca, rfl, rfl, hda, hta⟩
    replace hqd := hqd.mono ItemR.mono hlea
    refine opW_x (w_move rfl rfl rfl ?_)
    refine opW_x (w_extract rfl rfl rfl rfl ?_)
    refine opW_x (w_extract rfl rfl rfl rfl ?_)
    refine opW_x (w_extract rfl rfl rfl rfl ?_)
    refine opW_x (w_alloc (l := [_, _]) rfl rfl zo29 rfl (fun b4 => ?_))
    refine opW_x (w_store [_, _] 2 [_, _] rfl rfl sz29 rfl rfl rfl rfl rfl rfl rfl rfl ?_)
    refine opW_x (w_assign rfl rfl rfl ?_)
    refine opW_x (w_assign rfl rfl rfl ?_)
    refine w_tidy [(0, _), (2, _), (3, _), (4, _), (5, _), (6, _), (7, _), (8, _), (17, _)] [_, _, _] ⟨rfl, rfl, rfl, rfl, rfl, rfl, rfl, rfl, rfl, trivial⟩ rfl ?_
    refine w_seq_region ?_
    refine opW_x (w_loadN [_, _] rfl rfl lk29 rfl (rowL 0 rfl rfl rfl) ?_)
    refine opW_x (w_move rfl rfl rfl ?_)
    refine opW_x (w_move rfl rfl rfl ?_)
    refine opW_x (w_call rfl rfl en35 rfl (specTake_c _ _ qqd idd ud _ hqd) ?_)
    rintro _ Bb _ hleb ⟨lb, ab, cb, rfl, rfl, hvb, htb⟩
    replace hqd := hqd.mono ItemR.mono hleb
    replace hvb := hvb.mono ItemR.mono Kn.less_le
    have hal : (qTake qqd idd ud).1.items.length ≤ 2000000 := qTake_le hqdn
    refine opW_x (w_move rfl rfl rfl ?_)
    refine opW_x (w_extract rfl rfl rfl rfl ?_)
    refine opW_x (w_extract rfl rfl rfl rfl ?_)
    refine opW_x (w_extract rfl rfl rfl rfl ?_)
    refine opW_x (w_alloc (l := [_, _]) rfl rfl zo29 rfl (fun b6 => ?_))
    refine opW_x (w_store [_, _] 4 [_, _] rfl rfl sz29 rfl rfl rfl rfl rfl rfl rfl rfl ?_)
    refine opW_x (w_assign rfl rfl rfl ?_)
    refine opW_x (w_assign rfl rfl rfl ?_)
    refine w_tidy [(0, _), (2, _), (3, _), (4, _), (5, _), (6, _), (7, _), (8, _), (9, _), (10, _), (11, _), (17, _)] [_, _, _, _, _] ⟨rfl, rfl, rfl, rfl, rfl, rfl, rfl, rfl, rfl, rfl, rfl, rfl, trivial⟩ rfl ?_
    refine w_seq ?_
    refine w_pubD 1 rfl hda ItemO.known ItemR.mono (by first | omega | (simp; done) | (simp; omega)) (fun B7 hle7 hr7 => ?_)
    replace hqd := hqd.mono ItemR.mono hle7
    replace hvb := hvb.mono ItemR.mono hle7
    have hr7n := hr7.len
    refine w_pubK 3 rfl hvb ItemR.mono (by first | omega | decide | (simp; done) | (simp; omega)) (fun B8 hle8 hr8 => ?_)
    replace hqd := hqd.mono ItemR.mono hle8
    replace hr7 := hr7.mono ItemR.mono hle8
    have hr8n := hr8.len
    refine w_seq_region ?_
    refine opW_x (w_move rfl rfl rfl ?_)
    refine opW_x (w_move rfl rfl rfl ?_)
    refine opW_x (w_neqE rfl rfl rfl rfl rfl (eqBool Try.underlying4) ?_)
    refine opW_x (w_move rfl rfl rfl ?_)
    refine r_split (d := 43) rfl (fun g2 => by simp at g2) (fun g2 => ?_)
    try simp only [decide_eq_true_eq, decide_eq_false_iff_not, Bool.not_eq_true', Bool.not_eq_false', decide_not, Decidable.not_not, Int.not_lt, Int.not_le, ne_eq] at g2
    refine opW_x (w_move rfl rfl rfl ?_)
    refine opW_x (w_move rfl rfl rfl ?_)
    refine opW_x (w_neqS rfl rfl rfl rfl ?_)
    refine opW_x (w_pickF rfl rfl rfl rfl ?_)
    refine opW_x (w_move rfl rfl rfl ?_)
    refine r_split (d := 48) rfl (fun g3 => by simp at g3) (fun g3 => ?_)
    try simp only [decide_eq_true_eq, decide_eq_false_iff_not, Bool.not_eq_true', Bool.not_eq_false', decide_not, Decidable.not_not, Int.not_lt, Int.not_le, ne_eq] at g3
    refine opW_x (w_loadN [_, _] rfl rfl lk29 rfl (rowL 2 rfl rfl rfl) ?_)
    refine opW_x (w_loadN [_, _] rfl rfl lk29 rfl (rowL 4 rfl rfl rfl) ?_)
    refine opW_x (w_retB rfl rfl en25 rfl (sameQueue_c _ _ (qTake qqd idd ud).1 _ _ (qTake qqd idd ud).1 _ hr7 hr8) ?_)
    refine opW_x (w_not rfl rfl rfl ?_)
    refine opW_x (w_pickF rfl rfl rfl rfl ?_)
    refine opW_x (w_move rfl rfl rfl ?_)
    refine r_split (d := 54) rfl (fun g4 => by simp at g4) (fun g4 => ?_)
    try simp only [decide_eq_true_eq, decide_eq_false_iff_not, Bool.not_eq_true', Bool.not_eq_false', decide_not, Decidable.not_not, Int.not_lt, Int.not_le, ne_eq] at g4
    refine opW_x (w_move rfl rfl rfl ?_)
    refine opW_x (w_not rfl rfl rfl ?_)
    refine opW_x (w_pickF rfl rfl rfl rfl ?_)
    refine w_tidy [(0, _), (2, _), (3, _), (4, _), (5, _), (6, _), (7, _), (8, _), (9, _), (10, _), (11, _), (17, _), (57, _)] [_, _, _, _, _] ⟨rfl, rfl, rfl, rfl, rfl, rfl, rfl, rfl, rfl, rfl, rfl, rfl, rfl, trivial⟩ rfl ?_
    refine w_cond rfl (fun g6 => ?_) (fun g6 => ?_)
    · try simp only [decide_eq_true_eq, decide_eq_false_iff_not, Bool.not_eq_true', Bool.not_eq_false', decide_not, Decidable.not_not, Int.not_lt, Int.not_le, ne_eq] at g6
      refine w_seq_region ?_
      refine opW_x (w_move rfl rfl rfl ?_)
      refine opW_x (w_move rfl rfl rfl ?_)
      refine opW_x (w_eqlE rfl rfl rfl rfl rfl (eqBool Try.underlying4) ?_)
      refine opW_x (w_move rfl rfl rfl ?_)
      refine r_split (d := 61) rfl (fun g5 => ?_) (fun g5 => by simp at g5)
      try simp only [decide_eq_true_eq, decide_eq_false_iff_not, Bool.not_eq_true', Bool.not_eq_false', decide_not, Decidable.not_not, Int.not_lt, Int.not_le, ne_eq] at g5
      refine opW_x (w_move rfl rfl rfl ?_)
      refine opW_x (w_move rfl rfl rfl ?_)
      refine opW_x (w_eqlS rfl rfl rfl rfl ?_)
      refine opW_x (w_pickT rfl rfl rfl rfl ?_)
      refine opW_x (w_move rfl rfl rfl ?_)
      refine r_split (d := 66) rfl (fun g55 => ?_) (fun g55 => by simp at g55)
      try simp only [decide_eq_true_eq, decide_eq_false_iff_not, Bool.not_eq_true', Bool.not_eq_false', decide_not, Decidable.not_not, Int.not_lt, Int.not_le, ne_eq] at g55
      refine opW_x (w_loadN [_, _] rfl rfl lk29 rfl (rowL 2 rfl rfl rfl) ?_)
      refine opW_x (w_loadN [_, _] rfl rfl lk29 rfl (rowL 4 rfl rfl rfl) ?_)
      refine opW_x (w_retB rfl rfl en25 rfl (sameQueue_c _ _ (qTake qqd idd ud).1 _ _ (qTake qqd idd ud).1 _ hr7 hr8) ?_)
      refine opW_x (w_pickT rfl rfl rfl rfl ?_)
      refine opW_x (w_assign rfl rfl rfl ?_)
      refine w_keep [(0, _), (2, _), (3, _), (4, _), (5, _), (6, _), (7, _), (8, _), (9, _), (10, _), (11, _), (17, _), (57, _)] ⟨rfl, rfl, rfl, rfl, rfl, rfl, rfl, rfl, rfl, rfl, rfl, rfl, rfl, trivial⟩ ?_
      refine w_ret (thn_r ?_)
      exact end0 .ret (.inl rfl) [_] ⟨rfl, trivial⟩ (by first | rfl | exact bool_eq (by simp [*]))
    · try simp only [decide_eq_true_eq, decide_eq_false_iff_not, Bool.not_eq_true', Bool.not_eq_false', decide_not, Decidable.not_not, Int.not_lt, Int.not_le, ne_eq] at g6
      have ht : (qTake qqd idd ud).2.2 = true := by simpa using g6
      refine w_skip ?_
      refine thn_n ?_
      refine w_seq_region ?_
      refine opW_x (w_loadN [_, _] rfl rfl lk29 rfl (rowL 2 rfl rfl rfl) ?_)
      refine opW_x (w_move rfl rfl rfl ?_)
      refine opW_x (w_move rfl rfl rfl ?_)
      refine opW_x (w_call rfl rfl en33 rfl (implTake_c _ _ (qTake qqd idd ud).1 idd ud _ hr7) ?_)
      rintro _ Be _ hlee ⟨le, ae, ce, rfl, rfl, hde, hte⟩
      replace hr7 := hr7.mono ItemR.mono hlee
      replace hqd := hqd.mono ItemR.mono hlee
      replace hr8 := hr8.mono ItemR.mono hlee
      have hbe : (qTake (qTake qqd idd ud).1 idd ud).1.items.length ≤ 2000000 := qTake_le hal
      refine opW_x (w_move rfl rfl rfl ?_)
      refine opW_x (w_extract rfl rfl rfl rfl ?_)
      refine opW_x (w_extract rfl rfl rfl rfl ?_)
      refine opW_x (w_extract rfl rfl rfl rfl ?_)
      refine opW_x (w_alloc (l := [_, _]) rfl rfl zo29 rfl (fun b12 => ?_))
      refine opW_x (w_store [_, _] 6 [_, _] rfl rfl sz29 rfl rfl rfl rfl rfl rfl rfl rfl ?_)
      refine opW_x (w_assign rfl rfl rfl ?_)
      refine opW_x (w_assign rfl rfl rfl ?_)
      refine w_tidy [(0, _), (2, _), (3, _), (4, _), (5, _), (6, _), (7, _), (8, _), (9, _), (10, _), (11, _), (12, _), (14, _), (17, _), (57, _)] [_, _, _, _, _, _, _] ⟨rfl, rfl, rfl, rfl, rfl, rfl, rfl, rfl, rfl, rfl, rfl, rfl, rfl, rfl, rfl, trivial⟩ rfl ?_
      refine w_pubD 5 rfl hde ItemO.known ItemR.mono (by first | omega | (simp; done) | (simp; omega)) (fun B13 hle13 hr13 => ?_)
      replace hqd := hqd.mono ItemR.mono hle13
      replace hr7 := hr7.mono ItemR.mono hle13
      replace hr8 := hr8.mono ItemR.mono hle13
      have hr13n := hr13.len
      have hag := take_again ht
      have hlt := leftQ_take ht ud
      rw [if_pos rfl] at hlt
      have hlb := leftQ_bd qqd ud hqdn
      refine w_seq ?_
      refine w_draw (keeps _ [1, 3, 7] _) mo (by kernel_rfl) ⟨Kn.le.refl _, keepsL.refl _ _⟩ ?_
      refine any_takeP 0 rfl (by kernel_rfl) rfl (fun D B L => w_move rfl rfl rfl ⟨rfl, rfl, rfl, rfl⟩) ?_
      refine any_take 1 rfl (by kernel_rfl) rfl (q_ofI fun D B L hI => w_not rfl rfl rfl ⟨rfl, rfl, rfl, rfl⟩) ?_
      refine any_takeP 2 rfl (by kernel_rfl) rfl (fun D B L => w_move rfl rfl rfl ⟨rfl, rfl, rfl, rfl⟩) ?_
      refine a_split (d := 81) rfl (fun g7 => ?_) (fun g7 => by simp [hag] at g7)
      try simp only [decide_eq_true_eq, decide_eq_false_iff_not, Bool.not_eq_true', Bool.not_eq_false', decide_not, Decidable.not_not, Int.not_lt, Int.not_le, ne_eq] at g7
      refine any_all [3, 4] (by kernel_rfl) (by kernel_rfl) (by kernel_rfl) ⟨?_, ?_⟩
      · skip
        refine (w_loadN [_, _] rfl rfl lk29 rfl (rowL 6 rfl rfl rfl) ?_)
        refine ⟨⟨Kn.le.refl _, ⟨rfl, rfl, rfl, trivial⟩⟩, ?_⟩
        refine any_one 4 (by kernel_rfl) rfl (by kernel_rfl) (w_loadN [_, _] rfl rfl lk29 rfl (rowL 2 rfl rfl rfl) ?_)
        refine ⟨⟨Kn.le.refl _, ⟨rfl, rfl, rfl, trivial⟩⟩, ?_⟩
        refine any_take 5 rfl (by kernel_rfl) rfl (q_ofI fun D B L hI => w_retB rfl rfl en25 rfl (sameQueue_c _ _ (qTake (qTake qqd idd ud).1 idd ud).1 _ _ (qTake qqd idd ud).1 _ (hr13.mono ItemR.mono hI.1) (hr7.mono ItemR.mono hI.1)) ⟨rfl, rfl, rfl, rfl⟩) ?_
        refine any_take 6 rfl (by kernel_rfl) rfl (q_ofI fun D B L hI => w_pickT rfl rfl rfl rfl ⟨rfl, rfl, rfl, rfl⟩) ?_
        refine any_takeP 7 rfl (by kernel_rfl) rfl (fun D B L => w_move rfl rfl rfl ⟨rfl, rfl, rfl, rfl⟩) ?_
        refine a_split (d := 86) rfl (fun g8 => ?_) (fun g8 => by simp [hag] at g8)
        try simp only [decide_eq_true_eq, decide_eq_false_iff_not, Bool.not_eq_true', Bool.not_eq_false', decide_not, Decidable.not_not, Int.not_lt, Int.not_le, ne_eq] at g8
        refine any_takeP 9 rfl (by kernel_rfl) rfl (fun D B L => w_move rfl rfl rfl ⟨rfl, rfl, rfl, rfl⟩) ?_
        refine any_takeP 12 rfl (by kernel_rfl) rfl (fun D B L => w_move rfl rfl rfl ⟨rfl, rfl, rfl, rfl⟩) ?_
        refine any_all [8, 11] (by kernel_rfl) (by kernel_rfl) (by kernel_rfl) ⟨?_, ?_⟩
        · skip
          refine (w_loadN [_, _] rfl rfl lk29 rfl (rowL 2 rfl rfl rfl) ?_)
          refine ⟨⟨Kn.le.refl _, ⟨rfl, rfl, rfl, trivial⟩⟩, ?_⟩
          refine any_all [10, 11] (by kernel_rfl) (by kernel_rfl) (by kernel_rfl) ⟨?_, ?_⟩
          · skip
            refine (w_callP rfl rfl en31 rfl (implLeft_c _ _ (qTake qqd idd ud).1 _ _ hr7) ?_)
            intro v15 B15 hle15
            rintro rfl
            replace hr13 := hr13.mono ItemR.mono hle15
            replace hr7 := hr7.mono ItemR.mono hle15
            replace hqd := hqd.mono ItemR.mono hle15
            replace hr8 := hr8.mono ItemR.mono hle15
            refine ⟨⟨hle15, ⟨rfl, rfl, rfl, trivial⟩⟩, ?_⟩
            refine any_one 11 (by kernel_rfl) rfl (by kernel_rfl) (w_loadN [_, _] rfl rfl lk29 rfl (rowL 0 rfl rfl rfl) ?_)
            refine ⟨⟨hle15, ⟨rfl, rfl, rfl, trivial⟩⟩, ?_⟩
            refine any_one 13 (by kernel_rfl) rfl (by kernel_rfl) (w_callP rfl rfl en31 rfl (implLeft_c _ _ qqd _ _ hqd) ?_)
            intro v16 B16 hle16
            rintro rfl
            replace hr13 := hr13.mono ItemR.mono hle16
            replace hr7 := hr7.mono ItemR.mono hle16
            replace hqd := hqd.mono ItemR.mono hle16
            replace hr8 := hr8.mono ItemR.mono hle16
            refine ⟨⟨(hle15.trans hle16), ⟨rfl, rfl, rfl, trivial⟩⟩, ?_⟩
            refine any_take 14 rfl (by kernel_rfl) rfl (q_ofI fun D B L hI => w_sub rfl rfl rfl rfl (by first | exact wrI64 (by first | omega | (simp; done) | (simp; omega)) (by first | omega | (simp; done) | (simp; omega)) | rfl) ⟨rfl, rfl, rfl, rfl⟩) ?_
            refine any_take 15 rfl (by kernel_rfl) rfl (q_ofI fun D B L hI => w_eqlI rfl rfl rfl rfl ⟨rfl, rfl, rfl, rfl⟩) ?_
            refine any_take 16 rfl (by kernel_rfl) rfl (q_ofI fun D B L hI => w_pickT rfl rfl rfl rfl ⟨rfl, rfl, rfl, rfl⟩) ?_
            refine any_takeP 17 rfl (by kernel_rfl) rfl (fun D B L => w_move rfl rfl rfl ⟨rfl, rfl, rfl, rfl⟩) ?_
            refine a_split (d := 96) rfl (fun g9 => ?_) (fun g9 => by simp [hlt] at g9)
            try simp only [decide_eq_true_eq, decide_eq_false_iff_not, Bool.not_eq_true', Bool.not_eq_false', decide_not, Decidable.not_not, Int.not_lt, Int.not_le, ne_eq] at g9
            refine any_one 18 (by kernel_rfl) rfl (by kernel_rfl) (w_loadN [_, _] rfl rfl lk29 rfl (rowL 2 rfl rfl rfl) ?_)
            refine ⟨⟨(hle15.trans hle16), ⟨rfl, rfl, rfl, trivial⟩⟩, ?_⟩
            refine any_one 19 (by kernel_rfl) rfl (by kernel_rfl) (w_retB rfl rfl en27 rfl (implQueue_c _ _ (qTake qqd idd ud).1 _ hr7) ?_)
            refine ⟨⟨(hle15.trans hle16), ⟨rfl, rfl, rfl, trivial⟩⟩, ?_⟩
            refine any_take 20 rfl (by kernel_rfl) rfl (q_ofI fun D B L hI => w_pickT rfl rfl rfl rfl ⟨rfl, rfl, rfl, rfl⟩) ?_
            refine any_takeP 21 rfl (by kernel_rfl) rfl (fun D B L => w_assign rfl rfl rfl ⟨rfl, rfl, rfl, rfl⟩) ?_
            refine any_done (by kernel_rfl) (by kernel_rfl) ?_
            refine thn_n ?_
            refine w_tidy [(0, _), (2, _), (3, _), (4, _), (5, _), (6, _), (7, _), (8, _), (9, _), (10, _), (11, _), (12, _), (14, _), (17, _), (57, _)] [_, _, _, _, _, _, _] ⟨rfl, rfl, rfl, rfl, rfl, rfl, rfl, rfl, rfl, rfl, rfl, rfl, rfl, rfl, rfl, trivial⟩ rfl ?_
            refine w_ret ?_
            exact end0 .ret (.inl rfl) [_] ⟨rfl, trivial⟩ (bool_eq (take_valid ht))
          · skip
            refine (w_loadN [_, _] rfl rfl lk29 rfl (rowL 0 rfl rfl rfl) ?_)
            refine ⟨⟨Kn.le.refl _, ⟨rfl, rfl, rfl, trivial⟩⟩, ?_⟩
            refine any_one 10 (by kernel_rfl) rfl (by kernel_rfl) (w_callP rfl rfl en31 rfl (implLeft_c _ _ (qTake qqd idd ud).1 _ _ hr7) ?_)
            intro v18 B18 hle18
            rintro rfl
            replace hr13 := hr13.mono ItemR.mono hle18
            replace hr7 := hr7.mono ItemR.mono hle18
            replace hqd := hqd.mono ItemR.mono hle18
            replace hr8 := hr8.mono ItemR.mono hle18
            refine ⟨⟨hle18, ⟨rfl, rfl, rfl, trivial⟩⟩, ?_⟩
            refine any_one 13 (by kernel_rfl) rfl (by kernel_rfl) (w_callP rfl rfl en31 rfl (implLeft_c _ _ qqd _ _ hqd) ?_)
            intro v19 B19 hle19
            rintro rfl
            replace hr13 := hr13.mono ItemR.mono hle19
            replace hr7 := hr7.mono ItemR.mono hle19
            replace hqd := hqd.mono ItemR.mono hle19
            replace hr8 := hr8.mono ItemR.mono hle19
            refine ⟨⟨(hle18.trans hle19), ⟨rfl, rfl, rfl, trivial⟩⟩, ?_⟩
            refine any_take 14 rfl (by kernel_rfl) rfl (q_ofI fun D B L hI => w_sub rfl rfl rfl rfl (by first | exact wrI64 (by first | omega | (simp; done) | (simp; omega)) (by first | omega | (simp; done) | (simp; omega)) | rfl) ⟨rfl, rfl, rfl, rfl⟩) ?_
            refine any_take 15 rfl (by kernel_rfl) rfl (q_ofI fun D B L hI => w_eqlI rfl rfl rfl rfl ⟨rfl, rfl, rfl, rfl⟩) ?_
            refine any_take 16 rfl (by kernel_rfl) rfl (q_ofI fun D B L hI => w_pickT rfl rfl rfl rfl ⟨rfl, rfl, rfl, rfl⟩) ?_
            refine any_takeP 17 rfl (by kernel_rfl) rfl (fun D B L => w_move rfl rfl rfl ⟨rfl, rfl, rfl, rfl⟩) ?_
            refine a_split (d := 96) rfl (fun g9 => ?_) (fun g9 => by simp [hlt] at g9)
            try simp only [decide_eq_true_eq, decide_eq_false_iff_not, Bool.not_eq_true', Bool.not_eq_false', decide_not, Decidable.not_not, Int.not_lt, Int.not_le, ne_eq] at g9
            refine any_one 18 (by kernel_rfl) rfl (by kernel_rfl) (w_loadN [_, _] rfl rfl lk29 rfl (rowL 2 rfl rfl rfl) ?_)
            refine ⟨⟨(hle18.trans hle19), ⟨rfl, rfl, rfl, trivial⟩⟩, ?_⟩
            refine any_one 19 (by kernel_rfl) rfl (by kernel_rfl) (w_retB rfl rfl en27 rfl (implQueue_c _ _ (qTake qqd idd ud).1 _ hr7) ?_)
            refine ⟨⟨(hle18.trans hle19), ⟨rfl, rfl, rfl, trivial⟩⟩, ?_⟩
            refine any_take 20 rfl (by kernel_rfl) rfl (q_ofI fun D B L hI => w_pickT rfl rfl rfl rfl ⟨rfl, rfl, rfl, rfl⟩) ?_
            refine any_takeP 21 rfl (by kernel_rfl) rfl (fun D B L => w_assign rfl rfl rfl ⟨rfl, rfl, rfl, rfl⟩) ?_
            refine any_done (by kernel_rfl) (by kernel_rfl) ?_
            refine thn_n ?_
            refine w_tidy [(0, _), (2, _), (3, _), (4, _), (5, _), (6, _), (7, _), (8, _), (9, _), (10, _), (11, _), (12, _), (14, _), (17, _), (57, _)] [_, _, _, _, _, _, _] ⟨rfl, rfl, rfl, rfl, rfl, rfl, rfl, rfl, rfl, rfl, rfl, rfl, rfl, rfl, rfl, trivial⟩ rfl ?_
            refine w_ret ?_
            exact end0 .ret (.inl rfl) [_] ⟨rfl, trivial⟩ (bool_eq (take_valid ht))
        · skip
          refine (w_loadN [_, _] rfl rfl lk29 rfl (rowL 0 rfl rfl rfl) ?_)
          refine ⟨⟨Kn.le.refl _, ⟨rfl, rfl, rfl, trivial⟩⟩, ?_⟩
          refine any_one 8 (by kernel_rfl) rfl (by kernel_rfl) (w_loadN [_, _] rfl rfl lk29 rfl (rowL 2 rfl rfl rfl) ?_)
          refine ⟨⟨Kn.le.refl _, ⟨rfl, rfl, rfl, trivial⟩⟩, ?_⟩
          refine any_one 10 (by kernel_rfl) rfl (by kernel_rfl) (w_callP rfl rfl en31 rfl (implLeft_c _ _ (qTake qqd idd ud).1 _ _ hr7) ?_)
          intro v21 B21 hle21
          rintro rfl
          replace hr13 := hr13.mono ItemR.mono hle21
          replace hr7 := hr7.mono ItemR.mono hle21
          replace hqd := hqd.mono ItemR.mono hle21
          replace hr8 := hr8.mono ItemR.mono hle21
          refine ⟨⟨hle21, ⟨rfl, rfl, rfl, trivial⟩⟩, ?_⟩
          refine any_one 13 (by kernel_rfl) rfl (by kernel_rfl) (w_callP rfl rfl en31 rfl (implLeft_c _ _ qqd _ _ hqd) ?_)
          intro v22 B22 hle22
          rintro rfl
          replace hr13 := hr13.mono ItemR.mono hle22
          replace hr7 := hr7.mono ItemR.mono hle22
          replace hqd := hqd.mono ItemR.mono hle22
          replace hr8 := hr8.mono ItemR.mono hle22
          refine ⟨⟨(hle21.trans hle22), ⟨rfl, rfl, rfl, trivial⟩⟩, ?_⟩
          refine any_take 14 rfl (by kernel_rfl) rfl (q_ofI fun D B L hI => w_sub rfl rfl rfl rfl (by first | exact wrI64 (by first | omega | (simp; done) | (simp; omega)) (by first | omega | (simp; done) | (simp; omega)) | rfl) ⟨rfl, rfl, rfl, rfl⟩) ?_
          refine any_take 15 rfl (by kernel_rfl) rfl (q_ofI fun D B L hI => w_eqlI rfl rfl rfl rfl ⟨rfl, rfl, rfl, rfl⟩) ?_
          refine any_take 16 rfl (by kernel_rfl) rfl (q_ofI fun D B L hI => w_pickT rfl rfl rfl rfl ⟨rfl, rfl, rfl, rfl⟩) ?_
          refine any_takeP 17 rfl (by kernel_rfl) rfl (fun D B L => w_move rfl rfl rfl ⟨rfl, rfl, rfl, rfl⟩) ?_
          refine a_split (d := 96) rfl (fun g9 => ?_) (fun g9 => by simp [hlt] at g9)
          try simp only [decide_eq_true_eq, decide_eq_false_iff_not, Bool.not_eq_true', Bool.not_eq_false', decide_not, Decidable.not_not, Int.not_lt, Int.not_le, ne_eq] at g9
          refine any_one 18 (by kernel_rfl) rfl (by kernel_rfl) (w_loadN [_, _] rfl rfl lk29 rfl (rowL 2 rfl rfl rfl) ?_)
          refine ⟨⟨(hle21.trans hle22), ⟨rfl, rfl, rfl, trivial⟩⟩, ?_⟩
          refine any_one 19 (by kernel_rfl) rfl (by kernel_rfl) (w_retB rfl rfl en27 rfl (implQueue_c _ _ (qTake qqd idd ud).1 _ hr7) ?_)
          refine ⟨⟨(hle21.trans hle22), ⟨rfl, rfl, rfl, trivial⟩⟩, ?_⟩
          refine any_take 20 rfl (by kernel_rfl) rfl (q_ofI fun D B L hI => w_pickT rfl rfl rfl rfl ⟨rfl, rfl, rfl, rfl⟩) ?_
          refine any_takeP 21 rfl (by kernel_rfl) rfl (fun D B L => w_assign rfl rfl rfl ⟨rfl, rfl, rfl, rfl⟩) ?_
          refine any_done (by kernel_rfl) (by kernel_rfl) ?_
          refine thn_n ?_
          refine w_tidy [(0, _), (2, _), (3, _), (4, _), (5, _), (6, _), (7, _), (8, _), (9, _), (10, _), (11, _), (12, _), (14, _), (17, _), (57, _)] [_, _, _, _, _, _, _] ⟨rfl, rfl, rfl, rfl, rfl, rfl, rfl, rfl, rfl, rfl, rfl, rfl, rfl, rfl, rfl, trivial⟩ rfl ?_
          refine w_ret ?_
          exact end0 .ret (.inl rfl) [_] ⟨rfl, trivial⟩ (bool_eq (take_valid ht))
      · skip
        refine (w_loadN [_, _] rfl rfl lk29 rfl (rowL 2 rfl rfl rfl) ?_)
        refine ⟨⟨Kn.le.refl _, ⟨rfl, rfl, rfl, trivial⟩⟩, ?_⟩
        refine any_one 3 (by kernel_rfl) rfl (by kernel_rfl) (w_loadN [_, _] rfl rfl lk29 rfl (rowL 6 rfl rfl rfl) ?_)
        refine ⟨⟨Kn.le.refl _, ⟨rfl, rfl, rfl, trivial⟩⟩, ?_⟩
        refine any_take 5 rfl (by kernel_rfl) rfl (q_ofI fun D B L hI => w_retB rfl rfl en25 rfl (sameQueue_c _ _ (qTake (qTake qqd idd ud).1 idd ud).1 _ _ (qTake qqd idd ud).1 _ (hr13.mono ItemR.mono hI.1) (hr7.mono ItemR.mono hI.1)) ⟨rfl, rfl, rfl, rfl⟩) ?_
        refine any_take 6 rfl (by kernel_rfl) rfl (q_ofI fun D B L hI => w_pickT rfl rfl rfl rfl ⟨rfl, rfl, rfl, rfl⟩) ?_
        refine any_takeP 7 rfl (by kernel_rfl) rfl (fun D B L => w_move rfl rfl rfl ⟨rfl, rfl, rfl, rfl⟩) ?_
        refine a_split (d := 86) rfl (fun g8 => ?_) (fun g8 => by simp [hag] at g8)
        try simp only [decide_eq_true_eq, decide_eq_false_iff_not, Bool.not_eq_true', Bool.not_eq_false', decide_not, Decidable.not_not, Int.not_lt, Int.not_le, ne_eq] at g8
        refine any_takeP 9 rfl (by kernel_rfl) rfl (fun D B L => w_move rfl rfl rfl ⟨rfl, rfl, rfl, rfl⟩) ?_
        refine any_takeP 12 rfl (by kernel_rfl) rfl (fun D B L => w_move rfl rfl rfl ⟨rfl, rfl, rfl, rfl⟩) ?_
        refine any_all [8, 11] (by kernel_rfl) (by kernel_rfl) (by kernel_rfl) ⟨?_, ?_⟩
        · skip
          refine (w_loadN [_, _] rfl rfl lk29 rfl (rowL 2 rfl rfl rfl) ?_)
          refine ⟨⟨Kn.le.refl _, ⟨rfl, rfl, rfl, trivial⟩⟩, ?_⟩
          refine any_all [10, 11] (by kernel_rfl) (by kernel_rfl) (by kernel_rfl) ⟨?_, ?_⟩
          · skip
            refine (w_callP rfl rfl en31 rfl (implLeft_c _ _ (qTake qqd idd ud).1 _ _ hr7) ?_)
            intro v25 B25 hle25
            rintro rfl
            replace hr7 := hr7.mono ItemR.mono hle25
            replace hr13 := hr13.mono ItemR.mono hle25
            replace hqd := hqd.mono ItemR.mono hle25
            replace hr8 := hr8.mono ItemR.mono hle25
            refine ⟨⟨hle25, ⟨rfl, rfl, rfl, trivial⟩⟩, ?_⟩
            refine any_one 11 (by kernel_rfl) rfl (by kernel_rfl) (w_loadN [_, _] rfl rfl lk29 rfl (rowL 0 rfl rfl rfl) ?_)
            refine ⟨⟨hle25, ⟨rfl, rfl, rfl, trivial⟩⟩, ?_⟩
            refine any_one 13 (by kernel_rfl) rfl (by kernel_rfl) (w_callP rfl rfl en31 rfl (implLeft_c _ _ qqd _ _ hqd) ?_)
            intro v26 B26 hle26
            rintro rfl
            replace hr7 := hr7.mono ItemR.mono hle26
            replace hr13 := hr13.mono ItemR.mono hle26
            replace hqd := hqd.mono ItemR.mono hle26
            replace hr8 := hr8.mono ItemR.mono hle26
            refine ⟨⟨(hle25.trans hle26), ⟨rfl, rfl, rfl, trivial⟩⟩, ?_⟩
            refine any_take 14 rfl (by kernel_rfl) rfl (q_ofI fun D B L hI => w_sub rfl rfl rfl rfl (by first | exact wrI64 (by first | omega | (simp; done) | (simp; omega)) (by first | omega | (simp; done) | (simp; omega)) | rfl) ⟨rfl, rfl, rfl, rfl⟩) ?_
            refine any_take 15 rfl (by kernel_rfl) rfl (q_ofI fun D B L hI => w_eqlI rfl rfl rfl rfl ⟨rfl, rfl, rfl, rfl⟩) ?_
            refine any_take 16 rfl (by kernel_rfl) rfl (q_ofI fun D B L hI => w_pickT rfl rfl rfl rfl ⟨rfl, rfl, rfl, rfl⟩) ?_
            refine any_takeP 17 rfl (by kernel_rfl) rfl (fun D B L => w_move rfl rfl rfl ⟨rfl, rfl, rfl, rfl⟩) ?_
            refine a_split (d := 96) rfl (fun g9 => ?_) (fun g9 => by simp [hlt] at g9)
            try simp only [decide_eq_true_eq, decide_eq_false_iff_not, Bool.not_eq_true', Bool.not_eq_false', decide_not, Decidable.not_not, Int.not_lt, Int.not_le, ne_eq] at g9
            refine any_one 18 (by kernel_rfl) rfl (by kernel_rfl) (w_loadN [_, _] rfl rfl lk29 rfl (rowL 2 rfl rfl rfl) ?_)
            refine ⟨⟨(hle25.trans hle26), ⟨rfl, rfl, rfl, trivial⟩⟩, ?_⟩
            refine any_one 19 (by kernel_rfl) rfl (by kernel_rfl) (w_retB rfl rfl en27 rfl (implQueue_c _ _ (qTake qqd idd ud).1 _ hr7) ?_)
            refine ⟨⟨(hle25.trans hle26), ⟨rfl, rfl, rfl, trivial⟩⟩, ?_⟩
            refine any_take 20 rfl (by kernel_rfl) rfl (q_ofI fun D B L hI => w_pickT rfl rfl rfl rfl ⟨rfl, rfl, rfl, rfl⟩) ?_
            refine any_takeP 21 rfl (by kernel_rfl) rfl (fun D B L => w_assign rfl rfl rfl ⟨rfl, rfl, rfl, rfl⟩) ?_
            refine any_done (by kernel_rfl) (by kernel_rfl) ?_
            refine thn_n ?_
            refine w_tidy [(0, _), (2, _), (3, _), (4, _), (5, _), (6, _), (7, _), (8, _), (9, _), (10, _), (11, _), (12, _), (14, _), (17, _), (57, _)] [_, _, _, _, _, _, _] ⟨rfl, rfl, rfl, rfl, rfl, rfl, rfl, rfl, rfl, rfl, rfl, rfl, rfl, rfl, rfl, trivial⟩ rfl ?_
            refine w_ret ?_
            exact end0 .ret (.inl rfl) [_] ⟨rfl, trivial⟩ (bool_eq (take_valid ht))
          · skip
            refine (w_loadN [_, _] rfl rfl lk29 rfl (rowL 0 rfl rfl rfl) ?_)
            refine ⟨⟨Kn.le.refl _, ⟨rfl, rfl, rfl, trivial⟩⟩, ?_⟩
            refine any_one 10 (by kernel_rfl) rfl (by kernel_rfl) (w_callP rfl rfl en31 rfl (implLeft_c _ _ (qTake qqd idd ud).1 _ _ hr7) ?_)
            intro v28 B28 hle28
            rintro rfl
            replace hr7 := hr7.mono ItemR.mono hle28
            replace hr13 := hr13.mono ItemR.mono hle28
            replace hqd := hqd.mono ItemR.mono hle28
            replace hr8 := hr8.mono ItemR.mono hle28
            refine ⟨⟨hle28, ⟨rfl, rfl, rfl, trivial⟩⟩, ?_⟩
            refine any_one 13 (by kernel_rfl) rfl (by kernel_rfl) (w_callP rfl rfl en31 rfl (implLeft_c _ _ qqd _ _ hqd) ?_)
            intro v29 B29 hle29
            rintro rfl
            replace hr7 := hr7.mono ItemR.mono hle29
            replace hr13 := hr13.mono ItemR.mono hle29
            replace hqd := hqd.mono ItemR.mono hle29
            replace hr8 := hr8.mono ItemR.mono hle29
            refine ⟨⟨(hle28.trans hle29), ⟨rfl, rfl, rfl, trivial⟩⟩, ?_⟩
            refine any_take 14 rfl (by kernel_rfl) rfl (q_ofI fun D B L hI => w_sub rfl rfl rfl rfl (by first | exact wrI64 (by first | omega | (simp; done) | (simp; omega)) (by first | omega | (simp; done) | (simp; omega)) | rfl) ⟨rfl, rfl, rfl, rfl⟩) ?_
            refine any_take 15 rfl (by kernel_rfl) rfl (q_ofI fun D B L hI => w_eqlI rfl rfl rfl rfl ⟨rfl, rfl, rfl, rfl⟩) ?_
            refine any_take 16 rfl (by kernel_rfl) rfl (q_ofI fun D B L hI => w_pickT rfl rfl rfl rfl ⟨rfl, rfl, rfl, rfl⟩) ?_
            refine any_takeP 17 rfl (by kernel_rfl) rfl (fun D B L => w_move rfl rfl rfl ⟨rfl, rfl, rfl, rfl⟩) ?_
            refine a_split (d := 96) rfl (fun g9 => ?_) (fun g9 => by simp [hlt] at g9)
            try simp only [decide_eq_true_eq, decide_eq_false_iff_not, Bool.not_eq_true', Bool.not_eq_false', decide_not, Decidable.not_not, Int.not_lt, Int.not_le, ne_eq] at g9
            refine any_one 18 (by kernel_rfl) rfl (by kernel_rfl) (w_loadN [_, _] rfl rfl lk29 rfl (rowL 2 rfl rfl rfl) ?_)
            refine ⟨⟨(hle28.trans hle29), ⟨rfl, rfl, rfl, trivial⟩⟩, ?_⟩
            refine any_one 19 (by kernel_rfl) rfl (by kernel_rfl) (w_retB rfl rfl en27 rfl (implQueue_c _ _ (qTake qqd idd ud).1 _ hr7) ?_)
            refine ⟨⟨(hle28.trans hle29), ⟨rfl, rfl, rfl, trivial⟩⟩, ?_⟩
            refine any_take 20 rfl (by kernel_rfl) rfl (q_ofI fun D B L hI => w_pickT rfl rfl rfl rfl ⟨rfl, rfl, rfl, rfl⟩) ?_
            refine any_takeP 21 rfl (by kernel_rfl) rfl (fun D B L => w_assign rfl rfl rfl ⟨rfl, rfl, rfl, rfl⟩) ?_
            refine any_done (by kernel_rfl) (by kernel_rfl) ?_
            refine thn_n ?_
            refine w_tidy [(0, _), (2, _), (3, _), (4, _), (5, _), (6, _), (7, _), (8, _), (9, _), (10, _), (11, _), (12, _), (14, _), (17, _), (57, _)] [_, _, _, _, _, _, _] ⟨rfl, rfl, rfl, rfl, rfl, rfl, rfl, rfl, rfl, rfl, rfl, rfl, rfl, rfl, rfl, trivial⟩ rfl ?_
            refine w_ret ?_
            exact end0 .ret (.inl rfl) [_] ⟨rfl, trivial⟩ (bool_eq (take_valid ht))
        · skip
          refine (w_loadN [_, _] rfl rfl lk29 rfl (rowL 0 rfl rfl rfl) ?_)
          refine ⟨⟨Kn.le.refl _, ⟨rfl, rfl, rfl, trivial⟩⟩, ?_⟩
          refine any_one 8 (by kernel_rfl) rfl (by kernel_rfl) (w_loadN [_, _] rfl rfl lk29 rfl (rowL 2 rfl rfl rfl) ?_)
          refine ⟨⟨Kn.le.refl _, ⟨rfl, rfl, rfl, trivial⟩⟩, ?_⟩
          refine any_one 10 (by kernel_rfl) rfl (by kernel_rfl) (w_callP rfl rfl en31 rfl (implLeft_c _ _ (qTake qqd idd ud).1 _ _ hr7) ?_)
          intro v31 B31 hle31
          rintro rfl
          replace hr7 := hr7.mono ItemR.mono hle31
          replace hr13 := hr13.mono ItemR.mono hle31
          replace hqd := hqd.mono ItemR.mono hle31
          replace hr8 := hr8.mono ItemR.mono hle31
          refine ⟨⟨hle31, ⟨rfl, rfl, rfl, trivial⟩⟩, ?_⟩
          refine any_one 13 (by kernel_rfl) rfl (by kernel_rfl) (w_callP rfl rfl en31 rfl (implLeft_c _ _ qqd _ _ hqd) ?_)
          intro v32 B32 hle32
          rintro rfl
          replace hr7 := hr7.mono ItemR.mono hle32
          replace hr13 := hr13.mono ItemR.mono hle32
          replace hqd := hqd.mono ItemR.mono hle32
          replace hr8 := hr8.mono ItemR.mono hle32
          refine ⟨⟨(hle31.trans hle32), ⟨rfl, rfl, rfl, trivial⟩⟩, ?_⟩
          refine any_take 14 rfl (by kernel_rfl) rfl (q_ofI fun D B L hI => w_sub rfl rfl rfl rfl (by first | exact wrI64 (by first | omega | (simp; done) | (simp; omega)) (by first | omega | (simp; done) | (simp; omega)) | rfl) ⟨rfl, rfl, rfl, rfl⟩) ?_
          refine any_take 15 rfl (by kernel_rfl) rfl (q_ofI fun D B L hI => w_eqlI rfl rfl rfl rfl ⟨rfl, rfl, rfl, rfl⟩) ?_
          refine any_take 16 rfl (by kernel_rfl) rfl (q_ofI fun D B L hI => w_pickT rfl rfl rfl rfl ⟨rfl, rfl, rfl, rfl⟩) ?_
          refine any_takeP 17 rfl (by kernel_rfl) rfl (fun D B L => w_move rfl rfl rfl ⟨rfl, rfl, rfl, rfl⟩) ?_
          refine a_split (d := 96) rfl (fun g9 => ?_) (fun g9 => by simp [hlt] at g9)
          try simp only [decide_eq_true_eq, decide_eq_false_iff_not, Bool.not_eq_true', Bool.not_eq_false', decide_not, Decidable.not_not, Int.not_lt, Int.not_le, ne_eq] at g9
          refine any_one 18 (by kernel_rfl) rfl (by kernel_rfl) (w_loadN [_, _] rfl rfl lk29 rfl (rowL 2 rfl rfl rfl) ?_)
          refine ⟨⟨(hle31.trans hle32), ⟨rfl, rfl, rfl, trivial⟩⟩, ?_⟩
          refine any_one 19 (by kernel_rfl) rfl (by kernel_rfl) (w_retB rfl rfl en27 rfl (implQueue_c _ _ (qTake qqd idd ud).1 _ hr7) ?_)
          refine ⟨⟨(hle31.trans hle32), ⟨rfl, rfl, rfl, trivial⟩⟩, ?_⟩
          refine any_take 20 rfl (by kernel_rfl) rfl (q_ofI fun D B L hI => w_pickT rfl rfl rfl rfl ⟨rfl, rfl, rfl, rfl⟩) ?_
          refine any_takeP 21 rfl (by kernel_rfl) rfl (fun D B L => w_assign rfl rfl rfl ⟨rfl, rfl, rfl, rfl⟩) ?_
          refine any_done (by kernel_rfl) (by kernel_rfl) ?_
          refine thn_n ?_
          refine w_tidy [(0, _), (2, _), (3, _), (4, _), (5, _), (6, _), (7, _), (8, _), (9, _), (10, _), (11, _), (12, _), (14, _), (17, _), (57, _)] [_, _, _, _, _, _, _] ⟨rfl, rfl, rfl, rfl, rfl, rfl, rfl, rfl, rfl, rfl, rfl, rfl, rfl, rfl, rfl, trivial⟩ rfl ?_
          refine w_ret ?_
          exact end0 .ret (.inl rfl) [_] ⟨rfl, trivial⟩ (bool_eq (take_valid ht))

set_option maxRecDepth 4000 in
set_option maxHeartbeats 400000 in
theorem fnTakeOthers_w (W : World) (q1 : Option Addr) (m1 c1 : Nat) (h1 : m1 ≤ c1) (hb1 : BytesAt (allOf W) q1 m1) : Calls Try.prog 12 [.slice q1 m1 c1].toArray W fun e w' => ∃ v, e = .returned v ∧ Kept W w' ∧ ∃ (B' : Kn) (Ls' : List Cells), Sat B' Ls'.flatten w' ∧ v = .bool true := by
  refine calls_of (args := [.slice q1 m1 c1]) 94 Try.func12 rfl rfl rfl (Nat.le_of_ble_eq_true rfl) ?_
  generalize allOf W = B at hb1 ⊢
  refine w_seq_region ?_
  refine opW_x (w_assign rfl rfl rfl ?_)
  refine w_keep [(0, _), (2, _)] ⟨rfl, rfl, trivial⟩ ?_
  refine w_seq ?_
  refine w_seq_region ?_
  refine opW_x (w_move rfl rfl rfl ?_)
  refine opW_x (w_lenV rfl rfl Try.underlying22 rfl ?_)
  refine opW_x (w_gtr rfl rfl rfl rfl ?_)
  refine w_keep [(0, _), (2, _), (16, _)] ⟨rfl, rfl, rfl, trivial⟩ ?_
  refine w_cond rfl (fun g1 => ?_) (fun g1 => ?_)
  · try simp only [decide_eq_true_eq, decide_eq_false_iff_not, Bool.not_eq_true', Bool.not_eq_false', decide_not, Decidable.not_not, Int.not_lt, Int.not_le, ne_eq] at g1
    refine w_seq_region ?_
    refine opW_x (w_assign rfl rfl rfl ?_)
    refine w_keep [(0, _), (2, _), (16, _)] ⟨rfl, rfl, rfl, trivial⟩ ?_
    refine w_ret (thn_r ?_)
    exact end0 .ret (.inl rfl) [_] ⟨rfl, trivial⟩ (by first | rfl | exact bool_eq (by simp [*]))
  · try simp only [decide_eq_true_eq, decide_eq_false_iff_not, Bool.not_eq_true', Bool.not_eq_false', decide_not, Decidable.not_not, Int.not_lt, Int.not_le, ne_eq] at g1
    refine w_skip ?_
    refine thn_n ?_
    refine w_seq_region ?_
    refine opW_x (w_move rfl rfl rfl ?_)
    refine opW_x (w_callP rfl rfl en34 rfl (drawQT_c _ _ _ (by omega) _ (by assumption)) ?_)
    intro vd Bd hled
    rintro ⟨aqd, cqd, qqd, idd, ud, rfl, hqd, hud⟩
    have hqdn := hqd.len
    refine opW_x (w_move rfl rfl rfl ?_)
    refine opW_x (w_extract rfl rfl rfl rfl ?_)
    refine opW_x (w_extract rfl rfl rfl rfl ?_)
    refine opW_x (w_extract rfl rfl rfl rfl ?_)
    refine opW_x (w_alloc (l := [_, _]) rfl rfl zo29 rfl (fun b2 => ?_))
    refine opW_x (w_store [_, _] 0 [_, _] rfl rfl sz29 rfl rfl rfl rfl rfl rfl rfl rfl ?_)
    refine opW_x (w_assign rfl rfl rfl ?_)
    refine opW_x (w_assign rfl rfl rfl ?_)
    refine w_tidy [(0, _), (2, _), (3, _), (4, _), (5, _), (16, _)] [_] ⟨rfl, rfl, rfl, rfl, rfl, rfl, trivial⟩ rfl ?_
    refine w_seq_region ?_
    refine opW_x (w_loadN [_, _] rfl rfl lk29 rfl (rowL 0 rfl rfl rfl) ?_)
    refine opW_x (w_move rfl rfl rfl ?_)
    refine opW_x (w_move rfl rfl rfl ?_)
    refine opW_x (w_call rfl rfl en33 rfl (implTake_c _ _ qqd idd ud _ hqd) ?_)
    rintro _ Ba _ hlea ⟨la, aa, ca, rfl, rfl, hda, hta⟩
    replace hqd := hqd.mono ItemR.mono hlea
    refine opW_x (w_move rfl rfl rfl ?_)
    refine opW_x (w_extract rfl rfl rfl rfl ?_)
    refine opW_x (w_extract rfl rfl rfl rfl ?_)
    refine opW_x (w_extract rfl rfl rfl rfl ?_)
    refine opW_x (w_alloc (l := [_, _]) rfl rfl zo29 rfl (fun b4 => ?_))
    refine opW_x (w_store [_, _] 2 [_, _] rfl rfl sz29 rfl rfl rfl rfl rfl rfl rfl rfl ?_)
    refine opW_x (w_assign rfl rfl rfl ?_)
    refine opW_x (w_assign rfl rfl rfl ?_)
    refine w_tidy [(0, _), (2, _), (3, _), (4, _), (5, _), (6, _), (7, _), (8, _), (16, _)] [_, _, _] ⟨rfl, rfl, rfl, rfl, rfl, rfl, rfl, rfl, rfl, trivial⟩ rfl ?_
    refine w_seq_region ?_
    refine opW_x (w_loadN [_, _] rfl rfl lk29 rfl (rowL 0 rfl rfl rfl) ?_)
    refine opW_x (w_move rfl rfl rfl ?_)
    refine opW_x (w_move rfl rfl rfl ?_)
    refine opW_x (w_call rfl rfl en35 rfl (specTake_c _ _ qqd idd ud _ hqd) ?_)
    rintro _ Bb _ hleb ⟨lb, ab, cb, rfl, rfl, hvb, htb⟩
    replace hqd := hqd.mono ItemR.mono hleb
    replace hvb := hvb.mono ItemR.mono Kn.less_le
    have hal : (qTake qqd idd ud).1.items.length ≤ 2000000 := qTake_le hqdn
    refine opW_x (w_move rfl rfl rfl ?_)
    refine opW_x (w_extract rfl rfl rfl rfl ?_)
    refine opW_x (w_extract rfl rfl rfl rfl ?_)
    refine opW_x (w_extract rfl rfl rfl rfl ?_)
    refine opW_x (w_alloc (l := [_, _]) rfl rfl zo29 rfl (fun b6 => ?_))
    refine opW_x (w_store [_, _] 4 [_, _] rfl rfl sz29 rfl rfl rfl rfl rfl rfl rfl rfl ?_)
    refine opW_x (w_assign rfl rfl rfl ?_)
    refine opW_x (w_assign rfl rfl rfl ?_)
    refine w_tidy [(0, _), (2, _), (3, _), (4, _), (5, _), (6, _), (7, _), (8, _), (9, _), (10, _), (11, _), (16, _)] [_, _, _, _, _] ⟨rfl, rfl, rfl, rfl, rfl, rfl, rfl, rfl, rfl, rfl, rfl, rfl, trivial⟩ rfl ?_
    refine w_seq ?_
    refine w_pubD 1 rfl hda ItemO.known ItemR.mono (by first | omega | (simp; done) | (simp; omega)) (fun B7 hle7 hr7 => ?_)
    replace hqd := hqd.mono ItemR.mono hle7
    replace hvb := hvb.mono ItemR.mono hle7
    have hr7n := hr7.len
    refine w_pubK 3 rfl hvb ItemR.mono (by first | omega | decide | (simp; done) | (simp; omega)) (fun B8 hle8 hr8 => ?_)
    replace hqd := hqd.mono ItemR.mono hle8
    replace hr7 := hr7.mono ItemR.mono hle8
    have hr8n := hr8.len
    refine w_seq_region ?_
    refine opW_x (w_move rfl rfl rfl ?_)
    refine opW_x (w_move rfl rfl rfl ?_)
    refine opW_x (w_neqE rfl rfl rfl rfl rfl (eqBool Try.underlying4) ?_)
    refine opW_x (w_move rfl rfl rfl ?_)
    refine r_split (d := 42) rfl (fun g2 => by simp at g2) (fun g2 => ?_)
    try simp only [decide_eq_true_eq, decide_eq_false_iff_not, Bool.not_eq_true', Bool.not_eq_false', decide_not, Decidable.not_not, Int.not_lt, Int.not_le, ne_eq] at g2
    refine opW_x (w_move rfl rfl rfl ?_)
    refine opW_x (w_move rfl rfl rfl ?_)
    refine opW_x (w_neqS rfl rfl rfl rfl ?_)
    refine opW_x (w_pickF rfl rfl rfl rfl ?_)
    refine opW_x (w_move rfl rfl rfl ?_)
    refine r_split (d := 47) rfl (fun g3 => by simp at g3) (fun g3 => ?_)
    try simp only [decide_eq_true_eq, decide_eq_false_iff_not, Bool.not_eq_true', Bool.not_eq_false', decide_not, Decidable.not_not, Int.not_lt, Int.not_le, ne_eq] at g3
    refine opW_x (w_loadN [_, _] rfl rfl lk29 rfl (rowL 2 rfl rfl rfl) ?_)
    refine opW_x (w_loadN [_, _] rfl rfl lk29 rfl (rowL 4 rfl rfl rfl) ?_)
    refine opW_x (w_retB rfl rfl en25 rfl (sameQueue_c _ _ (qTake qqd idd ud).1 _ _ (qTake qqd idd ud).1 _ hr7 hr8) ?_)
    refine opW_x (w_not rfl rfl rfl ?_)
    refine opW_x (w_pickF rfl rfl rfl rfl ?_)
    refine opW_x (w_move rfl rfl rfl ?_)
    refine r_split (d := 53) rfl (fun g4 => by simp at g4) (fun g4 => ?_)
    try simp only [decide_eq_true_eq, decide_eq_false_iff_not, Bool.not_eq_true', Bool.not_eq_false', decide_not, Decidable.not_not, Int.not_lt, Int.not_le, ne_eq] at g4
    refine opW_x (w_move rfl rfl rfl ?_)
    refine opW_x (w_not rfl rfl rfl ?_)
    refine opW_x (w_pickF rfl rfl rfl rfl ?_)
    refine w_tidy [(0, _), (2, _), (3, _), (4, _), (5, _), (6, _), (7, _), (8, _), (9, _), (10, _), (11, _), (16, _), (56, _)] [_, _, _, _, _] ⟨rfl, rfl, rfl, rfl, rfl, rfl, rfl, rfl, rfl, rfl, rfl, rfl, rfl, trivial⟩ rfl ?_
    refine w_cond rfl (fun g6 => ?_) (fun g6 => ?_)
    · try simp only [decide_eq_true_eq, decide_eq_false_iff_not, Bool.not_eq_true', Bool.not_eq_false', decide_not, Decidable.not_not, Int.not_lt, Int.not_le, ne_eq] at g6
      refine w_seq_region ?_
      refine opW_x (w_move rfl rfl rfl ?_)
      refine opW_x (w_move rfl rfl rfl ?_)
      refine opW_x (w_eqlE rfl rfl rfl rfl rfl (eqBool Try.underlying4) ?_)
      refine opW_x (w_move rfl rfl rfl ?_)
      refine r_split (d := 60) rfl (fun g5 => ?_) (fun g5 => by simp at g5)
      try simp only [decide_eq_true_eq, decide_eq_false_iff_not, Bool.not_eq_true', Bool.not_eq_false', decide_not, Decidable.not_not, Int.not_lt, Int.not_le, ne_eq] at g5
      refine opW_x (w_move rfl rfl rfl ?_)
      refine opW_x (w_move rfl rfl rfl ?_)
      refine opW_x (w_eqlS rfl rfl rfl rfl ?_)
      refine opW_x (w_pickT rfl rfl rfl rfl ?_)
      refine opW_x (w_move rfl rfl rfl ?_)
      refine r_split (d := 65) rfl (fun g55 => ?_) (fun g55 => by simp at g55)
      try simp only [decide_eq_true_eq, decide_eq_false_iff_not, Bool.not_eq_true', Bool.not_eq_false', decide_not, Decidable.not_not, Int.not_lt, Int.not_le, ne_eq] at g55
      refine opW_x (w_loadN [_, _] rfl rfl lk29 rfl (rowL 2 rfl rfl rfl) ?_)
      refine opW_x (w_loadN [_, _] rfl rfl lk29 rfl (rowL 4 rfl rfl rfl) ?_)
      refine opW_x (w_retB rfl rfl en25 rfl (sameQueue_c _ _ (qTake qqd idd ud).1 _ _ (qTake qqd idd ud).1 _ hr7 hr8) ?_)
      refine opW_x (w_pickT rfl rfl rfl rfl ?_)
      refine opW_x (w_assign rfl rfl rfl ?_)
      refine w_keep [(0, _), (2, _), (3, _), (4, _), (5, _), (6, _), (7, _), (8, _), (9, _), (10, _), (11, _), (16, _), (56, _)] ⟨rfl, rfl, rfl, rfl, rfl, rfl, rfl, rfl, rfl, rfl, rfl, rfl, rfl, trivial⟩ ?_
      refine w_ret (thn_r ?_)
      exact end0 .ret (.inl rfl) [_] ⟨rfl, trivial⟩ (by first | rfl | exact bool_eq (by simp [*]))
    · try simp only [decide_eq_true_eq, decide_eq_false_iff_not, Bool.not_eq_true', Bool.not_eq_false', decide_not, Decidable.not_not, Int.not_lt, Int.not_le, ne_eq] at g6
      have ht : (qTake qqd idd ud).2.2 = true := by simpa using g6
      refine w_skip ?_
      refine thn_n ?_
      refine w_seq ?_
      refine w_seq_region ?_
      refine opW_x (w_call rfl rfl en30 rfl (somebody_c _) ?_)
      rintro _ _ _ hleo ⟨rfl, lo, ao, co, rfl, rfl, hvo⟩
      have hs4 : somebodyL.length = 4 := rfl
      refine opW_x (w_lenV rfl rfl Try.underlying38 rfl ?_)
      refine opW_x (w_move rfl rfl rfl ?_)
      refine w_tidy [(0, _), (2, _), (3, _), (4, _), (5, _), (6, _), (7, _), (8, _), (9, _), (10, _), (11, _), (16, _), (56, _), (70, _), (71, _), (72, _)] [_, _, _, _, _, _] ⟨rfl, rfl, rfl, rfl, rfl, rfl, rfl, rfl, rfl, rfl, rfl, rfl, rfl, rfl, rfl, rfl, trivial⟩ rfl ?_
      refine w_pubK 5 rfl hvo StrR.mono (by first | omega | decide | (simp; done) | (simp; omega)) (fun B12 hle12 hr12 => ?_)
      replace hqd := hqd.mono ItemR.mono hle12
      replace hr7 := hr7.mono ItemR.mono hle12
      replace hr8 := hr8.mono ItemR.mono hle12
      have hr12n := hr12.len
      refine w_block ?_
      refine w_loopE (α := Nat) [0, 3, 4, 5, 6, 7, 8, 9, 10, 11, 16, 56, 70, 71] (fun k => [(72, .int .i64 k)]) [] (fun k => []) (fun k Bx => k ≤ somebodyL.length) (fun k => somebodyL.length - k) 0 ⟨rfl, trivial⟩ rfl (Nat.zero_le _) (fun k B13 hle13 hI => ?_)
      have hk := hI
      replace hr12 := hr12.mono StrR.mono hle13
      replace hqd := hqd.mono ItemR.mono hle13
      replace hr7 := hr7.mono ItemR.mono hle13
      replace hr8 := hr8.mono ItemR.mono hle13
      refine w_tidy [(0, _), (3, _), (4, _), (5, _), (6, _), (7, _), (8, _), (9, _), (10, _), (11, _), (16, _), (56, _), (70, _), (71, _), (72, _)] [_, _, _, _, _, _] ⟨rfl, rfl, rfl, rfl, rfl, rfl, rfl, rfl, rfl, rfl, rfl, rfl, rfl, rfl, rfl, trivial⟩ rfl ?_
      refine w_seq_region ?_
      refine opW_x (w_lss rfl rfl rfl rfl ?_)
      refine w_keep [(0, _), (3, _), (4, _), (5, _), (6, _), (7, _), (8, _), (9, _), (10, _), (11, _), (16, _), (56, _), (70, _), (71, _), (72, _), (73, _)] ⟨rfl, rfl, rfl, rfl, rfl, rfl, rfl, rfl, rfl, rfl, rfl, rfl, rfl, rfl, rfl, rfl, trivial⟩ ?_
      refine w_seq ?_
      refine w_cond rfl (fun g7 => ?_) (fun g7 => ?_)
      · try simp only [decide_eq_true_eq, decide_eq_false_iff_not, Bool.not_eq_true', Bool.not_eq_false', decide_not, Decidable.not_not, Int.not_lt, Int.not_le, ne_eq] at g7
        refine w_skip ?_
        refine thn_n ?_
        refine w_seq ?_
        refine w_block ?_
        refine w_seq_region ?_
        obtain ⟨z, hz⟩ := getLt (xs := somebodyL) (i := k) (by first | omega | (simp; done) | (simp; omega))
        obtain ⟨bb15, oo15, rfl⟩ := hr12.base hz
        obtain ⟨_, ⟨rfl, hb16⟩, hc16⟩ := hr12.elem hz
        refine opW_x (w_ixB rfl rfl Try.underlying38 sz9 rfl rfl (by first | omega | (simp; done) | (simp; omega)) (by first | omega | (simp; done) | (simp; omega)) ?_)
        refine opW_x (w_load1 rfl rfl lk9 rfl (hc16 _ 0 _ rfl) ?_)
        refine opW_x (w_assign rfl rfl rfl ?_)
        refine w_keep [(0, _), (3, _), (4, _), (5, _), (6, _), (7, _), (8, _), (9, _), (10, _), (11, _), (13, _), (16, _), (56, _), (70, _), (71, _), (72, _), (73, _)] ⟨rfl, rfl, rfl, rfl, rfl, rfl, rfl, rfl, rfl, rfl, rfl, rfl, rfl, rfl, rfl, rfl, rfl, trivial⟩ ?_
        refine w_seq ?_
        refine w_draw (keeps _ [1, 3] _) mo (by kernel_rfl) ⟨Kn.le.refl _, keepsL.refl _ _⟩ ?_
        refine any_takeP 0 rfl (by kernel_rfl) rfl (fun D B L => w_move rfl rfl rfl ⟨rfl, rfl, rfl, rfl⟩) ?_
        refine any_takeP 1 rfl (by kernel_rfl) rfl (fun D B L => w_move rfl rfl rfl ⟨rfl, rfl, rfl, rfl⟩) ?_
        refine any_take 2 rfl (by kernel_rfl) rfl (q_ofI fun D B L hI => w_neqS rfl rfl rfl rfl ⟨rfl, rfl, rfl, rfl⟩) ?_
        refine any_takeP 3 rfl (by kernel_rfl) rfl (fun D B L => w_move rfl rfl rfl ⟨rfl, rfl, rfl, rfl⟩) ?_
        refine a_split (d := 79) rfl (fun g8 => ?_) (fun g8 => ?_)
        · try simp only [decide_eq_true_eq, decide_eq_false_iff_not, Bool.not_eq_true', Bool.not_eq_false', decide_not, Decidable.not_not, Int.not_lt, Int.not_le, ne_eq] at g8
          refine any_takeP 5 rfl (by kernel_rfl) rfl (fun D B L => w_move rfl rfl rfl ⟨rfl, rfl, rfl, rfl⟩) ?_
          refine any_takeP 8 rfl (by kernel_rfl) rfl (fun D B L => w_move rfl rfl rfl ⟨rfl, rfl, rfl, rfl⟩) ?_
          refine any_all [4, 7] (by kernel_rfl) (by kernel_rfl) (by kernel_rfl) ⟨?_, ?_⟩
          · skip
            refine (w_loadN [_, _] rfl rfl lk29 rfl (rowL 2 rfl rfl rfl) ?_)
            refine ⟨⟨Kn.le.refl _, ⟨rfl, rfl, trivial⟩⟩, ?_⟩
            refine any_all [6, 7] (by kernel_rfl) (by kernel_rfl) (by kernel_rfl) ⟨?_, ?_⟩
            · skip
              refine (w_callP rfl rfl en31 rfl (implLeft_c _ _ (qTake qqd idd ud).1 _ _ hr7) ?_)
              intro v17 B17 hle17
              rintro rfl
              replace hr12 := hr12.mono StrR.mono hle17
              replace hr7 := hr7.mono ItemR.mono hle17
              replace hqd := hqd.mono ItemR.mono hle17
              replace hr8 := hr8.mono ItemR.mono hle17
              refine ⟨⟨hle17, ⟨rfl, rfl, trivial⟩⟩, ?_⟩
              refine any_one 7 (by kernel_rfl) rfl (by kernel_rfl) (w_loadN [_, _] rfl rfl lk29 rfl (rowL 0 rfl rfl rfl) ?_)
              refine ⟨⟨hle17, ⟨rfl, rfl, trivial⟩⟩, ?_⟩
              refine any_one 9 (by kernel_rfl) rfl (by kernel_rfl) (w_callP rfl rfl en31 rfl (implLeft_c _ _ qqd _ _ hqd) ?_)
              intro v18 B18 hle18
              rintro rfl
              replace hr12 := hr12.mono StrR.mono hle18
              replace hr7 := hr7.mono ItemR.mono hle18
              replace hqd := hqd.mono ItemR.mono hle18
              replace hr8 := hr8.mono ItemR.mono hle18
              refine ⟨⟨(hle17.trans hle18), ⟨rfl, rfl, trivial⟩⟩, ?_⟩
              refine any_take 10 rfl (by kernel_rfl) rfl (q_ofI fun D B L hI => w_neqI rfl rfl rfl rfl ⟨rfl, rfl, rfl, rfl⟩) ?_
              refine any_take 11 rfl (by kernel_rfl) rfl (q_ofI fun D B L hI => w_pickT rfl rfl rfl rfl ⟨rfl, rfl, rfl, rfl⟩) ?_
              refine any_done (by kernel_rfl) (by kernel_rfl) ?_
              refine thn_n ?_
              refine w_keep [(0, _), (3, _), (4, _), (5, _), (6, _), (7, _), (8, _), (9, _), (10, _), (11, _), (13, _), (16, _), (56, _), (70, _), (71, _), (72, _), (73, _), (87, _)] ⟨rfl, rfl, rfl, rfl, rfl, rfl, rfl, rfl, rfl, rfl, rfl, rfl, rfl, rfl, rfl, rfl, rfl, rfl, trivial⟩ ?_
              refine w_cond rfl (fun g9 => by rw [leftQ_take ht z, if_neg g8] at g9; simp at g9) (fun g9 => ?_)
              try simp only [decide_eq_true_eq, decide_eq_false_iff_not, Bool.not_eq_true', Bool.not_eq_false', decide_not, Decidable.not_not, Int.not_lt, Int.not_le, ne_eq] at g9
              refine w_skip ?_
              refine inB_n (thn_n ?_)
              refine w_region ?_
              refine opW_x (w_add rfl rfl rfl rfl (by first | exact wrI64 (by first | omega | (simp; done) | (simp; omega)) (by first | omega | (simp; done) | (simp; omega)) | rfl) ?_)
              refine opW_x (w_move rfl rfl rfl ?_)
              exact rndE_n (k + 1) [0, 1, 2, 3, 4, 5] (by first | omega | (simp only []; omega)) (by omega) ⟨rfl, rfl, rfl, rfl, rfl, rfl, rfl, rfl, rfl, rfl, rfl, rfl, rfl, rfl, rfl, trivial⟩ rfl
            · skip
              refine (w_loadN [_, _] rfl rfl lk29 rfl (rowL 0 rfl rfl rfl) ?_)
              refine ⟨⟨Kn.le.refl _, ⟨rfl, rfl, trivial⟩⟩, ?_⟩
              refine any_one 6 (by kernel_rfl) rfl (by kernel_rfl) (w_callP rfl rfl en31 rfl (implLeft_c _ _ (qTake qqd idd ud).1 _ _ hr7) ?_)
              intro v19 B19 hle19
              rintro rfl
              replace hr12 := hr12.mono StrR.mono hle19
              replace hr7 := hr7.mono ItemR.mono hle19
              replace hqd := hqd.mono ItemR.mono hle19
              replace hr8 := hr8.mono ItemR.mono hle19
              refine ⟨⟨hle19, ⟨rfl, rfl, trivial⟩⟩, ?_⟩
              refine any_one 9 (by kernel_rfl) rfl (by kernel_rfl) (w_callP rfl rfl en31 rfl (implLeft_c _ _ qqd _ _ hqd) ?_)
              intro v20 B20 hle20
              rintro rfl
              replace hr12 := hr12.mono StrR.mono hle20
              replace hr7 := hr7.mono ItemR.mono hle20
              replace hqd := hqd.mono ItemR.mono hle20
              replace hr8 := hr8.mono ItemR.mono hle20
              refine ⟨⟨(hle19.trans hle20), ⟨rfl, rfl, trivial⟩⟩, ?_⟩
              refine any_take 10 rfl (by kernel_rfl) rfl (q_ofI fun D B L hI => w_neqI rfl rfl rfl rfl ⟨rfl, rfl, rfl, rfl⟩) ?_
              refine any_take 11 rfl (by kernel_rfl) rfl (q_ofI fun D B L hI => w_pickT rfl rfl rfl rfl ⟨rfl, rfl, rfl, rfl⟩) ?_
              refine any_done (by kernel_rfl) (by kernel_rfl) ?_
              refine thn_n ?_
              refine w_keep [(0, _), (3, _), (4, _), (5, _), (6, _), (7, _), (8, _), (9, _), (10, _), (11, _), (13, _), (16, _), (56, _), (70, _), (71, _), (72, _), (73, _), (87, _)] ⟨rfl, rfl, rfl, rfl, rfl, rfl, rfl, rfl, rfl, rfl, rfl, rfl, rfl, rfl, rfl, rfl, rfl, rfl, trivial⟩ ?_
              refine w_cond rfl (fun g9 => by rw [leftQ_take ht z, if_neg g8] at g9; simp at g9) (fun g9 => ?_)
              try simp only [decide_eq_true_eq, decide_eq_false_iff_not, Bool.not_eq_true', Bool.not_eq_false', decide_not, Decidable.not_not, Int.not_lt, Int.not_le, ne_eq] at g9
              refine w_skip ?_
              refine inB_n (thn_n ?_)
              refine w_region ?_
              refine opW_x (w_add rfl rfl rfl rfl (by first | exact wrI64 (by first | omega | (simp; done) | (simp; omega)) (by first | omega | (simp; done) | (simp; omega)) | rfl) ?_)
              refine opW_x (w_move rfl rfl rfl ?_)
              exact rndE_n (k + 1) [0, 1, 2, 3, 4, 5] (by first | omega | (simp only []; omega)) (by omega) ⟨rfl, rfl, rfl, rfl, rfl, rfl, rfl, rfl, rfl, rfl, rfl, rfl, rfl, rfl, rfl, trivial⟩ rfl
          · skip
            refine (w_loadN [_, _] rfl rfl lk29 rfl (rowL 0 rfl rfl rfl) ?_)
            refine ⟨⟨Kn.le.refl _, ⟨rfl, rfl, trivial⟩⟩, ?_⟩
            refine any_one 4 (by kernel_rfl) rfl (by kernel_rfl) (w_loadN [_, _] rfl rfl lk29 rfl (rowL 2 rfl rfl rfl) ?_)
            refine ⟨⟨Kn.le.refl _, ⟨rfl, rfl, trivial⟩⟩, ?_⟩
            refine any_one 6 (by kernel_rfl) rfl (by kernel_rfl) (w_callP rfl rfl en31 rfl (implLeft_c _ _ (qTake qqd idd ud).1 _ _ hr7) ?_)
            intro v21 B21 hle21
            rintro rfl
            replace hr12 := hr12.mono StrR.mono hle21
            replace hqd := hqd.mono ItemR.mono hle21
            replace hr7 := hr7.mono ItemR.mono hle21
            replace hr8 := hr8.mono ItemR.mono hle21
            refine ⟨⟨hle21, ⟨rfl, rfl, trivial⟩⟩, ?_⟩
            refine any_one 9 (by kernel_rfl) rfl (by kernel_rfl) (w_callP rfl rfl en31 rfl (implLeft_c _ _ qqd _ _ hqd) ?_)
            intro v22 B22 hle22
            rintro rfl
            replace hr12 := hr12.mono StrR.mono hle22
            replace hqd := hqd.mono ItemR.mono hle22
            replace hr7 := hr7.mono ItemR.mono hle22
            replace hr8 := hr8.mono ItemR.mono hle22
            refine ⟨⟨(hle21.trans hle22), ⟨rfl, rfl, trivial⟩⟩, ?_⟩
            refine any_take 10 rfl (by kernel_rfl) rfl (q_ofI fun D B L hI => w_neqI rfl rfl rfl rfl ⟨rfl, rfl, rfl, rfl⟩) ?_
            refine any_take 11 rfl (by kernel_rfl) rfl (q_ofI fun D B L hI => w_pickT rfl rfl rfl rfl ⟨rfl, rfl, rfl, rfl⟩) ?_
            refine any_done (by kernel_rfl) (by kernel_rfl) ?_
            refine thn_n ?_
            refine w_keep [(0, _), (3, _), (4, _), (5, _), (6, _), (7, _), (8, _), (9, _), (10, _), (11, _), (13, _), (16, _), (56, _), (70, _), (71, _), (72, _), (73, _), (87, _)] ⟨rfl, rfl, rfl, rfl, rfl, rfl, rfl, rfl, rfl, rfl, rfl, rfl, rfl, rfl, rfl, rfl, rfl, rfl, trivial⟩ ?_
            refine w_cond rfl (fun g9 => by rw [leftQ_take ht z, if_neg g8] at g9; simp at g9) (fun g9 => ?_)
            try simp only [decide_eq_true_eq, decide_eq_false_iff_not, Bool.not_eq_true', Bool.not_eq_false', decide_not, Decidable.not_not, Int.not_lt, Int.not_le, ne_eq] at g9
            refine w_skip ?_
            refine inB_n (thn_n ?_)
            refine w_region ?_
            refine opW_x (w_add rfl rfl rfl rfl (by first | exact wrI64 (by first | omega | (simp; done) | (simp; omega)) (by first | omega | (simp; done) | (simp; omega)) | rfl) ?_)
            refine opW_x (w_move rfl rfl rfl ?_)
            exact rndE_n (k + 1) [0, 1, 2, 3, 4, 5] (by first | omega | (simp only []; omega)) (by omega) ⟨rfl, rfl, rfl, rfl, rfl, rfl, rfl, rfl, rfl, rfl, rfl, rfl, rfl, rfl, rfl, trivial⟩ rfl
        · try simp only [decide_eq_true_eq, decide_eq_false_iff_not, Bool.not_eq_true', Bool.not_eq_false', decide_not, Decidable.not_not, Int.not_lt, Int.not_le, ne_eq] at g8
          refine any_take 4 rfl (by kernel_rfl) rfl (q_ofI fun D B L hI => w_pass rfl rfl ⟨rfl, rfl, rfl, rfl⟩) ?_
          refine any_takeP 5 rfl (by kernel_rfl) rfl (fun D B L => w_pass rfl rfl ⟨rfl, rfl, rfl, rfl⟩) ?_
          refine any_take 6 rfl (by kernel_rfl) rfl (q_ofI fun D B L hI => w_pass rfl rfl ⟨rfl, rfl, rfl, rfl⟩) ?_
          refine any_take 7 rfl (by kernel_rfl) rfl (q_ofI fun D B L hI => w_pass rfl rfl ⟨rfl, rfl, rfl, rfl⟩) ?_
          refine any_takeP 8 rfl (by kernel_rfl) rfl (fun D B L => w_pass rfl rfl ⟨rfl, rfl, rfl, rfl⟩) ?_
          refine any_take 9 rfl (by kernel_rfl) rfl (q_ofI fun D B L hI => w_pass rfl rfl ⟨rfl, rfl, rfl, rfl⟩) ?_
          refine any_take 10 rfl (by kernel_rfl) rfl (q_ofI fun D B L hI => w_pass rfl rfl ⟨rfl, rfl, rfl, rfl⟩) ?_
          refine any_take 11 rfl (by kernel_rfl) rfl (q_ofI fun D B L hI => w_pickF rfl rfl rfl rfl ⟨rfl, rfl, rfl, rfl⟩) ?_
          refine any_done (by kernel_rfl) (by kernel_rfl) ?_
          refine thn_n ?_
          refine w_keep [(0, _), (3, _), (4, _), (5, _), (6, _), (7, _), (8, _), (9, _), (10, _), (11, _), (13, _), (16, _), (56, _), (70, _), (71, _), (72, _), (73, _), (87, _)] ⟨rfl, rfl, rfl, rfl, rfl, rfl, rfl, rfl, rfl, rfl, rfl, rfl, rfl, rfl, rfl, rfl, rfl, rfl, trivial⟩ ?_
          refine w_cond (t := false) rfl (fun h => Bool.noConfusion h) (fun _ => ?_)
          refine w_skip ?_
          refine inB_n (thn_n ?_)
          refine w_region ?_
          refine opW_x (w_add rfl rfl rfl rfl (by first | exact wrI64 (by first | omega | (simp; done) | (simp; omega)) (by first | omega | (simp; done) | (simp; omega)) | rfl) ?_)
          refine opW_x (w_move rfl rfl rfl ?_)
          exact rndE_n (k + 1) [0, 1, 2, 3, 4, 5] (by first | omega | (simp only []; omega)) (by omega) ⟨rfl, rfl, rfl, rfl, rfl, rfl, rfl, rfl, rfl, rfl, rfl, rfl, rfl, rfl, rfl, trivial⟩ rfl
      · try simp only [decide_eq_true_eq, decide_eq_false_iff_not, Bool.not_eq_true', Bool.not_eq_false', decide_not, Decidable.not_not, Int.not_lt, Int.not_le, ne_eq] at g7
        refine w_exit (thn_x (rndE_x (inB_hit (thn_n ?_))))
        refine w_seq_region ?_
        refine opW_x (w_fieldAddr rfl rfl fo29x0 rfl ?_)
        refine opW_x (w_load1 rfl rfl lk3 rfl (atL 2 rfl rfl rfl) ?_)
        refine opW_x (w_fieldAddr rfl rfl fo29x0 rfl ?_)
        refine opW_x (w_load1 rfl rfl lk3 rfl (atL 0 rfl rfl rfl) ?_)
        refine opW_x (w_eqlI rfl rfl rfl rfl ?_)
        refine opW_x (w_assign rfl rfl rfl ?_)
        refine w_keep [(0, _), (2, _), (3, _), (4, _), (5, _), (6, _), (7, _), (8, _), (9, _), (10, _), (11, _), (16, _), (56, _), (70, _), (71, _), (72, _), (73, _)] ⟨rfl, rfl, rfl, rfl, rfl, rfl, rfl, rfl, rfl, rfl, rfl, rfl, rfl, rfl, rfl, rfl, rfl, trivial⟩ ?_
        refine w_ret ?_
        exact end0 .ret (.inl rfl) [_] ⟨rfl, trivial⟩ (bool_eq (by simp [take_next ht]))

set_option maxRecDepth 4000 in
set_option maxHeartbeats 400000 in
theorem fnTakeAll_w (W : World) (q1 : Option Addr) (m1 c1 : Nat) (h1 : m1 ≤ c1) (hb1 : BytesAt (allOf W) q1 m1) : Calls Try.prog 8 [.slice q1 m1 c1].toArray W fun e w' => ∃ v, e = .returned v ∧ Kept W w' ∧ ∃ (B' : Kn) (Ls' : List Cells), Sat B' Ls'.flatten w' ∧ v = .bool true := by
  refine calls_of (args := [.slice q1 m1 c1]) 93 Try.func8 rfl rfl rfl (Nat.le_of_ble_eq_true rfl) ?_
  generalize allOf W = B at hb1 ⊢
  refine w_seq_region ?_
  refine opW_x (w_assign rfl rfl rfl ?_)
  refine w_keep [(0, _), (2, _)] ⟨rfl, rfl, trivial⟩ ?_
  refine w_seq ?_
  refine w_seq_region ?_
  refine opW_x (w_move rfl rfl rfl ?_)
  refine opW_x (w_lenV rfl rfl Try.underlying22 rfl ?_)
  refine opW_x (w_gtr rfl rfl rfl rfl ?_)
  refine w_keep [(0, _), (2, _), (16, _)] ⟨rfl, rfl, rfl, trivial⟩ ?_
  refine w_cond rfl (fun g1 => ?_) (fun g1 => ?_)
  · try simp only [decide_eq_true_eq, decide_eq_false_iff_not, Bool.not_eq_true', Bool.not_eq_false', decide_not, Decidable.not_not, Int.not_lt, Int.not_le, ne_eq] at g1
    refine w_seq_region ?_
    refine opW_x (w_assign rfl rfl rfl ?_)
    refine w_keep [(0, _), (2, _), (16, _)] ⟨rfl, rfl, rfl, trivial⟩ ?_
    refine w_ret (thn_r ?_)
    exact end0 .ret (.inl rfl) [_] ⟨rfl, trivial⟩ (by first | rfl | exact bool_eq (by simp [*]))
  · try simp only [decide_eq_true_eq, decide_eq_false_iff_not, Bool.not_eq_true', Bool.not_eq_false', decide_not, Decidable.not_not, Int.not_lt, Int.not_le, ne_eq] at g1
    refine w_skip ?_
    refine thn_n ?_
    refine w_seq_region ?_
    refine opW_x (w_move rfl rfl rfl ?_)
    refine opW_x (w_callP rfl rfl en22 rfl (drawQA_c _ _ _ (by omega) _ (by assumption)) ?_)
    intro vd Bd hled
    rintro ⟨aqd, cqd, qqd, qxd, cxd, xd, rfl, hqd, hxd, hfd, hwd⟩
    have hqdn := hqd.len
    have hxdn := hxd.len
    refine opW_x (w_move rfl rfl rfl ?_)
    refine opW_x (w_extract rfl rfl rfl rfl ?_)
    refine opW_x (w_extract rfl rfl rfl rfl ?_)
    refine opW_x (w_alloc (l := [_, _]) rfl rfl zo29 rfl (fun b2 => ?_))
    refine opW_x (w_alloc (l := [_, _, _]) rfl rfl zo40 rfl (fun b3 => ?_))
    refine opW_x (w_store [_, _] 0 [_, _] rfl rfl sz29 rfl rfl rfl rfl rfl rfl rfl rfl ?_)
    refine opW_x (w_store [_, _, _] 1 [_, _, _] rfl rfl sz40 rfl rfl rfl rfl rfl rfl rfl rfl ?_)
    refine w_tidy [(0, _), (2, _), (3, _), (4, _), (16, _)] [_, _] ⟨rfl, rfl, rfl, rfl, rfl, trivial⟩ rfl ?_
    refine w_seq_region ?_
    refine opW_x (w_loadN [_, _] rfl rfl lk29 rfl (rowL 0 rfl rfl rfl) ?_)
    refine opW_x (w_loadN [_, _, _] rfl rfl lk40 rfl (rowL 1 rfl rfl rfl) ?_)
    refine opW_x (w_call rfl rfl en23 rfl (implAdd_c _ _ qqd _ _ xd _ hqd hxd (by first | assumption | omega | (simp; omega)) (by first | assumption | omega | (simp; omega))) ?_)
    rintro _ Ba _ hlea ⟨la, aa, ca, rfl, rfl, hda⟩
    replace hqd := hqd.mono ItemR.mono hlea
    replace hxd := hxd.mono StrR.mono hlea
    refine opW_x (w_move rfl rfl rfl ?_)
    refine opW_x (w_extract rfl rfl rfl rfl ?_)
    refine opW_x (w_extract rfl rfl rfl rfl ?_)
    refine opW_x (w_alloc (l := [_, _]) rfl rfl zo29 rfl (fun b5 => ?_))
    refine opW_x (w_store [_, _] 3 [_, _] rfl rfl sz29 rfl rfl rfl rfl rfl rfl rfl rfl ?_)
    refine opW_x (w_assign rfl rfl rfl ?_)
    refine w_tidy [(0, _), (2, _), (3, _), (4, _), (5, _), (6, _), (16, _)] [_, _, _, _] ⟨rfl, rfl, rfl, rfl, rfl, rfl, rfl, trivial⟩ rfl ?_
    refine w_seq_region ?_
    refine opW_x (w_loadN [_, _] rfl rfl lk29 rfl (rowL 0 rfl rfl rfl) ?_)
    refine opW_x (w_loadN [_, _, _] rfl rfl lk40 rfl (rowL 1 rfl rfl rfl) ?_)
    refine opW_x (w_call rfl rfl en24 rfl (specAdd_c _ _ qqd _ _ xd _ hqd hxd (by first | assumption | omega | (simp; omega)) (by first | assumption | omega | (simp; omega))) ?_)
    rintro _ Bb _ hleb ⟨lb, ab, cb, rfl, rfl, hvb⟩
    replace hqd := hqd.mono ItemR.mono hleb
    replace hxd := hxd.mono StrR.mono hleb
    replace hvb := hvb.mono ItemR.mono Kn.less_le
    have hal : (addQ qqd xd).1.items.length ≤ 2000000 := addQ_le hqdn
    refine opW_x (w_move rfl rfl rfl ?_)
    refine opW_x (w_extract rfl rfl rfl rfl ?_)
    refine opW_x (w_extract rfl rfl rfl rfl ?_)
    refine opW_x (w_alloc (l := [_, _]) rfl rfl zo29 rfl (fun b7 => ?_))
    refine opW_x (w_store [_, _] 5 [_, _] rfl rfl sz29 rfl rfl rfl rfl rfl rfl rfl rfl ?_)
    refine opW_x (w_assign rfl rfl rfl ?_)
    refine w_tidy [(0, _), (2, _), (3, _), (4, _), (5, _), (6, _), (7, _), (8, _), (16, _)] [_, _, _, _, _, _] ⟨rfl, rfl, rfl, rfl, rfl, rfl, rfl, rfl, rfl, trivial⟩ rfl ?_
    refine w_seq ?_
    refine w_pubD 2 rfl hda ItemO.known ItemR.mono (by first | omega | (simp; done) | (simp; omega)) (fun B8 hle8 hr8 => ?_)
    replace hqd := hqd.mono ItemR.mono hle8
    replace hxd := hxd.mono StrR.mono hle8
    replace hvb := hvb.mono ItemR.mono hle8
    have hr8n := hr8.len
    refine w_pubK 4 rfl hvb ItemR.mono (by first | omega | decide | (simp; done) | (simp; omega)) (fun B9 hle9 hr9 => ?_)
    replace hqd := hqd.mono ItemR.mono hle9
    replace hxd := hxd.mono StrR.mono hle9
    replace hr8 := hr8.mono ItemR.mono hle9
    have hr9n := hr9.len
    refine w_seq_region ?_
    refine opW_x (w_move rfl rfl rfl ?_)
    refine opW_x (w_move rfl rfl rfl ?_)
    refine opW_x (w_neqE rfl rfl rfl rfl rfl (eqBool Try.underlying4) ?_)
    refine opW_x (w_move rfl rfl rfl ?_)
    refine r_split (d := 37) rfl (fun g2 => by simp at g2) (fun g2 => ?_)
    try simp only [decide_eq_true_eq, decide_eq_false_iff_not, Bool.not_eq_true', Bool.not_eq_false', decide_not, Decidable.not_not, Int.not_lt, Int.not_le, ne_eq] at g2
    refine opW_x (w_loadN [_, _] rfl rfl lk29 rfl (rowL 3 rfl rfl rfl) ?_)
    refine opW_x (w_loadN [_, _] rfl rfl lk29 rfl (rowL 5 rfl rfl rfl) ?_)
    refine opW_x (w_retB rfl rfl en25 rfl (sameQueue_c _ _ (addQ qqd xd).1 _ _ (addQ qqd xd).1 _ hr8 hr9) ?_)
    refine opW_x (w_not rfl rfl rfl ?_)
    refine opW_x (w_pickF rfl rfl rfl rfl ?_)
    refine opW_x (w_move rfl rfl rfl ?_)
    refine r_split (d := 43) rfl (fun g3 => by simp at g3) (fun g3 => ?_)
    try simp only [decide_eq_true_eq, decide_eq_false_iff_not, Bool.not_eq_true', Bool.not_eq_false', decide_not, Decidable.not_not, Int.not_lt, Int.not_le, ne_eq] at g3
    refine opW_x (w_move rfl rfl rfl ?_)
    refine opW_x (w_not rfl rfl rfl ?_)
    refine opW_x (w_pickF rfl rfl rfl rfl ?_)
    refine w_tidy [(0, _), (2, _), (3, _), (4, _), (5, _), (6, _), (7, _), (8, _), (16, _), (46, _)] [_, _, _, _, _, _] ⟨rfl, rfl, rfl, rfl, rfl, rfl, rfl, rfl, rfl, rfl, trivial⟩ rfl ?_
    refine w_cond rfl (fun g4 => ?_) (fun g4 => ?_)
    · try simp only [decide_eq_true_eq, decide_eq_false_iff_not, Bool.not_eq_true', Bool.not_eq_false', decide_not, Decidable.not_not, Int.not_lt, Int.not_le, ne_eq] at g4
      refine w_seq_region ?_
      refine opW_x (w_move rfl rfl rfl ?_)
      refine opW_x (w_move rfl rfl rfl ?_)
      refine opW_x (w_eqlE rfl rfl rfl rfl rfl (eqBool Try.underlying4) ?_)
      refine opW_x (w_move rfl rfl rfl ?_)
      refine r_split (d := 50) rfl (fun g5 => ?_) (fun g5 => by simp at g5)
      try simp only [decide_eq_true_eq, decide_eq_false_iff_not, Bool.not_eq_true', Bool.not_eq_false', decide_not, Decidable.not_not, Int.not_lt, Int.not_le, ne_eq] at g5
      refine opW_x (w_loadN [_, _] rfl rfl lk29 rfl (rowL 3 rfl rfl rfl) ?_)
      refine opW_x (w_loadN [_, _] rfl rfl lk29 rfl (rowL 5 rfl rfl rfl) ?_)
      refine opW_x (w_retB rfl rfl en25 rfl (sameQueue_c _ _ (addQ qqd xd).1 _ _ (addQ qqd xd).1 _ hr8 hr9) ?_)
      refine opW_x (w_pickT rfl rfl rfl rfl ?_)
      refine opW_x (w_assign rfl rfl rfl ?_)
      refine w_keep [(0, _), (2, _), (3, _), (4, _), (5, _), (6, _), (7, _), (8, _), (16, _), (46, _)] ⟨rfl, rfl, rfl, rfl, rfl, rfl, rfl, rfl, rfl, rfl, trivial⟩ ?_
      refine w_ret (thn_r ?_)
      exact end0 .ret (.inl rfl) [_] ⟨rfl, trivial⟩ (by first | rfl | exact bool_eq (by simp [*]))
    · try simp only [decide_eq_true_eq, decide_eq_false_iff_not, Bool.not_eq_true', Bool.not_eq_false', decide_not, Decidable.not_not, Int.not_lt, Int.not_le, ne_eq] at g4
      have ha2 : (addQ qqd xd).2 = true := by simpa using g4
      obtain ⟨hae, hq1, hx1, hq6, hq9⟩ := addQ_true ha2
      have hnd := letterOk_nd hx1
      have hqb := queueOk_next hq1
      refine w_skip ?_
      refine thn_n ?_
      refine w_seq_region ?_
      refine opW_x (w_loadN [_, _] rfl rfl lk29 rfl (rowL 3 rfl rfl rfl) ?_)
      refine opW_x (w_alloc (l := [_, _]) rfl rfl zo29 rfl (fun b12 => ?_))
      refine opW_x (w_store [_, _] 6 [_, _] rfl rfl sz29 rfl rfl rfl rfl rfl rfl rfl rfl ?_)
      refine w_tidy [(0, _), (2, _), (3, _), (4, _), (5, _), (6, _), (7, _), (8, _), (9, _), (16, _), (46, _)] [_, _, _, _, _, _, _] ⟨rfl, rfl, rfl, rfl, rfl, rfl, rfl, rfl, rfl, rfl, rfl, trivial⟩ rfl ?_
      refine w_seq ?_
      refine w_seq_region ?_
      refine opW_x (w_assign rfl rfl rfl ?_)
      refine w_keep [(0, _), (2, _), (3, _), (4, _), (5, _), (6, _), (7, _), (8, _), (9, _), (10, _), (16, _), (46, _)] ⟨rfl, rfl, rfl, rfl, rfl, rfl, rfl, rfl, rfl, rfl, rfl, rfl, trivial⟩ ?_
      refine w_block ?_
      refine w_loopE (α := QN) [0, 3, 4, 5, 6, 7, 8, 9, 16, 46] (fun g => [(10, .int .i64 g.k)]) [6] (fun g => [box1 b12 [.int .i64 (lefto qqd xd g.k).next, .slice g.a (lefto qqd xd g.k).items.length g.c] 29]) (fun g Bx => g.k ≤ xd.to_.length ∧ SlK Bx g.a g.c 4 ItemR (lefto qqd xd g.k).items) (fun g => xd.to_.length - g.k) ⟨0, _, _⟩ ⟨rfl, trivial⟩ rfl (⟨Nat.zero_le _, hr8⟩) (fun g B13 hle13 hI => ?_)
      obtain ⟨hk, hv⟩ := hI
      replace hqd := hqd.mono ItemR.mono hle13
      replace hxd := hxd.mono StrR.mono hle13
      replace hr8 := hr8.mono ItemR.mono hle13
      replace hr9 := hr9.mono ItemR.mono hle13
      refine w_tidy [(0, _), (3, _), (4, _), (5, _), (6, _), (7, _), (8, _), (9, _), (10, _), (16, _), (46, _)] [_, _, _, _, _, _, _] ⟨rfl, rfl, rfl, rfl, rfl, rfl, rfl, rfl, rfl, rfl, rfl, trivial⟩ rfl ?_
      refine w_seq ?_
      refine w_seq_region ?_
      refine opW_x (w_move rfl rfl rfl ?_)
      refine opW_x (w_fieldAddr rfl rfl fo40x1 rfl ?_)
      refine opW_x (w_load1 rfl rfl lk38 rfl (atL 1 rfl rfl rfl) ?_)
      refine opW_x (w_lenV rfl rfl Try.underlying38 rfl ?_)
      refine opW_x (w_lss rfl rfl rfl rfl ?_)
      refine w_keep [(0, _), (3, _), (4, _), (5, _), (6, _), (7, _), (8, _), (9, _), (10, _), (16, _), (46, _), (60, _)] ⟨rfl, rfl, rfl, rfl, rfl, rfl, rfl, rfl, rfl, rfl, rfl, rfl, trivial⟩ ?_
      refine w_cond rfl (fun g5 => ?_) (fun g5 => ?_)
      · try simp only [decide_eq_true_eq, decide_eq_false_iff_not, Bool.not_eq_true', Bool.not_eq_false', decide_not, Decidable.not_not, Int.not_lt, Int.not_le, ne_eq] at g5
        refine w_skip ?_
        refine thn_n ?_
        refine w_seq ?_
        refine w_block ?_
        refine w_seq ?_
        refine w_draw (keeps _ [0, 1, 6] _) mo (by kernel_rfl) ⟨Kn.le.refl _, keepsL.refl _ _⟩ ?_
        refine any_take 0 rfl (by kernel_rfl) rfl (q_ofI fun D B L hI => w_loadN [_, _] rfl rfl lk29 rfl (rowL 6 (hI.2.2.2.1.trans rfl) rfl rfl) ⟨rfl, rfl, rfl, rfl⟩) ?_
        refine any_take 1 rfl (by kernel_rfl) rfl (q_ofI fun D B L hI => w_fieldAddr rfl rfl fo29x0 rfl ⟨rfl, rfl, rfl, rfl⟩) ?_
        refine any_take 2 rfl (by kernel_rfl) rfl (q_ofI fun D B L hI => w_load1 rfl rfl lk3 rfl (atL 0 (hI.2.1.trans rfl) rfl rfl) ⟨rfl, rfl, rfl, rfl⟩) ?_
        refine any_take 3 rfl (by kernel_rfl) rfl (q_ofI fun D B L hI => w_fieldAddr rfl rfl fo40x1 rfl ⟨rfl, rfl, rfl, rfl⟩) ?_
        refine any_take 4 rfl (by kernel_rfl) rfl (q_ofI fun D B L hI => w_load1 rfl rfl lk38 rfl (atL 1 (hI.2.2.1.trans rfl) rfl rfl) ⟨rfl, rfl, rfl, rfl⟩) ?_
        refine any_takeP 5 rfl (by kernel_rfl) rfl (fun D B L => w_move rfl rfl rfl ⟨rfl, rfl, rfl, rfl⟩) ?_
        obtain ⟨z, hz⟩ := getLt (xs := xd.to_) (i := g.k) (by first | omega | (simp; done) | (simp; omega))
        obtain ⟨bb15, oo15, rfl⟩ := hxd.base hz
        obtain ⟨_, ⟨rfl, hb16⟩, hc16⟩ := hxd.elem hz
        refine any_take 6 rfl (by kernel_rfl) rfl (q_ofI fun D B L hI => w_ixB rfl rfl Try.underlying38 sz9 rfl rfl (by first | omega | (simp; done) | (simp; omega)) (by first | omega | (simp; done) | (simp; omega)) ⟨rfl, rfl, rfl, rfl⟩) ?_
        have hst := leftOf_step (leftOf_valid ha2 hnd g.k hk) hnd hz
        rw [← lefto_eq ha2] at hst
        have hlw : (qTake (lefto qqd xd g.k) qqd.next z).1.items.length ≤ 2000000 := qTake_le hv.len
        refine any_take 7 rfl (by kernel_rfl) rfl (q_ofI fun D B L hI => w_load1 rfl rfl lk9 rfl ((hc16.mono hI.1) _ 0 _ rfl) ⟨rfl, rfl, rfl, rfl⟩) ?_
        refine any_all [8, 13] (by kernel_rfl) (by kernel_rfl) (by kernel_rfl) ⟨?_, ?_⟩
        · skip
          refine (w_call rfl rfl en33 rfl (implTake_c _ _ (lefto qqd xd g.k) qqd.next z _ hv) ?_)
          rintro _ Bn _ hlen ⟨ln, an, cn, rfl, rfl, hdn, htn⟩
          replace hv := hv.mono ItemR.mono hlen
          replace hxd := hxd.mono StrR.mono hlen
          replace hc16 := hc16.mono hlen
          replace hqd := hqd.mono ItemR.mono hlen
          replace hr8 := hr8.mono ItemR.mono hlen
          replace hr9 := hr9.mono ItemR.mono hlen
          refine ⟨⟨hlen, ⟨rfl, rfl, rfl, trivial⟩⟩, ?_⟩
          refine any_takeP 9 rfl (by kernel_rfl) rfl (fun D B L => w_move rfl rfl rfl ⟨rfl, rfl, rfl, rfl⟩) ?_
          refine any_takeP 10 rfl (by kernel_rfl) rfl (fun D B L => w_extract rfl rfl rfl rfl ⟨rfl, rfl, rfl, rfl⟩) ?_
          refine any_takeP 11 rfl (by kernel_rfl) rfl (fun D B L => w_extract rfl rfl rfl rfl ⟨rfl, rfl, rfl, rfl⟩) ?_
          refine any_takeP 12 rfl (by kernel_rfl) rfl (fun D B L => w_extract rfl rfl rfl rfl ⟨rfl, rfl, rfl, rfl⟩) ?_
          refine any_one 13 (by kernel_rfl) rfl (by kernel_rfl) (w_alloc (l := [_, _]) rfl rfl zo29 rfl (fun b18 => ?_))
          refine ⟨⟨hlen, ⟨rfl, rfl, rfl, trivial⟩⟩, ?_⟩
          refine any_sto 14 (by kernel_rfl) rfl (by kernel_rfl) (by kernel_rfl) (w_store [_, _] 8 [_, _] rfl rfl sz29 rfl rfl rfl rfl rfl rfl rfl rfl ?_)
          refine any_takeP 15 rfl (by kernel_rfl) rfl (fun D B L => w_assign rfl rfl rfl ⟨rfl, rfl, rfl, rfl⟩) ?_
          refine any_takeP 16 rfl (by kernel_rfl) rfl (fun D B L => w_assign rfl rfl rfl ⟨rfl, rfl, rfl, rfl⟩) ?_
          refine any_done (by kernel_rfl) (by kernel_rfl) ?_
          refine thn_n ?_
          refine w_tidy [(0, _), (3, _), (4, _), (5, _), (6, _), (7, _), (8, _), (9, _), (10, _), (11, _), (12, _), (13, _), (16, _), (46, _), (60, _)] [_, _, _, _, _, _, _, _, _] ⟨rfl, rfl, rfl, rfl, rfl, rfl, rfl, rfl, rfl, rfl, rfl, rfl, rfl, rfl, rfl, trivial⟩ rfl ?_
          refine w_seq ?_
          refine w_pubD 7 rfl hdn ItemO.known ItemR.mono (by first | omega | (simp; done) | (simp; omega)) (fun B19 hle19 hr19 => ?_)
          replace hqd := hqd.mono ItemR.mono hle19
          replace hxd := hxd.mono StrR.mono hle19
          replace hr8 := hr8.mono ItemR.mono hle19
          replace hr9 := hr9.mono ItemR.mono hle19
          replace hv := hv.mono ItemR.mono hle19
          have hr19n := hr19.len
          refine w_seq_region ?_
          refine opW_x (w_move rfl rfl rfl ?_)
          refine opW_x (w_not rfl rfl rfl ?_)
          refine opW_x (w_move rfl rfl rfl ?_)
          refine r_split (d := 78) rfl (fun g6 => by rw [hst] at g6; simp at g6) (fun g6 => ?_)
          try simp only [decide_eq_true_eq, decide_eq_false_iff_not, Bool.not_eq_true', Bool.not_eq_false', decide_not, Decidable.not_not, Int.not_lt, Int.not_le, ne_eq] at g6
          refine opW_x (w_move rfl rfl rfl ?_)
          refine opW_x (w_fieldAddr rfl rfl fo40x2 rfl ?_)
          refine opW_x (w_load1 rfl rfl lk9 rfl (atL 1 rfl rfl rfl) ?_)
          refine opW_x (w_neqS rfl rfl rfl rfl ?_)
          refine opW_x (w_pickF rfl rfl rfl rfl ?_)
          refine w_tidy [(0, _), (3, _), (4, _), (5, _), (6, _), (7, _), (8, _), (9, _), (10, _), (11, _), (12, _), (13, _), (16, _), (46, _), (60, _), (83, _)] [_, _, _, _, _, _, _, _, _] ⟨rfl, rfl, rfl, rfl, rfl, rfl, rfl, rfl, rfl, rfl, rfl, rfl, rfl, rfl, rfl, rfl, trivial⟩ rfl ?_
          refine w_cond rfl (fun g7 => by rw [hst] at g7; simp at g7) (fun g7 => ?_)
          try simp only [decide_eq_true_eq, decide_eq_false_iff_not, Bool.not_eq_true', Bool.not_eq_false', decide_not, Decidable.not_not, Int.not_lt, Int.not_le, ne_eq] at g7
          refine w_skip ?_
          refine thn_n ?_
          refine w_region ?_
          refine opW_x (w_loadN [_, _] rfl rfl lk29 rfl (rowL 8 rfl rfl rfl) ?_)
          refine opW_x (w_store [_, _] 6 [_, _] rfl rfl sz29 rfl rfl rfl rfl rfl rfl rfl rfl ?_)
          refine inB_n (thn_n ?_)
          refine w_region ?_
          refine opW_x (w_move rfl rfl rfl ?_)
          refine opW_x (w_add rfl rfl rfl rfl (by first | exact wrI64 (by first | omega | (simp; done) | (simp; omega)) (by first | omega | (simp; done) | (simp; omega)) | rfl) ?_)
          refine opW_x (w_assign rfl rfl rfl ?_)
          rw [hst]
          exact rndE_n ⟨g.k + 1, an, cn⟩ [0, 1, 2, 3, 4, 5, 6] (by first | omega | (simp only []; omega)) ⟨by simp only []; omega, by rw [hst] at hr19; exact hr19⟩ ⟨rfl, rfl, rfl, rfl, rfl, rfl, rfl, rfl, rfl, rfl, rfl, trivial⟩ rfl
        · skip
          refine (w_alloc (l := [_, _]) rfl rfl zo29 rfl (fun b20 => ?_))
          refine ⟨⟨Kn.le.refl _, ⟨rfl, rfl, rfl, trivial⟩⟩, ?_⟩
          refine any_one 8 (by kernel_rfl) rfl (by kernel_rfl) (w_call rfl rfl en33 rfl (implTake_c _ _ (lefto qqd xd g.k) qqd.next z _ hv) ?_)
          rintro _ Bn _ hlen ⟨ln, an, cn, rfl, rfl, hdn, htn⟩
          replace hv := hv.mono ItemR.mono hlen
          replace hxd := hxd.mono StrR.mono hlen
          replace hc16 := hc16.mono hlen
          replace hqd := hqd.mono ItemR.mono hlen
          replace hr8 := hr8.mono ItemR.mono hlen
          replace hr9 := hr9.mono ItemR.mono hlen
          refine ⟨⟨hlen, ⟨rfl, rfl, rfl, trivial⟩⟩, ?_⟩
          refine any_takeP 9 rfl (by kernel_rfl) rfl (fun D B L => w_move rfl rfl rfl ⟨rfl, rfl, rfl, rfl⟩) ?_
          refine any_takeP 10 rfl (by kernel_rfl) rfl (fun D B L => w_extract rfl rfl rfl rfl ⟨rfl, rfl, rfl, rfl⟩) ?_
          refine any_takeP 11 rfl (by kernel_rfl) rfl (fun D B L => w_extract rfl rfl rfl rfl ⟨rfl, rfl, rfl, rfl⟩) ?_
          refine any_takeP 12 rfl (by kernel_rfl) rfl (fun D B L => w_extract rfl rfl rfl rfl ⟨rfl, rfl, rfl, rfl⟩) ?_
          refine any_sto 14 (by kernel_rfl) rfl (by kernel_rfl) (by kernel_rfl) (w_store [_, _] 7 [_, _] rfl rfl sz29 rfl rfl rfl rfl rfl rfl rfl rfl ?_)
          refine any_takeP 15 rfl (by kernel_rfl) rfl (fun D B L => w_assign rfl rfl rfl ⟨rfl, rfl, rfl, rfl⟩) ?_
          refine any_takeP 16 rfl (by kernel_rfl) rfl (fun D B L => w_assign rfl rfl rfl ⟨rfl, rfl, rfl, rfl⟩) ?_
          refine any_done (by kernel_rfl) (by kernel_rfl) ?_
          refine thn_n ?_
          refine w_tidy [(0, _), (3, _), (4, _), (5, _), (6, _), (7, _), (8, _), (9, _), (10, _), (11, _), (12, _), (13, _), (16, _), (46, _), (60, _)] [_, _, _, _, _, _, _, _, _] ⟨rfl, rfl, rfl, rfl, rfl, rfl, rfl, rfl, rfl, rfl, rfl, rfl, rfl, rfl, rfl, trivial⟩ rfl ?_
          refine w_seq ?_
          refine w_pubD 8 rfl hdn ItemO.known ItemR.mono (by first | omega | (simp; done) | (simp; omega)) (fun B22 hle22 hr22 => ?_)
          replace hqd := hqd.mono ItemR.mono hle22
          replace hxd := hxd.mono StrR.mono hle22
          replace hr8 := hr8.mono ItemR.mono hle22
          replace hr9 := hr9.mono ItemR.mono hle22
          replace hv := hv.mono ItemR.mono hle22
          have hr22n := hr22.len
          refine w_seq_region ?_
          refine opW_x (w_move rfl rfl rfl ?_)
          refine opW_x (w_not rfl rfl rfl ?_)
          refine opW_x (w_move rfl rfl rfl ?_)
          refine r_split (d := 78) rfl (fun g6 => by rw [hst] at g6; simp at g6) (fun g6 => ?_)
          try simp only [decide_eq_true_eq, decide_eq_false_iff_not, Bool.not_eq_true', Bool.not_eq_false', decide_not, Decidable.not_not, Int.not_lt, Int.not_le, ne_eq] at g6
          refine opW_x (w_move rfl rfl rfl ?_)
          refine opW_x (w_fieldAddr rfl rfl fo40x2 rfl ?_)
          refine opW_x (w_load1 rfl rfl lk9 rfl (atL 1 rfl rfl rfl) ?_)
          refine opW_x (w_neqS rfl rfl rfl rfl ?_)
          refine opW_x (w_pickF rfl rfl rfl rfl ?_)
          refine w_tidy [(0, _), (3, _), (4, _), (5, _), (6, _), (7, _), (8, _), (9, _), (10, _), (11, _), (12, _), (13, _), (16, _), (46, _), (60, _), (83, _)] [_, _, _, _, _, _, _, _, _] ⟨rfl, rfl, rfl, rfl, rfl, rfl, rfl, rfl, rfl, rfl, rfl, rfl, rfl, rfl, rfl, rfl, trivial⟩ rfl ?_
          refine w_cond rfl (fun g7 => by rw [hst] at g7; simp at g7) (fun g7 => ?_)
          try simp only [decide_eq_true_eq, decide_eq_false_iff_not, Bool.not_eq_true', Bool.not_eq_false', decide_not, Decidable.not_not, Int.not_lt, Int.not_le, ne_eq] at g7
          refine w_skip ?_
          refine thn_n ?_
          refine w_region ?_
          refine opW_x (w_loadN [_, _] rfl rfl lk29 rfl (rowL 7 rfl rfl rfl) ?_)
          refine opW_x (w_store [_, _] 6 [_, _] rfl rfl sz29 rfl rfl rfl rfl rfl rfl rfl rfl ?_)
          refine inB_n (thn_n ?_)
          refine w_region ?_
          refine opW_x (w_move rfl rfl rfl ?_)
          refine opW_x (w_add rfl rfl rfl rfl (by first | exact wrI64 (by first | omega | (simp; done) | (simp; omega)) (by first | omega | (simp; done) | (simp; omega)) | rfl) ?_)
          refine opW_x (w_assign rfl rfl rfl ?_)
          rw [hst]
          exact rndE_n ⟨g.k + 1, an, cn⟩ [0, 1, 2, 3, 4, 5, 6] (by first | omega | (simp only []; omega)) ⟨by simp only []; omega, by rw [hst] at hr22; exact hr22⟩ ⟨rfl, rfl, rfl, rfl, rfl, rfl, rfl, rfl, rfl, rfl, rfl, trivial⟩ rfl
      · try simp only [decide_eq_true_eq, decide_eq_false_iff_not, Bool.not_eq_true', Bool.not_eq_false', decide_not, Decidable.not_not, Int.not_lt, Int.not_le, ne_eq] at g5
        refine w_exit (thn_x (rndE_x (inB_hit (thn_n ?_))))
        refine w_seq_region ?_
        refine opW_x (w_loadN [_, _] rfl rfl lk29 rfl (rowL 6 rfl rfl rfl) ?_)
        refine opW_x (w_fieldAddr rfl rfl fo29x0 rfl ?_)
        refine opW_x (w_load1 rfl rfl lk3 rfl (atL 0 rfl rfl rfl) ?_)
        refine opW_x (w_add rfl rfl rfl rfl (by first | exact wrI64 (by first | omega | (simp; done) | (simp; omega)) (by first | omega | (simp; done) | (simp; omega)) | rfl) ?_)
        refine opW_x (w_fieldAddr rfl rfl fo29x1 rfl ?_)
        refine opW_x (w_load1 rfl rfl lk27 rfl (atL 0 rfl rfl rfl) ?_)
        refine opW_x (w_build (parts := [(0, _), (1, _)]) [_, _] [_, _] rfl rfl pl29 zo29 rfl rfl rfl ?_)
        refine opW_x (w_retB rfl rfl en25 rfl (sameQueue_c _ _ (lefto qqd xd g.k) _ _ ⟨(qqd.next + 1), qqd.items⟩ _ hv hqd) ?_)
        refine opW_x (w_assign rfl rfl rfl ?_)
        refine w_keep [(0, _), (2, _), (3, _), (4, _), (5, _), (6, _), (7, _), (8, _), (9, _), (10, _), (16, _), (46, _), (60, _)] ⟨rfl, rfl, rfl, rfl, rfl, rfl, rfl, rfl, rfl, rfl, rfl, rfl, rfl, trivial⟩ ?_
        refine w_ret ?_
        exact end0 .ret (.inl rfl) [_] ⟨rfl, trivial⟩ (bool_eq (by rw [lefto_eq ha2, leftOf_end (by omega)]; simp))

end Go.Proofs.Ytnhgfdfmfhkcmaa
