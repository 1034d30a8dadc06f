/-
  WHAT THE FUNCTIONS THAT THE LAWS REACH COMPUTE: each function's contract, proved off its printed body (the text is written by program). No condition beyond those that each theorem states.
-/
import Derived.Test.YtnhgfdfmfhkcmaaA0
namespace Go.Proofs.Ytnhgfdfmfhkcmaa
open Go Go.BL
set_option linter.unusedVariables false
set_option linter.unusedSimpArgs false
set_option maxRecDepth 4000 in
set_option maxHeartbeats 400000 in
theorem l22Take_c (aq : Option Addr) (cq : Nat) (q : DQueue) (id : Int) (u : Str) (B : Kn) (hq : SlK B aq cq 4 ItemR q.items) : CallsB Try.prog 79 [.agg #[.int .i64 q.next, .slice aq q.items.length cq], .int .i64 id, str u] B [] (fun v B' Ls => (∃ l a cp, Ls = [l] ∧ v = .tuple #[.agg #[.int .i64 (takeQ q id u).1.next, .slice a (takeQ q id u).1.items.length cp], str (takeQ q id u).2.1, .bool (takeQ q id u).2.2] ∧ VecR (B'.less B) l a cp 47 4 ItemR (takeQ q id u).1.items ∧ (takeQ q id u).2.1.length ≤ 2000000)) := by
  refine callsB_body 65 Try.func79 rfl rfl rfl (Nat.le_of_ble_eq_true rfl) ?_
  have hqn := hq.len
  refine w_seq_region ?_
  refine opW_x (w_box (l := [_, _]) rfl rfl rfl rfl (fun b1 => ?_))
  refine opW_x (w_alloc (l := [_, _]) rfl rfl zo29 rfl (fun b2 => ?_))
  refine opW_x (w_assign rfl rfl rfl ?_)
  refine opW_x (w_assign rfl rfl rfl ?_)
  refine w_tidy [(0, _), (1, _), (2, _), (3, _), (6, _), (7, _), (8, _)] [_, _] ⟨rfl, rfl, rfl, rfl, rfl, rfl, rfl, trivial⟩ rfl ?_
  refine w_seq_region ?_
  refine opW_x (w_fieldAddr rfl rfl fo29x0 rfl ?_)
  refine opW_x (w_load1 rfl rfl lk3 rfl (atL 0 rfl rfl rfl) ?_)
  refine opW_x (w_buildSlice (parts := []) [] rfl rfl Try.underlying27 sz47 zo47 rfl rfl rfl rfl rfl (fun b3 => ?_))
  refine opW_x (w_build (parts := [(0, _), (1, _)]) [_, _] [_, _] rfl rfl pl29 zo29 rfl rfl rfl ?_)
  refine opW_x (w_alloc (l := [_, _]) rfl rfl zo29 rfl (fun b4 => ?_))
  refine opW_x (w_store [_, _] 3 [_, _] rfl rfl sz29 rfl rfl rfl rfl rfl rfl rfl rfl ?_)
  refine w_tidy [(0, _), (1, _), (2, _), (3, _), (6, _), (7, _), (8, _), (9, _)] [_, _, _, _] ⟨rfl, rfl, rfl, rfl, rfl, rfl, rfl, rfl, trivial⟩ rfl ?_
  refine w_seq_region ?_
  refine opW_x (w_assign rfl rfl rfl ?_)
  refine w_keep [(0, _), (1, _), (2, _), (3, _), (6, _), (7, _), (8, _), (9, _), (10, _)] ⟨rfl, rfl, rfl, rfl, rfl, rfl, rfl, rfl, rfl, trivial⟩ ?_
  refine w_seq_region ?_
  refine opW_x (w_assign rfl rfl rfl ?_)
  refine w_keep [(0, _), (1, _), (2, _), (3, _), (6, _), (7, _), (8, _), (9, _), (10, _), (11, _)] ⟨rfl, rfl, rfl, rfl, rfl, rfl, rfl, rfl, rfl, rfl, trivial⟩ ?_
  refine w_seq ?_
  refine w_seq_region ?_
  refine opW_x (w_assign rfl rfl rfl ?_)
  refine w_keep [(0, _), (1, _), (2, _), (3, _), (6, _), (7, _), (8, _), (9, _), (10, _), (11, _), (12, _)] ⟨rfl, rfl, rfl, rfl, rfl, rfl, rfl, rfl, rfl, rfl, rfl, trivial⟩ ?_
  refine w_block ?_
  refine w_loopE (α := Gh2 DItem (Str × Bool)) [0, 1, 2, 3, 6, 7, 8, 9] (fun g => [(10, str g.e.1), (11, .bool g.e.2), (12, .int .i64 g.k)]) [2, 3] (fun g => [g.l, box1 b4 [.int .i64 q.next, .slice g.a g.xs.length g.c] 29]) (fun g Bx => g.k ≤ q.items.length ∧ g.e = takeF id u (q.items.take g.k) ∧ g.e.1.length ≤ 2000000 ∧ g.xs = takeL id u (q.items.take g.k) ∧ VecR (Bx.less B) g.l g.a g.c 47 4 ItemR g.xs) (fun g => q.items.length - g.k) ⟨0, 0, _, _, _, [], ([], false)⟩ ⟨rfl, rfl, rfl, trivial⟩ rfl (⟨Nat.zero_le _, rfl, Nat.zero_le _, rfl, .lit0⟩) (fun g B5 hle5 hI => ?_)
  obtain ⟨hk, he, htl, hxs, hv⟩ := hI
  have hxn : g.xs.length ≤ g.k := by rw [hxs]; exact Nat.le_trans (takeL_len _ _ _) (by rw [List.length_take]; omega)
  replace hq := hq.mono ItemR.mono hle5
  refine w_tidy [(0, _), (1, _), (2, _), (3, _), (6, _), (7, _), (8, _), (9, _), (10, _), (11, _), (12, _)] [_, _, _, _] ⟨rfl, rfl, rfl, rfl, rfl, rfl, rfl, rfl, rfl, rfl, rfl, trivial⟩ rfl ?_
  refine w_seq ?_
  refine w_seq_region ?_
  refine opW_x (w_move rfl rfl rfl ?_)
  refine opW_x (w_fieldAddr rfl rfl fo29x1 rfl ?_)
  refine opW_x (w_load1 rfl rfl lk27 rfl (atL 0 rfl rfl rfl) ?_)
  refine opW_x (w_lenV rfl rfl Try.underlying27 rfl ?_)
  refine opW_x (w_lss rfl rfl rfl rfl ?_)
  refine w_keep [(0, _), (1, _), (2, _), (3, _), (6, _), (7, _), (8, _), (9, _), (10, _), (11, _), (12, _), (22, _)] ⟨rfl, rfl, rfl, rfl, rfl, rfl, rfl, rfl, rfl, rfl, rfl, rfl, trivial⟩ ?_
  refine w_cond rfl (fun g1 => ?_) (fun g1 => ?_)
  · try simp only [decide_eq_true_eq, decide_eq_false_iff_not, Bool.not_eq_true', Bool.not_eq_false', decide_not, Decidable.not_not, Int.not_lt, Int.not_le, ne_eq] at g1
    refine w_skip ?_
    refine thn_n ?_
    refine w_seq ?_
    refine w_block ?_
    refine w_seq_region ?_
    refine opW_x (w_fieldAddr rfl rfl fo29x1 rfl ?_)
    refine opW_x (w_load1 rfl rfl lk27 rfl (atL 0 rfl rfl rfl) ?_)
    refine opW_x (w_move rfl rfl rfl ?_)
    obtain ⟨x, hx⟩ := getLt (xs := q.items) (i := g.k) (by first | omega | (simp; done) | (simp; omega))
    obtain ⟨bb7, oo7, rfl⟩ := hq.base hx
    obtain ⟨_, ⟨qi8, ci8, rfl, hi8, hb8, hb8b⟩, hc8⟩ := hq.elem hx
    have hi8n := hi8.len
    refine opW_x (w_ixB rfl rfl Try.underlying27 sz47 rfl rfl (by first | omega | (simp; done) | (simp; omega)) (by first | omega | (simp; done) | (simp; omega)) ?_)
    refine opW_x (w_loadN [_, _, _, _] rfl rfl lk47 rfl (rowK hc8 0 rfl rfl) ?_)
    refine opW_x (w_alloc (l := [_, _, _, _]) rfl rfl zo47 rfl (fun b9 => ?_))
    refine opW_x (w_store [_, _, _, _] 4 [_, _, _, _] rfl rfl sz47 rfl rfl rfl rfl rfl rfl rfl rfl ?_)
    refine w_tidy [(0, _), (1, _), (2, _), (3, _), (6, _), (7, _), (8, _), (9, _), (10, _), (11, _), (12, _), (13, _), (22, _)] [_, _, _, _, _] ⟨rfl, rfl, rfl, rfl, rfl, rfl, rfl, rfl, rfl, rfl, rfl, rfl, rfl, trivial⟩ rfl ?_
    refine w_seq_region ?_
    refine opW_x (w_buildSlice (parts := []) [] rfl rfl Try.underlying38 sz9 zo9 rfl rfl rfl rfl rfl (fun b10 => ?_))
    refine opW_x (w_fieldAddr rfl rfl fo47x3 rfl ?_)
    refine opW_x (w_load1 rfl rfl lk38 rfl (atL 4 rfl rfl rfl) ?_)
    refine opW_x (w_appR (R := StrR) 5 rfl (VecR.lit0 (R := StrR)) rfl rfl rfl eo38 su38 rfl rfl rfl hi8.rows StrR.one rfl (by first | omega | (simp; done) | (simp; omega)) (fun l11 p11 c11 hv11 => ?_))
    refine opW_x (w_fieldAddr rfl rfl fo47x3 rfl ?_)
    refine opW_x (w_store [_] 4 [_, _, _, _] rfl rfl sz38 rfl rfl rfl rfl rfl rfl rfl rfl ?_)
    refine w_tidy [(0, _), (1, _), (2, _), (3, _), (6, _), (7, _), (8, _), (9, _), (10, _), (11, _), (12, _), (13, _), (22, _)] [_, _, _, _, _, _] ⟨rfl, rfl, rfl, rfl, rfl, rfl, rfl, rfl, rfl, rfl, rfl, rfl, rfl, trivial⟩ rfl ?_
    refine w_seq ?_
    refine w_pubF 5 rfl hv11 StrR.any (by first | omega | decide | (simp; done) | (simp; omega)) hle5 (fun B12 hle12 hr12f => ?_)
    have hr12 := hr12f.mono StrR.mono Kn.less_le
    replace hq := hq.mono ItemR.mono hle12
    replace hv := hv.mono ItemR.mono (Kn.less_mono hle12)
    have hr12n := hr12.len
    refine w_seq_region ?_
    refine opW_x (w_fieldAddr rfl rfl fo47x0 rfl ?_)
    refine opW_x (w_load1 rfl rfl lk3 rfl (atL 4 rfl rfl rfl) ?_)
    refine opW_x (w_move rfl rfl rfl ?_)
    refine opW_x (w_eqlI rfl rfl rfl rfl ?_)
    refine opW_x (w_move rfl rfl rfl ?_)
    refine r_split (d := 39) rfl (fun g2 => ?_) (fun g2 => ?_)
    · try simp only [decide_eq_true_eq, decide_eq_false_iff_not, Bool.not_eq_true', Bool.not_eq_false', decide_not, Decidable.not_not, Int.not_lt, Int.not_le, ne_eq] at g2
      refine opW_x (w_fieldAddr rfl rfl fo47x3 rfl ?_)
      refine opW_x (w_load1 rfl rfl lk38 rfl (atL 4 rfl rfl rfl) ?_)
      refine opW_x (w_move rfl rfl rfl ?_)
      refine opW_x (w_retB rfl rfl en114 rfl (l21Has_c _ _ _ _ _ hr12) ?_)
      refine opW_x (w_pickT rfl rfl rfl rfl ?_)
      refine w_tidy [(0, _), (1, _), (2, _), (3, _), (6, _), (7, _), (8, _), (9, _), (10, _), (11, _), (12, _), (13, _), (22, _), (44, _)] [_, _, _, _, _, _] ⟨rfl, rfl, rfl, rfl, rfl, rfl, rfl, rfl, rfl, rfl, rfl, rfl, rfl, rfl, trivial⟩ rfl ?_
      refine w_cond rfl (fun g3 => ?_) (fun g3 => ?_)
      · try simp only [decide_eq_true_eq, decide_eq_false_iff_not, Bool.not_eq_true', Bool.not_eq_false', decide_not, Decidable.not_not, Int.not_lt, Int.not_le, ne_eq] at g3
        have hwl := without_len x.left u
        refine w_seq_region ?_
        refine opW_x (w_assign rfl rfl rfl ?_)
        refine w_keep [(0, _), (1, _), (2, _), (3, _), (6, _), (7, _), (8, _), (9, _), (10, _), (11, _), (12, _), (13, _), (22, _), (44, _)] ⟨rfl, rfl, rfl, rfl, rfl, rfl, rfl, rfl, rfl, rfl, rfl, rfl, rfl, rfl, trivial⟩ ?_
        refine w_seq_region ?_
        refine opW_x (w_fieldAddr rfl rfl fo47x2 rfl ?_)
        refine opW_x (w_load1 rfl rfl lk9 rfl (atL 4 rfl rfl rfl) ?_)
        refine opW_x (w_assign rfl rfl rfl ?_)
        refine w_keep [(0, _), (1, _), (2, _), (3, _), (6, _), (7, _), (8, _), (9, _), (10, _), (11, _), (12, _), (13, _), (22, _), (44, _)] ⟨rfl, rfl, rfl, rfl, rfl, rfl, rfl, rfl, rfl, rfl, rfl, rfl, rfl, rfl, trivial⟩ ?_
        refine w_region ?_
        refine opW_x (w_fieldAddr rfl rfl fo47x3 rfl ?_)
        refine opW_x (w_load1 rfl rfl lk38 rfl (atL 4 rfl rfl rfl) ?_)
        refine opW_x (w_move rfl rfl rfl ?_)
        refine opW_x (w_callP rfl rfl en116 rfl (l22Without_c _ _ _ _ _ hr12) ?_)
        intro v14 B14 hle14
        rintro ⟨a14, c14, rfl, hw14f⟩
        replace hq := hq.mono ItemR.mono hle14
        replace hr12 := hr12.mono StrR.mono hle14
        replace hr12f := hr12f.mono StrR.mono (Kn.less_mono hle14)
        replace hv := hv.mono ItemR.mono (Kn.less_mono hle14)
        replace hw14f := hw14f.mono StrR.mono (Kn.less_up (hle5.trans hle12) (Kn.le.refl _))
        have hw14 := hw14f.mono StrR.mono Kn.less_le
        refine opW_x (w_fieldAddr rfl rfl fo47x3 rfl ?_)
        refine opW_x (w_store [_] 4 [_, _, _, _] rfl rfl sz38 rfl rfl rfl rfl rfl rfl rfl rfl ?_)
        refine thn_n ?_
        refine w_seq_region ?_
        refine opW_x (w_fieldAddr rfl rfl fo47x3 rfl ?_)
        refine opW_x (w_load1 rfl rfl lk38 rfl (atL 4 rfl rfl rfl) ?_)
        refine opW_x (w_lenV rfl rfl Try.underlying38 rfl ?_)
        refine opW_x (w_gtr rfl rfl rfl rfl ?_)
        refine w_tidy [(0, _), (1, _), (2, _), (3, _), (6, _), (7, _), (8, _), (9, _), (10, _), (11, _), (12, _), (13, _), (22, _), (44, _), (55, _)] [_, _, _, _, _, _] ⟨rfl, rfl, rfl, rfl, rfl, rfl, rfl, rfl, rfl, rfl, rfl, rfl, rfl, rfl, rfl, trivial⟩ rfl ?_
        refine w_cond rfl (fun g4 => ?_) (fun g4 => ?_)
        · try simp only [decide_eq_true_eq, decide_eq_false_iff_not, Bool.not_eq_true', Bool.not_eq_false', decide_not, Decidable.not_not, Int.not_lt, Int.not_le, ne_eq] at g4
          refine w_region ?_
          refine opW_x (w_fieldAddr rfl rfl fo29x1 rfl ?_)
          refine opW_x (w_load1 rfl rfl lk27 rfl (atL 3 rfl rfl rfl) ?_)
          refine opW_x (w_loadN [_, _, _, _] rfl rfl lk47 rfl (rowL 4 rfl rfl rfl) ?_)
          refine opW_x (w_buildSlice (parts := [(0, _)]) [_, _, _, _] rfl rfl Try.underlying27 sz47 zo47 rfl rfl rfl rfl rfl (fun b15 => ?_))
          refine opW_x (w_app1 (z := ⟨x.id, x.fr, x.text, (without x.left u)⟩) (R := ItemR) 2 rfl hv rfl rfl rfl eo27 su27 rfl rfl (SrcAt.box 6 rfl) rfl rfl (⟨_, _, rfl, hw14f, by first | assumption | omega | (simp; omega), by first | assumption | omega | (simp; omega)⟩) (by first | omega | (simp; done) | (simp; omega)) (fun l16 p16 c16 hv16 => ?_))
          refine opW_x (w_fieldAddr rfl rfl fo29x1 rfl ?_)
          refine opW_x (w_store [_] 3 [_, _] rfl rfl sz27 rfl rfl rfl rfl rfl rfl rfl rfl ?_)
          refine inB_n (thn_n ?_)
          refine w_region ?_
          refine opW_x (w_move rfl rfl rfl ?_)
          refine opW_x (w_add rfl rfl rfl rfl (by first | exact wrI64 (by first | omega | (simp; done) | (simp; omega)) (by first | omega | (simp; done) | (simp; omega)) | rfl) ?_)
          refine opW_x (w_assign rfl rfl rfl ?_)
          exact rndE_n ⟨g.k + 1, 0, l16, p16, c16, (g.xs ++ [⟨x.id, x.fr, x.text, (without x.left u)⟩]), (x.text, true)⟩ [0, 1, 2, 3] (by first | omega | (simp only []; omega)) ⟨by simp only []; omega, by simp only []; rw [takeF_hit hx g2 g3], by simp only []; first | assumption | omega, by simp only []; rw [hxs, takeL_app hx (takeItem_hit g2 g3) (by simpa using g4)], hv16⟩ ⟨rfl, rfl, rfl, rfl, rfl, rfl, rfl, rfl, rfl, rfl, rfl, trivial⟩ rfl
        · try simp only [decide_eq_true_eq, decide_eq_false_iff_not, Bool.not_eq_true', Bool.not_eq_false', decide_not, Decidable.not_not, Int.not_lt, Int.not_le, ne_eq] at g4
          refine w_skip ?_
          refine inB_n (thn_n ?_)
          refine w_region ?_
          refine opW_x (w_move rfl rfl rfl ?_)
          refine opW_x (w_add rfl rfl rfl rfl (by first | exact wrI64 (by first | omega | (simp; done) | (simp; omega)) (by first | omega | (simp; done) | (simp; omega)) | rfl) ?_)
          refine opW_x (w_assign rfl rfl rfl ?_)
          exact rndE_n ⟨g.k + 1, 0, g.l, g.a, g.c, g.xs, (x.text, true)⟩ [0, 1, 2, 3] (by first | omega | (simp only []; omega)) ⟨by simp only []; omega, by simp only []; rw [takeF_hit hx g2 g3], by simp only []; first | assumption | omega, by simp only []; rw [hxs, takeL_skip hx (takeItem_hit g2 g3) (by simpa using g4)], hv⟩ ⟨rfl, rfl, rfl, rfl, rfl, rfl, rfl, rfl, rfl, rfl, rfl, trivial⟩ rfl
      · try simp only [decide_eq_true_eq, decide_eq_false_iff_not, Bool.not_eq_true', Bool.not_eq_false', decide_not, Decidable.not_not, Int.not_lt, Int.not_le, ne_eq] at g3
        refine w_skip ?_
        refine thn_n ?_
        refine w_seq_region ?_
        refine opW_x (w_fieldAddr rfl rfl fo47x3 rfl ?_)
        refine opW_x (w_load1 rfl rfl lk38 rfl (atL 4 rfl rfl rfl) ?_)
        refine opW_x (w_lenV rfl rfl Try.underlying38 rfl ?_)
        refine opW_x (w_gtr rfl rfl rfl rfl ?_)
        refine w_keep [(0, _), (1, _), (2, _), (3, _), (6, _), (7, _), (8, _), (9, _), (10, _), (11, _), (12, _), (13, _), (22, _), (44, _), (55, _)] ⟨rfl, rfl, rfl, rfl, rfl, rfl, rfl, rfl, rfl, rfl, rfl, rfl, rfl, rfl, rfl, trivial⟩ ?_
        refine w_cond rfl (fun g4 => ?_) (fun g4 => ?_)
        · try simp only [decide_eq_true_eq, decide_eq_false_iff_not, Bool.not_eq_true', Bool.not_eq_false', decide_not, Decidable.not_not, Int.not_lt, Int.not_le, ne_eq] at g4
          refine w_region ?_
          refine opW_x (w_fieldAddr rfl rfl fo29x1 rfl ?_)
          refine opW_x (w_load1 rfl rfl lk27 rfl (atL 3 rfl rfl rfl) ?_)
          refine opW_x (w_loadN [_, _, _, _] rfl rfl lk47 rfl (rowL 4 rfl rfl rfl) ?_)
          refine opW_x (w_buildSlice (parts := [(0, _)]) [_, _, _, _] rfl rfl Try.underlying27 sz47 zo47 rfl rfl rfl rfl rfl (fun b17 => ?_))
          refine opW_x (w_app1 (z := ⟨x.id, x.fr, x.text, x.left⟩) (R := ItemR) 2 rfl hv rfl rfl rfl eo27 su27 rfl rfl (SrcAt.box 6 rfl) rfl rfl (⟨_, _, rfl, hr12f, by first | assumption | omega | (simp; omega), by first | assumption | omega | (simp; omega)⟩) (by first | omega | (simp; done) | (simp; omega)) (fun l18 p18 c18 hv18 => ?_))
          refine opW_x (w_fieldAddr rfl rfl fo29x1 rfl ?_)
          refine opW_x (w_store [_] 3 [_, _] rfl rfl sz27 rfl rfl rfl rfl rfl rfl rfl rfl ?_)
          refine inB_n (thn_n ?_)
          refine w_region ?_
          refine opW_x (w_move rfl rfl rfl ?_)
          refine opW_x (w_add rfl rfl rfl rfl (by first | exact wrI64 (by first | omega | (simp; done) | (simp; omega)) (by first | omega | (simp; done) | (simp; omega)) | rfl) ?_)
          refine opW_x (w_assign rfl rfl rfl ?_)
          exact rndE_n ⟨g.k + 1, 0, l18, p18, c18, (g.xs ++ [⟨x.id, x.fr, x.text, x.left⟩]), g.e⟩ [0, 1, 2, 3] (by first | omega | (simp only []; omega)) ⟨by simp only []; omega, by simp only []; rw [takeF_no2 hx g3]; exact he, by simp only []; first | assumption | omega, by simp only []; rw [hxs, takeL_app hx (takeItem_no2 g3) (by simpa using g4)], hv18⟩ ⟨rfl, rfl, rfl, rfl, rfl, rfl, rfl, rfl, rfl, rfl, rfl, trivial⟩ rfl
        · try simp only [decide_eq_true_eq, decide_eq_false_iff_not, Bool.not_eq_true', Bool.not_eq_false', decide_not, Decidable.not_not, Int.not_lt, Int.not_le, ne_eq] at g4
          refine w_skip ?_
          refine inB_n (thn_n ?_)
          refine w_region ?_
          refine opW_x (w_move rfl rfl rfl ?_)
          refine opW_x (w_add rfl rfl rfl rfl (by first | exact wrI64 (by first | omega | (simp; done) | (simp; omega)) (by first | omega | (simp; done) | (simp; omega)) | rfl) ?_)
          refine opW_x (w_assign rfl rfl rfl ?_)
          exact rndE_n ⟨g.k + 1, 0, g.l, g.a, g.c, g.xs, g.e⟩ [0, 1, 2, 3] (by first | omega | (simp only []; omega)) ⟨by simp only []; omega, by simp only []; rw [takeF_no2 hx g3]; exact he, by simp only []; first | assumption | omega, by simp only []; rw [hxs, takeL_skip hx (takeItem_no2 g3) (by simpa using g4)], hv⟩ ⟨rfl, rfl, rfl, rfl, rfl, rfl, rfl, rfl, rfl, rfl, rfl, trivial⟩ rfl
    · try simp only [decide_eq_true_eq, decide_eq_false_iff_not, Bool.not_eq_true', Bool.not_eq_false', decide_not, Decidable.not_not, Int.not_lt, Int.not_le, ne_eq] at g2
      refine opW_x (w_pass rfl rfl ?_)
      refine opW_x (w_pass rfl rfl ?_)
      refine opW_x (w_pass rfl rfl ?_)
      refine opW_x (w_pass rfl rfl ?_)
      refine opW_x (w_pickF rfl rfl rfl rfl ?_)
      refine w_tidy [(0, _), (1, _), (2, _), (3, _), (6, _), (7, _), (8, _), (9, _), (10, _), (11, _), (12, _), (13, _), (22, _), (44, _)] [_, _, _, _, _, _] ⟨rfl, rfl, rfl, rfl, rfl, rfl, rfl, rfl, rfl, rfl, rfl, rfl, rfl, rfl, trivial⟩ rfl ?_
      refine w_cond (t := false) rfl (fun h => Bool.noConfusion h) (fun _ => ?_)
      refine w_skip ?_
      refine thn_n ?_
      refine w_seq_region ?_
      refine opW_x (w_fieldAddr rfl rfl fo47x3 rfl ?_)
      refine opW_x (w_load1 rfl rfl lk38 rfl (atL 4 rfl rfl rfl) ?_)
      refine opW_x (w_lenV rfl rfl Try.underlying38 rfl ?_)
      refine opW_x (w_gtr rfl rfl rfl rfl ?_)
      refine w_keep [(0, _), (1, _), (2, _), (3, _), (6, _), (7, _), (8, _), (9, _), (10, _), (11, _), (12, _), (13, _), (22, _), (44, _), (55, _)] ⟨rfl, rfl, rfl, rfl, rfl, rfl, rfl, rfl, rfl, rfl, rfl, rfl, rfl, rfl, rfl, trivial⟩ ?_
      refine w_cond rfl (fun g3 => ?_) (fun g3 => ?_)
      · try simp only [decide_eq_true_eq, decide_eq_false_iff_not, Bool.not_eq_true', Bool.not_eq_false', decide_not, Decidable.not_not, Int.not_lt, Int.not_le, ne_eq] at g3
        refine w_region ?_
        refine opW_x (w_fieldAddr rfl rfl fo29x1 rfl ?_)
        refine opW_x (w_load1 rfl rfl lk27 rfl (atL 3 rfl rfl rfl) ?_)
        refine opW_x (w_loadN [_, _, _, _] rfl rfl lk47 rfl (rowL 4 rfl rfl rfl) ?_)
        refine opW_x (w_buildSlice (parts := [(0, _)]) [_, _, _, _] rfl rfl Try.underlying27 sz47 zo47 rfl rfl rfl rfl rfl (fun b19 => ?_))
        refine opW_x (w_app1 (z := ⟨x.id, x.fr, x.text, x.left⟩) (R := ItemR) 2 rfl hv rfl rfl rfl eo27 su27 rfl rfl (SrcAt.box 6 rfl) rfl rfl (⟨_, _, rfl, hr12f, by first | assumption | omega | (simp; omega), by first | assumption | omega | (simp; omega)⟩) (by first | omega | (simp; done) | (simp; omega)) (fun l20 p20 c20 hv20 => ?_))
        refine opW_x (w_fieldAddr rfl rfl fo29x1 rfl ?_)
        refine opW_x (w_store [_] 3 [_, _] rfl rfl sz27 rfl rfl rfl rfl rfl rfl rfl rfl ?_)
        refine inB_n (thn_n ?_)
        refine w_region ?_
        refine opW_x (w_move rfl rfl rfl ?_)
        refine opW_x (w_add rfl rfl rfl rfl (by first | exact wrI64 (by first | omega | (simp; done) | (simp; omega)) (by first | omega | (simp; done) | (simp; omega)) | rfl) ?_)
        refine opW_x (w_assign rfl rfl rfl ?_)
        exact rndE_n ⟨g.k + 1, 0, l20, p20, c20, (g.xs ++ [⟨x.id, x.fr, x.text, x.left⟩]), g.e⟩ [0, 1, 2, 3] (by first | omega | (simp only []; omega)) ⟨by simp only []; omega, by simp only []; rw [takeF_no1 hx g2]; exact he, by simp only []; first | assumption | omega, by simp only []; rw [hxs, takeL_app hx (takeItem_no1 g2) (by simpa using g3)], hv20⟩ ⟨rfl, rfl, rfl, rfl, rfl, rfl, rfl, rfl, rfl, rfl, rfl, trivial⟩ rfl
      · try simp only [decide_eq_true_eq, decide_eq_false_iff_not, Bool.not_eq_true', Bool.not_eq_false', decide_not, Decidable.not_not, Int.not_lt, Int.not_le, ne_eq] at g3
        refine w_skip ?_
        refine inB_n (thn_n ?_)
        refine w_region ?_
        refine opW_x (w_move rfl rfl rfl ?_)
        refine opW_x (w_add rfl rfl rfl rfl (by first | exact wrI64 (by first | omega | (simp; done) | (simp; omega)) (by first | omega | (simp; done) | (simp; omega)) | rfl) ?_)
        refine opW_x (w_assign rfl rfl rfl ?_)
        exact rndE_n ⟨g.k + 1, 0, g.l, g.a, g.c, g.xs, g.e⟩ [0, 1, 2, 3] (by first | omega | (simp only []; omega)) ⟨by simp only []; omega, by simp only []; rw [takeF_no1 hx g2]; exact he, by simp only []; first | assumption | omega, by simp only []; rw [hxs, takeL_skip hx (takeItem_no1 g2) (by simpa using g3)], hv⟩ ⟨rfl, rfl, rfl, rfl, rfl, rfl, rfl, rfl, rfl, rfl, rfl, trivial⟩ rfl
  · try simp only [decide_eq_true_eq, decide_eq_false_iff_not, Bool.not_eq_true', Bool.not_eq_false', decide_not, Decidable.not_not, Int.not_lt, Int.not_le, ne_eq] at g1
    have hkl : q.items.take g.k = q.items := List.take_of_length_le (by omega)
    rw [hkl] at he hxs
    refine w_exit (thn_x (rndE_x (inB_hit (thn_n ?_))))
    refine w_seq_region ?_
    refine opW_x (w_loadN [_, _] rfl rfl lk29 rfl (rowL 3 rfl rfl rfl) ?_)
    refine opW_x (w_move rfl rfl rfl ?_)
    refine opW_x (w_move rfl rfl rfl ?_)
    refine opW_x (w_store [_, _] 1 [_, _] rfl rfl sz29 rfl rfl rfl rfl rfl rfl rfl rfl ?_)
    refine opW_x (w_assign rfl rfl rfl ?_)
    refine opW_x (w_assign rfl rfl rfl ?_)
    refine w_tidy [(0, _), (1, _), (2, _), (3, _), (6, _), (7, _), (8, _), (9, _), (10, _), (11, _), (12, _), (22, _)] [_, _, _, _] ⟨rfl, rfl, rfl, rfl, rfl, rfl, rfl, rfl, rfl, rfl, rfl, rfl, trivial⟩ rfl ?_
    refine w_ret ?_
    exact endN .ret (.inl rfl) [_, _, _] [2] rfl ⟨⟨_, rfl, .inr ⟨[_, _], lk29, rowL 1 rfl rfl rfl, rfl⟩⟩, rfl, rfl, trivial⟩ ⟨_, _, _, rfl, by simp only [takeQ, ← he, ← hxs]; rfl, by simp only [takeQ, ← hxs]; exact hv, by simp only [takeQ, ← he]; exact htl⟩

set_option maxRecDepth 4000 in
set_option maxHeartbeats 400000 in
theorem specTake_c (aq : Option Addr) (cq : Nat) (q : DQueue) (id : Int) (u : Str) (B : Kn) (hq : SlK B aq cq 4 ItemR q.items) : CallsB Try.prog 35 [.agg #[.int .i64 q.next, .slice aq q.items.length cq], .int .i64 id, str u] B [] (fun v B' Ls => (∃ l a cp, Ls = [l] ∧ v = .tuple #[.agg #[.int .i64 (qTake q id u).1.next, .slice a (qTake q id u).1.items.length cp], str (qTake q id u).2.1, .bool (qTake q id u).2.2] ∧ VecR (B'.less B) l a cp 47 4 ItemR (qTake q id u).1.items ∧ (qTake q id u).2.1.length ≤ 2000000)) := by
  refine callsB_body 20 Try.func35 rfl rfl rfl (Nat.le_of_ble_eq_true rfl) ?_
  refine w_seq_region ?_
  refine opW_x (w_box (l := [_, _]) rfl rfl rfl rfl (fun b1 => ?_))
  refine opW_x (w_alloc (l := [_, _]) rfl rfl zo29 rfl (fun b2 => ?_))
  refine opW_x (w_assign rfl rfl rfl ?_)
  refine opW_x (w_assign rfl rfl rfl ?_)
  refine w_tidy [(0, _), (1, _), (2, _), (3, _), (6, _), (7, _), (8, _)] [_, _] ⟨rfl, rfl, rfl, rfl, rfl, rfl, rfl, trivial⟩ rfl ?_
  refine w_seq ?_
  refine w_seq_region ?_
  refine opW_x (w_loadN [_, _] rfl rfl lk29 rfl (rowL 0 rfl rfl rfl) ?_)
  refine opW_x (w_retB rfl rfl en28 rfl (specQueue_c _ _ q _ hq) ?_)
  refine opW_x (w_not rfl rfl rfl ?_)
  refine w_keep [(0, _), (1, _), (2, _), (3, _), (6, _), (7, _), (8, _), (11, _)] ⟨rfl, rfl, rfl, rfl, rfl, rfl, rfl, rfl, trivial⟩ ?_
  refine w_cond rfl (fun g1 => ?_) (fun g1 => ?_)
  · try simp only [decide_eq_true_eq, decide_eq_false_iff_not, Bool.not_eq_true', Bool.not_eq_false', decide_not, Decidable.not_not, Int.not_lt, Int.not_le, ne_eq] at g1
    refine w_seq_region ?_
    refine opW_x (w_build (parts := []) [_, _] [_, _] rfl rfl pl29 zo29 rfl rfl rfl ?_)
    refine opW_x (w_store [_, _] 1 [_, _] rfl rfl sz29 rfl rfl rfl rfl rfl rfl rfl rfl ?_)
    refine opW_x (w_assign rfl rfl rfl ?_)
    refine opW_x (w_assign rfl rfl rfl ?_)
    refine w_tidy [(0, _), (1, _), (2, _), (3, _), (6, _), (7, _), (8, _), (11, _)] [_, _] ⟨rfl, rfl, rfl, rfl, rfl, rfl, rfl, rfl, trivial⟩ rfl ?_
    refine w_ret (thn_r ?_)
    have he : qTake q id u = (⟨0, []⟩, [], false) := by simp [qTake, g1]
    exact endE .ret (.inl rfl) [_, _, _] ⟨⟨_, rfl, .inr ⟨[_, _], lk29, rowL 1 rfl rfl rfl, rfl⟩⟩, rfl, rfl, trivial⟩ ⟨_, none, 0, rfl, by rw [he]; rfl, by rw [he]; exact VecR.nil, by rw [he]; exact Nat.zero_le _⟩
  · try simp only [decide_eq_true_eq, decide_eq_false_iff_not, Bool.not_eq_true', Bool.not_eq_false', decide_not, Decidable.not_not, Int.not_lt, Int.not_le, ne_eq] at g1
    refine w_skip ?_
    refine thn_n ?_
    refine w_seq_region ?_
    refine opW_x (w_loadN [_, _] rfl rfl lk29 rfl (rowL 0 rfl rfl rfl) ?_)
    refine opW_x (w_move rfl rfl rfl ?_)
    refine opW_x (w_move rfl rfl rfl ?_)
    refine opW_x (w_call rfl rfl en79 rfl (l22Take_c _ _ q id u _ hq) ?_)
    rintro _ Bk _ hlek ⟨lk, ak, ck, rfl, rfl, hvk, htk⟩
    replace hq := hq.mono ItemR.mono hlek
    replace hvk := hvk.mono ItemR.mono (Kn.less_up (Kn.le.refl _) (Kn.le.refl _))
    refine opW_x (w_extract rfl rfl rfl rfl ?_)
    refine opW_x (w_extract rfl rfl rfl rfl ?_)
    refine opW_x (w_extract rfl rfl rfl rfl ?_)
    refine opW_x (w_store [_, _] 1 [_, _] rfl rfl sz29 rfl rfl rfl rfl rfl rfl rfl rfl ?_)
    refine opW_x (w_assign rfl rfl rfl ?_)
    refine opW_x (w_assign rfl rfl rfl ?_)
    refine w_tidy [(0, _), (1, _), (2, _), (3, _), (6, _), (7, _), (8, _), (11, _)] [_, _, _] ⟨rfl, rfl, rfl, rfl, rfl, rfl, rfl, rfl, trivial⟩ rfl ?_
    refine w_ret ?_
    have he : qTake q id u = takeQ q id u := by simp [qTake, g1]
    exact endN .ret (.inl rfl) [_, _, _] [2] rfl ⟨⟨_, rfl, .inr ⟨[_, _], lk29, rowL 1 rfl rfl rfl, rfl⟩⟩, rfl, rfl, trivial⟩ ⟨_, _, _, rfl, by rw [he]; rfl, by rw [he]; exact hvk, by rw [he]; exact htk⟩

set_option maxRecDepth 4000 in
set_option maxHeartbeats 400000 in
theorem l92Letter_c (b : Nat) (q : Option Addr) (m cp p : Nat) (hp : p ≤ 850000000000) (hm : m ≤ 2000) (B : Kn) (hbm : BytesAt B q m) : CallsB Try.prog 63 [ptr ⟨b, 0, none⟩] B [rd b q m cp p] (fun v B' Ls => ∃ (qx : Option Addr) (cx : Nat) (x : DLetter) (p' : Nat), v = .agg #[str x.fr, .slice qx x.to_.length cx, str x.text] ∧ SlK B' qx cx 1 StrR x.to_ ∧ x.fr.length ≤ 40 ∧ x.text.length ≤ 40 ∧ x.to_.length ≤ 6 ∧ p' ≤ p + 20 ∧ Ls = [rd b q m cp p']) := by
  refine callsB_body 19 Try.func63 rfl rfl rfl (Nat.le_of_ble_eq_true rfl) ?_
  refine w_seq_region ?_
  refine opW_x (w_alloc (l := [_, _, _]) rfl rfl zo40 rfl (fun b1 => ?_))
  refine w_tidy [(0, _), (2, _)] [_, _] ⟨rfl, rfl, trivial⟩ rfl ?_
  refine w_seq_region ?_
  refine opW_x (w_move rfl rfl rfl ?_)
  refine opW_x (w_buildSlice (parts := [(0, _), (1, _), (2, _)]) [_, _, _] rfl rfl Try.underlying38 sz9 zo9 rfl rfl rfl rfl rfl (fun b2 => ?_))
  refine opW_x (w_callN [0, 2] rfl rfl rfl rfl en97 rfl (of_c _ _ _ _ _ _ ([[97, 109, 121], [98, 111, 98], [99, 121, 100]] : List Str) (by omega) (by decide) (by decide) hm _ hbm) ?_)
  rintro _ _ _ hle3 ⟨rfl, x3, hx3, rfl, rfl⟩
  replace hx3 := (show ∀ y ∈ ( ([[97, 109, 121], [98, 111, 98], [99, 121, 100]] : List Str) : List Str), y.length ≤ 40 from by decide) _ hx3
  refine opW_x (w_move rfl rfl rfl ?_)
  refine opW_x (w_callN [0] rfl rfl rfl rfl en109 rfl (l92To_c _ _ _ _ _ (by omega) hm _ hbm) ?_)
  rintro _ B4 _ hle4 ⟨q4, cp4, xs4, p4, rfl, ht4, htn4, hp4, rfl⟩
  replace hbm := hbm.mono hle4
  refine opW_x (w_move rfl rfl rfl ?_)
  refine opW_x (w_ex1 0 rfl rfl rfl en110 rfl (l91Text_c _ _ _ _ _ (by omega) hm _ hbm) ?_)
  rintro _ _ ⟨x5, rfl, hx5, rfl⟩
  refine opW_x (w_build (parts := [(0, _), (1, _), (2, _)]) [_, _, _] [_, _, _] rfl rfl pl40 zo40 rfl rfl rfl ?_)
  refine opW_x (w_alloc (l := [_, _, _]) rfl rfl zo40 rfl (fun b6 => ?_))
  refine opW_x (w_store [_, _, _] 3 [_, _, _] rfl rfl sz40 rfl rfl rfl rfl rfl rfl rfl rfl ?_)
  refine w_tidy [(0, _), (2, _), (3, _)] [_, _, _, _] ⟨rfl, rfl, rfl, trivial⟩ rfl ?_
  refine w_seq ?_
  refine w_seq_region ?_
  refine opW_x (w_move rfl rfl rfl ?_)
  refine opW_x (w_ex1 0 rfl rfl rfl en77 rfl (pick_c _ _ _ _ _ _ (by omega) (by omega) (by omega) hm _ hbm) ?_)
  rintro _ _ ⟨r7, rfl, r7a, r7b, rfl⟩
  refine opW_x (w_eqlI rfl rfl rfl rfl ?_)
  refine w_tidy [(0, _), (2, _), (3, _), (14, _)] [_, _, _, _] ⟨rfl, rfl, rfl, rfl, trivial⟩ rfl ?_
  refine w_cond rfl (fun g1 => ?_) (fun g1 => ?_)
  · try simp only [decide_eq_true_eq, decide_eq_false_iff_not, Bool.not_eq_true', Bool.not_eq_false', decide_not, Decidable.not_not, Int.not_lt, Int.not_le, ne_eq] at g1
    refine w_region ?_
    refine opW_x (w_move rfl rfl rfl ?_)
    refine opW_x (w_ex1 0 rfl rfl rfl en78 rfl (l91Name_c _ _ _ _ _ (by omega) hm _ hbm) ?_)
    rintro _ _ ⟨x8, rfl, hx8, rfl⟩
    refine opW_x (w_fieldAddr rfl rfl fo40x0 rfl ?_)
    refine opW_x (w_store [_] 3 [_, _, _] rfl rfl sz9 rfl rfl rfl rfl rfl rfl rfl rfl ?_)
    refine thn_n ?_
    refine w_seq_region ?_
    refine opW_x (w_loadN [_, _, _] rfl rfl lk40 rfl (rowL 3 rfl rfl rfl) ?_)
    refine opW_x (w_store [_, _, _] 1 [_, _, _] rfl rfl sz40 rfl rfl rfl rfl rfl rfl rfl rfl ?_)
    refine w_tidy [(0, _), (2, _), (3, _), (14, _)] [_, _, _, _] ⟨rfl, rfl, rfl, rfl, trivial⟩ rfl ?_
    refine w_ret ?_
    exact endN .ret (.inl rfl) [_] [0] rfl ⟨⟨_, rfl, .inr ⟨[_, _, _], lk40, rowL 1 rfl rfl rfl, rfl⟩⟩, trivial⟩ ⟨_, _, ⟨x8, xs4, x5⟩, _, rfl, ht4, by first | omega | (simp only []; omega), by first | omega | (simp only []; omega), by first | omega | (simp only []; omega), by omega, rfl⟩
  · try simp only [decide_eq_true_eq, decide_eq_false_iff_not, Bool.not_eq_true', Bool.not_eq_false', decide_not, Decidable.not_not, Int.not_lt, Int.not_le, ne_eq] at g1
    refine w_skip ?_
    refine thn_n ?_
    refine w_seq_region ?_
    refine opW_x (w_loadN [_, _, _] rfl rfl lk40 rfl (rowL 3 rfl rfl rfl) ?_)
    refine opW_x (w_store [_, _, _] 1 [_, _, _] rfl rfl sz40 rfl rfl rfl rfl rfl rfl rfl rfl ?_)
    refine w_tidy [(0, _), (2, _), (3, _), (14, _)] [_, _, _, _] ⟨rfl, rfl, rfl, rfl, trivial⟩ rfl ?_
    refine w_ret ?_
    exact endN .ret (.inl rfl) [_] [0] rfl ⟨⟨_, rfl, .inr ⟨[_, _, _], lk40, rowL 1 rfl rfl rfl, rfl⟩⟩, trivial⟩ ⟨_, _, ⟨x3, xs4, x5⟩, _, rfl, ht4, by first | omega | (simp only []; omega), by first | omega | (simp only []; omega), by first | omega | (simp only []; omega), by omega, rfl⟩

set_option maxRecDepth 4000 in
set_option maxHeartbeats 400000 in
theorem l92Queue_c (b : Nat) (q : Option Addr) (m cp p : Nat) (hp : p ≤ 800000000000) (hm : m ≤ 2000) (B : Kn) (hbm : BytesAt B q m) : CallsB Try.prog 62 [ptr ⟨b, 0, none⟩] B [rd b q m cp p] (fun v B' Ls => ∃ (aq : Option Addr) (cq : Nat) (qq : DQueue) (p' : Nat), v = .agg #[.int .i64 qq.next, .slice aq qq.items.length cq] ∧ SlK B' aq cq 4 ItemR qq.items ∧ p' ≤ p + 1000 ∧ Ls = [rd b q m cp p']) := by
  refine callsB_body 84 Try.func62 rfl rfl rfl (Nat.le_of_ble_eq_true rfl) ?_
  refine w_seq_region ?_
  refine opW_x (w_alloc (l := [_, _]) rfl rfl zo29 rfl (fun b1 => ?_))
  refine w_tidy [(0, _), (2, _)] [_, _] ⟨rfl, rfl, trivial⟩ rfl ?_
  refine w_seq_region ?_
  refine opW_x (w_move rfl rfl rfl ?_)
  refine opW_x (w_ex1 0 rfl rfl rfl en77 rfl (pick_c _ _ _ _ _ _ (by omega) (by omega) (by omega) hm _ hbm) ?_)
  rintro _ _ ⟨ra, rfl, raa, rab, rfl⟩
  refine opW_x (w_add rfl rfl rfl rfl (by first | exact wrI64 (by first | omega | (simp; done) | (simp; omega)) (by first | omega | (simp; done) | (simp; omega)) | rfl) ?_)
  refine opW_x (w_buildSlice (parts := []) [] rfl rfl Try.underlying27 sz47 zo47 rfl rfl rfl rfl rfl (fun b3 => ?_))
  refine opW_x (w_build (parts := [(0, _), (1, _)]) [_, _] [_, _] rfl rfl pl29 zo29 rfl rfl rfl ?_)
  refine opW_x (w_alloc (l := [_, _]) rfl rfl zo29 rfl (fun b4 => ?_))
  refine opW_x (w_store [_, _] 3 [_, _] rfl rfl sz29 rfl rfl rfl rfl rfl rfl rfl rfl ?_)
  refine w_tidy [(0, _), (2, _), (3, _)] [_, _, _, _] ⟨rfl, rfl, rfl, trivial⟩ rfl ?_
  refine w_seq_region ?_
  refine opW_x (w_move rfl rfl rfl ?_)
  refine opW_x (w_ex1 0 rfl rfl rfl en77 rfl (pick_c _ _ _ _ _ _ (by omega) (by omega) (by omega) hm _ hbm) ?_)
  rintro _ _ ⟨rb, rfl, rba, rbb, rfl⟩
  refine opW_x (w_assign rfl rfl rfl ?_)
  refine w_tidy [(0, _), (2, _), (3, _), (4, _)] [_, _, _, _] ⟨rfl, rfl, rfl, rfl, trivial⟩ rfl ?_
  refine w_seq ?_
  refine w_seq_region ?_
  refine opW_x (w_assign rfl rfl rfl ?_)
  refine w_keep [(0, _), (2, _), (3, _), (4, _), (5, _)] ⟨rfl, rfl, rfl, rfl, rfl, trivial⟩ ?_
  refine w_block ?_
  refine w_loopE (α := GQ) [0, 2, 3, 4] (fun g => [(5, .int .i64 g.k)]) [0, 2, 3] (fun g => [rd b q m cp g.p, g.l, box1 b4 [.int .i64 g.q.next, .slice g.a g.q.items.length g.c] 29]) (fun g Bx => g.k ≤ 8 ∧ g.p ≤ p + 2 + 40 * g.k ∧ g.q.items.length ≤ 2000000 - 8 + g.k ∧ VecR Bx g.l g.a g.c 47 4 ItemR g.q.items) (fun g => 8 - g.k) ⟨0, p + 2, _, _, _, ⟨_, []⟩⟩ ⟨rfl, trivial⟩ rfl (⟨Nat.zero_le _, Nat.le_refl _, Nat.zero_le _, .lit0⟩) (fun g B6 hle6 hI => ?_)
  obtain ⟨hk, hgp, hgn, hv⟩ := hI
  replace hbm := hbm.mono hle6
  refine w_tidy [(0, _), (2, _), (3, _), (4, _), (5, _)] [_, _, _, _] ⟨rfl, rfl, rfl, rfl, rfl, trivial⟩ rfl ?_
  refine w_seq ?_
  refine w_seq_region ?_
  refine opW_x (w_move rfl rfl rfl ?_)
  refine opW_x (w_move rfl rfl rfl ?_)
  refine opW_x (w_lss rfl rfl rfl rfl ?_)
  refine w_keep [(0, _), (2, _), (3, _), (4, _), (5, _), (17, _)] ⟨rfl, rfl, rfl, rfl, rfl, rfl, trivial⟩ ?_
  refine w_cond rfl (fun g1 => ?_) (fun g1 => ?_)
  · try simp only [decide_eq_true_eq, decide_eq_false_iff_not, Bool.not_eq_true', Bool.not_eq_false', decide_not, Decidable.not_not, Int.not_lt, Int.not_le, ne_eq] at g1
    refine w_skip ?_
    refine thn_n ?_
    refine w_seq ?_
    refine w_block ?_
    refine w_midE (α := GM) [0, 2, 3, 4, 5, 17] (fun h => [(6, ptr ⟨h.b, 0, none⟩), (7, .bool h.f)]) [0] (fun h => [rd b q m cp h.p]) (fun h => [box1 h.b [.int .i64 h.q.next, .slice h.a h.q.items.length h.c] 29, h.l]) (fun h Bx => h.p ≤ g.p + 20 ∧ h.q.items.length ≤ g.q.items.length + 1 ∧ VecR Bx h.l h.a h.c 47 4 ItemR h.q.items) ?_ (fun h B7 hle7 hF => ?_)
    · skip
      refine w_draw (keeps _ [3] _) mo (by kernel_rfl) ⟨Kn.le.refl _, keepsL.refl _ _⟩ ?_
      refine any_take 0 rfl (by kernel_rfl) rfl (q_ofI fun D B L hI => w_loadN [_, _] rfl rfl lk29 rfl (rowL 3 (hI.2.1.trans rfl) rfl rfl) ⟨rfl, rfl, rfl, rfl⟩) ?_
      refine any_takeP 1 rfl (by kernel_rfl) rfl (fun D B L => w_move rfl rfl rfl ⟨rfl, rfl, rfl, rfl⟩) ?_
      refine any_all [2, 7] (by kernel_rfl) (by kernel_rfl) (by kernel_rfl) ⟨?_, ?_⟩
      · skip
        refine (w_callN [0] rfl rfl rfl rfl en63 rfl (l92Letter_c _ _ _ _ _ (by omega) hm _ hbm) ?_)
        rintro _ Bu _ hleu ⟨qxu, cxu, xu, pu, rfl, htu, hfu, hwu, htnu, hpu, rfl⟩
        replace hv := hv.mono ItemR.mono hleu
        replace hbm := hbm.mono hleu
        refine ⟨⟨hleu, ⟨rfl, trivial⟩⟩, ?_⟩
        refine any_all [3, 7] (by kernel_rfl) (by kernel_rfl) (by kernel_rfl) ⟨?_, ?_⟩
        · skip
          refine (w_callN [2] rfl rfl rfl rfl en24 rfl (CallsB.borrow fun hmv => specAdd_c _ _ g.q _ _ xu _ (hv.lend ItemR.mono hmv (by first | omega | (simp; done) | (simp; omega))) (htu.mono StrR.mono (Kn.le_add _ _)) (by first | assumption | omega | (simp; omega)) (by first | assumption | omega | (simp; omega))) ?_)
          rintro _ Bv _ hlev ⟨BBv, _, rfl, hBv, _, hmv, _, lv, av, cv, rfl, rfl, hvv⟩
          replace htu := htu.mono StrR.mono hlev
          replace hv := hv.mono ItemR.mono hlev
          replace hbm := hbm.mono hlev
          replace hvv := hvv.mono ItemR.mono (Kn.less_minus' hmv hBv)
          refine ⟨⟨(hleu.trans hlev), ⟨rfl, trivial⟩⟩, ?_⟩
          refine any_takeP 4 rfl (by kernel_rfl) rfl (fun D B L => w_move rfl rfl rfl ⟨rfl, rfl, rfl, rfl⟩) ?_
          refine any_takeP 5 rfl (by kernel_rfl) rfl (fun D B L => w_extract rfl rfl rfl rfl ⟨rfl, rfl, rfl, rfl⟩) ?_
          refine any_takeP 6 rfl (by kernel_rfl) rfl (fun D B L => w_extract rfl rfl rfl rfl ⟨rfl, rfl, rfl, rfl⟩) ?_
          refine any_one 7 (by kernel_rfl) rfl (by kernel_rfl) (w_alloc (l := [_, _]) rfl rfl zo29 rfl (fun b10 => ?_))
          refine ⟨⟨(hleu.trans hlev), ⟨rfl, trivial⟩⟩, ?_⟩
          refine any_sto 8 (by kernel_rfl) rfl (by kernel_rfl) (by kernel_rfl) (w_store [_, _] 5 [_, _] rfl rfl sz29 rfl rfl rfl rfl rfl rfl rfl rfl ?_)
          refine any_takeP 9 rfl (by kernel_rfl) rfl (fun D B L => w_assign rfl rfl rfl ⟨rfl, rfl, rfl, rfl⟩) ?_
          refine any_done (by kernel_rfl) (by kernel_rfl) ?_
          exact mid_leaf ⟨_, pu, lv, av, cv, (addQ g.q xu).1, _⟩ [0, 1, 2, 3, 5, 4] ⟨hpu, addQ_len _ _, hvv⟩ ⟨rfl, rfl, rfl, rfl, rfl, rfl, rfl, rfl, trivial⟩ rfl
        · skip
          refine (w_alloc (l := [_, _]) rfl rfl zo29 rfl (fun b11 => ?_))
          refine ⟨⟨hleu, ⟨rfl, trivial⟩⟩, ?_⟩
          refine any_one 3 (by kernel_rfl) rfl (by kernel_rfl) (w_callN [2] rfl rfl rfl rfl en24 rfl (CallsB.borrow fun hmv => specAdd_c _ _ g.q _ _ xu _ (hv.lend ItemR.mono hmv (by first | omega | (simp; done) | (simp; omega))) (htu.mono StrR.mono (Kn.le_add _ _)) (by first | assumption | omega | (simp; omega)) (by first | assumption | omega | (simp; omega))) ?_)
          rintro _ Bv _ hlev ⟨BBv, _, rfl, hBv, _, hmv, _, lv, av, cv, rfl, rfl, hvv⟩
          replace htu := htu.mono StrR.mono hlev
          replace hv := hv.mono ItemR.mono hlev
          replace hbm := hbm.mono hlev
          replace hvv := hvv.mono ItemR.mono (Kn.less_minus' hmv hBv)
          refine ⟨⟨(hleu.trans hlev), ⟨rfl, trivial⟩⟩, ?_⟩
          refine any_takeP 4 rfl (by kernel_rfl) rfl (fun D B L => w_move rfl rfl rfl ⟨rfl, rfl, rfl, rfl⟩) ?_
          refine any_takeP 5 rfl (by kernel_rfl) rfl (fun D B L => w_extract rfl rfl rfl rfl ⟨rfl, rfl, rfl, rfl⟩) ?_
          refine any_takeP 6 rfl (by kernel_rfl) rfl (fun D B L => w_extract rfl rfl rfl rfl ⟨rfl, rfl, rfl, rfl⟩) ?_
          refine any_sto 8 (by kernel_rfl) rfl (by kernel_rfl) (by kernel_rfl) (w_store [_, _] 4 [_, _] rfl rfl sz29 rfl rfl rfl rfl rfl rfl rfl rfl ?_)
          refine any_takeP 9 rfl (by kernel_rfl) rfl (fun D B L => w_assign rfl rfl rfl ⟨rfl, rfl, rfl, rfl⟩) ?_
          refine any_done (by kernel_rfl) (by kernel_rfl) ?_
          exact mid_leaf ⟨_, pu, lv, av, cv, (addQ g.q xu).1, _⟩ [0, 1, 2, 3, 4, 5] ⟨hpu, addQ_len _ _, hvv⟩ ⟨rfl, rfl, rfl, rfl, rfl, rfl, rfl, rfl, trivial⟩ rfl
      · skip
        refine (w_alloc (l := [_, _]) rfl rfl zo29 rfl (fun b13 => ?_))
        refine ⟨⟨Kn.le.refl _, ⟨rfl, trivial⟩⟩, ?_⟩
        refine any_one 2 (by kernel_rfl) rfl (by kernel_rfl) (w_callN [0] rfl rfl rfl rfl en63 rfl (l92Letter_c _ _ _ _ _ (by omega) hm _ hbm) ?_)
        rintro _ Bu _ hleu ⟨qxu, cxu, xu, pu, rfl, htu, hfu, hwu, htnu, hpu, rfl⟩
        replace hv := hv.mono ItemR.mono hleu
        replace hbm := hbm.mono hleu
        refine ⟨⟨hleu, ⟨rfl, trivial⟩⟩, ?_⟩
        refine any_one 3 (by kernel_rfl) rfl (by kernel_rfl) (w_callN [2] rfl rfl rfl rfl en24 rfl (CallsB.borrow fun hmv => specAdd_c _ _ g.q _ _ xu _ (hv.lend ItemR.mono hmv (by first | omega | (simp; done) | (simp; omega))) (htu.mono StrR.mono (Kn.le_add _ _)) (by first | assumption | omega | (simp; omega)) (by first | assumption | omega | (simp; omega))) ?_)
        rintro _ Bv _ hlev ⟨BBv, _, rfl, hBv, _, hmv, _, lv, av, cv, rfl, rfl, hvv⟩
        replace htu := htu.mono StrR.mono hlev
        replace hv := hv.mono ItemR.mono hlev
        replace hbm := hbm.mono hlev
        replace hvv := hvv.mono ItemR.mono (Kn.less_minus' hmv hBv)
        refine ⟨⟨(hleu.trans hlev), ⟨rfl, trivial⟩⟩, ?_⟩
        refine any_takeP 4 rfl (by kernel_rfl) rfl (fun D B L => w_move rfl rfl rfl ⟨rfl, rfl, rfl, rfl⟩) ?_
        refine any_takeP 5 rfl (by kernel_rfl) rfl (fun D B L => w_extract rfl rfl rfl rfl ⟨rfl, rfl, rfl, rfl⟩) ?_
        refine any_takeP 6 rfl (by kernel_rfl) rfl (fun D B L => w_extract rfl rfl rfl rfl ⟨rfl, rfl, rfl, rfl⟩) ?_
        refine any_sto 8 (by kernel_rfl) rfl (by kernel_rfl) (by kernel_rfl) (w_store [_, _] 4 [_, _] rfl rfl sz29 rfl rfl rfl rfl rfl rfl rfl rfl ?_)
        refine any_takeP 9 rfl (by kernel_rfl) rfl (fun D B L => w_assign rfl rfl rfl ⟨rfl, rfl, rfl, rfl⟩) ?_
        refine any_done (by kernel_rfl) (by kernel_rfl) ?_
        exact mid_leaf ⟨_, pu, lv, av, cv, (addQ g.q xu).1, _⟩ [0, 1, 2, 3, 4, 5] ⟨hpu, addQ_len _ _, hvv⟩ ⟨rfl, rfl, rfl, rfl, rfl, rfl, rfl, rfl, trivial⟩ rfl
    · skip
      obtain ⟨hhp, hhn, hw⟩ := hF
      replace hv := hv.mono ItemR.mono hle7
      replace hbm := hbm.mono hle7
      refine w_tidy [(0, _), (2, _), (3, _), (4, _), (5, _), (6, _), (7, _), (17, _)] [_, _, _, _, _, _] ⟨rfl, rfl, rfl, rfl, rfl, rfl, rfl, rfl, trivial⟩ rfl ?_
      refine w_midF (α := GQ) [0, 2, 3, 4, 5, 6, 7, 17] (fun o => []) (fun o => [rd b q m cp o.p, box1 b1 [.int .i64 0, .slice none 0 0] 29, o.l, box1 b4 [.int .i64 o.q.next, .slice o.a o.q.items.length o.c] 29]) (fun o Bx => o.p ≤ g.p + 20 ∧ o.q.items.length ≤ g.q.items.length + 1 ∧ VecR Bx o.l o.a o.c 47 4 ItemR o.q.items) ?_ (fun o B16 hle16 hF => ?_)
      · skip
        refine w_seq_region ?_
        refine opW_x (w_move rfl rfl rfl ?_)
        refine w_keep [(0, _), (2, _), (3, _), (4, _), (5, _), (6, _), (7, _), (17, _), (27, _)] ⟨rfl, rfl, rfl, rfl, rfl, rfl, rfl, rfl, rfl, trivial⟩ ?_
        refine w_cond rfl (fun g2 => ?_) (fun g2 => ?_)
        · try simp only [decide_eq_true_eq, decide_eq_false_iff_not, Bool.not_eq_true', Bool.not_eq_false', decide_not, Decidable.not_not, Int.not_lt, Int.not_le, ne_eq] at g2
          refine w_region ?_
          refine opW_x (w_loadN [_, _] rfl rfl lk29 rfl (rowL 4 rfl rfl rfl) ?_)
          refine opW_x (w_store [_, _] 3 [_, _] rfl rfl sz29 rfl rfl rfl rfl rfl rfl rfl rfl ?_)
          exact mid_leaf ⟨0, h.p, h.l, h.a, h.c, h.q⟩ [0, 1, 5, 3] ⟨hhp, hhn, hw⟩ ⟨rfl, rfl, rfl, rfl, rfl, rfl, rfl, rfl, trivial⟩ rfl
        · try simp only [decide_eq_true_eq, decide_eq_false_iff_not, Bool.not_eq_true', Bool.not_eq_false', decide_not, Decidable.not_not, Int.not_lt, Int.not_le, ne_eq] at g2
          refine w_skip ?_
          exact mid_leaf ⟨0, h.p, g.l, g.a, g.c, g.q⟩ [0, 1, 2, 3] ⟨hhp, by simp only []; omega, hv⟩ ⟨rfl, rfl, rfl, rfl, rfl, rfl, rfl, rfl, trivial⟩ rfl
      · skip
        clear hv
        obtain ⟨hop, hon, hv⟩ := hF
        replace hbm := hbm.mono hle16
        refine w_tidy [(0, _), (2, _), (3, _), (4, _), (5, _), (6, _), (7, _), (17, _)] [_, _, _, _] ⟨rfl, rfl, rfl, rfl, rfl, rfl, rfl, rfl, trivial⟩ rfl ?_
        refine w_seq_region ?_
        refine opW_x (w_fieldAddr rfl rfl fo29x1 rfl ?_)
        refine opW_x (w_load1 rfl rfl lk27 rfl (atL 3 rfl rfl rfl) ?_)
        refine opW_x (w_lenV rfl rfl Try.underlying27 rfl ?_)
        refine opW_x (w_gtr rfl rfl rfl rfl ?_)
        refine opW_x (w_move rfl rfl rfl ?_)
        refine r_split (d := 33) rfl (fun g3 => ?_) (fun g3 => ?_)
        · try simp only [decide_eq_true_eq, decide_eq_false_iff_not, Bool.not_eq_true', Bool.not_eq_false', decide_not, Decidable.not_not, Int.not_lt, Int.not_le, ne_eq] at g3
          refine opW_x (w_move rfl rfl rfl ?_)
          refine opW_x (w_ex1 0 rfl rfl rfl en77 rfl (pick_c _ _ _ _ _ _ (by omega) (by omega) (by omega) hm _ hbm) ?_)
          rintro _ _ ⟨r17, rfl, r17a, r17b, rfl⟩
          refine opW_x (w_eqlI rfl rfl rfl rfl ?_)
          refine opW_x (w_pickT rfl rfl rfl rfl ?_)
          refine w_tidy [(0, _), (2, _), (3, _), (4, _), (5, _), (6, _), (7, _), (17, _), (37, _)] [_, _, _, _] ⟨rfl, rfl, rfl, rfl, rfl, rfl, rfl, rfl, rfl, trivial⟩ rfl ?_
          refine w_cond rfl (fun g4 => ?_) (fun g4 => ?_)
          · try simp only [decide_eq_true_eq, decide_eq_false_iff_not, Bool.not_eq_true', Bool.not_eq_false', decide_not, Decidable.not_not, Int.not_lt, Int.not_le, ne_eq] at g4
            refine w_draw (keeps _ [2, 3] _) mo (by kernel_rfl) ⟨Kn.le.refl _, keepsL.refl _ _⟩ ?_
            refine any_take 0 rfl (by kernel_rfl) rfl (q_ofI fun D B L hI => w_loadN [_, _] rfl rfl lk29 rfl (rowL 3 (hI.2.2.1.trans rfl) rfl rfl) ⟨rfl, rfl, rfl, rfl⟩) ?_
            refine any_take 1 rfl (by kernel_rfl) rfl (q_ofI fun D B L hI => w_fieldAddr rfl rfl fo29x1 rfl ⟨rfl, rfl, rfl, rfl⟩) ?_
            refine any_take 2 rfl (by kernel_rfl) rfl (q_ofI fun D B L hI => w_load1 rfl rfl lk27 rfl (atL 3 (hI.2.2.1.trans rfl) rfl rfl) ⟨rfl, rfl, rfl, rfl⟩) ?_
            refine any_takeP 3 rfl (by kernel_rfl) rfl (fun D B L => w_move rfl rfl rfl ⟨rfl, rfl, rfl, rfl⟩) ?_
            refine any_take 4 rfl (by kernel_rfl) rfl (q_ofI fun D B L hI => w_fieldAddr rfl rfl fo29x1 rfl ⟨rfl, rfl, rfl, rfl⟩) ?_
            refine any_take 5 rfl (by kernel_rfl) rfl (q_ofI fun D B L hI => w_load1 rfl rfl lk27 rfl (atL 3 (hI.2.2.1.trans rfl) rfl rfl) ⟨rfl, rfl, rfl, rfl⟩) ?_
            refine any_take 6 rfl (by kernel_rfl) rfl (q_ofI fun D B L hI => w_lenV rfl rfl Try.underlying27 rfl ⟨rfl, rfl, rfl, rfl⟩) ?_
            refine any_takeP 11 rfl (by kernel_rfl) rfl (fun D B L => w_move rfl rfl rfl ⟨rfl, rfl, rfl, rfl⟩) ?_
            refine any_all [7, 12] (by kernel_rfl) (by kernel_rfl) (by kernel_rfl) ⟨?_, ?_⟩
            · skip
              refine (w_ex1 0 rfl rfl rfl en77 rfl (pick_c _ _ _ _ _ _ (by omega) (by omega) (by omega) hm _ hbm) ?_)
              rintro _ _ ⟨r18, rfl, r18a, r18b, rfl⟩
              refine ⟨⟨Kn.le.refl _, ⟨rfl, rfl, trivial⟩⟩, ?_⟩
              obtain ⟨z19, hz19⟩ := getI (xs := o.q.items) (i := r18) (by first | omega | (simp; done) | (simp; omega)) (by first | omega | (simp; done) | (simp; omega))
              obtain ⟨bb20, _, hp20, ⟨qi20, ci20, rfl, hi20, hb20, hb20b⟩, hw20, hc20⟩ := hv.row hz19
              have hi20n := hi20.len
              refine any_take 8 rfl (by kernel_rfl) rfl (q_ofI fun D B L hI => w_ixP hp20 rfl rfl Try.underlying27 sz47 rfl rfl (by first | omega | (simp; done) | (simp; omega)) (by first | omega | (simp; done) | (simp; omega)) ⟨rfl, rfl, rfl, rfl⟩) ?_
              refine any_take 9 rfl (by kernel_rfl) rfl (q_ofI fun D B L hI => w_fieldAddr rfl rfl fo47x0 rfl ⟨rfl, rfl, rfl, rfl⟩) ?_
              refine any_take 10 rfl (by kernel_rfl) rfl (q_ofI fun D B L hI => w_load1 rfl rfl lk3 rfl (hc20 _ 2 (hI.2.1.trans rfl) 0 _ rfl) ⟨rfl, rfl, rfl, rfl⟩) ?_
              refine any_one 12 (by kernel_rfl) rfl (by kernel_rfl) (w_buildSlice (parts := [(0, _), (1, _), (2, _)]) [_, _, _] rfl rfl Try.underlying38 sz9 zo9 rfl rfl rfl rfl rfl (fun b21 => ?_))
              refine ⟨⟨Kn.le.refl _, ⟨rfl, rfl, trivial⟩⟩, ?_⟩
              refine any_one 13 (by kernel_rfl) rfl (by kernel_rfl) (w_callN [0, 4] rfl rfl rfl rfl en97 rfl (of_c _ _ _ _ _ _ ([[97, 109, 121], [98, 111, 98], [99, 121, 100]] : List Str) (by omega) (by decide) (by decide) hm _ hbm) ?_)
              rintro _ _ _ hlew ⟨rfl, xw, hxw, rfl, rfl⟩
              replace hxw := (show ∀ y ∈ ( ([[97, 109, 121], [98, 111, 98], [99, 121, 100]] : List Str) : List Str), y.length ≤ 40 from by decide) _ hxw
              refine ⟨⟨Kn.le.refl _, ⟨rfl, rfl, trivial⟩⟩, ?_⟩
              refine any_one 14 (by kernel_rfl) rfl (by kernel_rfl) (w_callN [2] rfl rfl rfl rfl en35 rfl (CallsB.borrow fun hm23 => specTake_c _ _ o.q z19.id xw _ (hv.lend ItemR.mono hm23 (by first | omega | (simp; done) | (simp; omega)))) ?_)
              rintro _ B23 _ hle23 ⟨BB23, _, rfl, hB23, _, hm23, _, l23, a23, c23, rfl, rfl, hv23, ht23⟩
              replace hi20 := hi20.mono StrR.mono hle23
              replace hv := hv.mono ItemR.mono hle23
              replace hbm := hbm.mono hle23
              replace hv23 := hv23.mono ItemR.mono (Kn.less_minus' hm23 hB23)
              refine ⟨⟨hle23, ⟨rfl, rfl, trivial⟩⟩, ?_⟩
              refine any_takeP 15 rfl (by kernel_rfl) rfl (fun D B L => w_move rfl rfl rfl ⟨rfl, rfl, rfl, rfl⟩) ?_
              refine any_takeP 16 rfl (by kernel_rfl) rfl (fun D B L => w_extract rfl rfl rfl rfl ⟨rfl, rfl, rfl, rfl⟩) ?_
              refine any_takeP 17 rfl (by kernel_rfl) rfl (fun D B L => w_extract rfl rfl rfl rfl ⟨rfl, rfl, rfl, rfl⟩) ?_
              refine any_takeP 18 rfl (by kernel_rfl) rfl (fun D B L => w_extract rfl rfl rfl rfl ⟨rfl, rfl, rfl, rfl⟩) ?_
              refine any_sto 19 (by kernel_rfl) rfl (by kernel_rfl) (by kernel_rfl) (w_store [_, _] 3 [_, _] rfl rfl sz29 rfl rfl rfl rfl rfl rfl rfl rfl ?_)
              refine any_done (by kernel_rfl) (by kernel_rfl) ?_
              refine inB_n (thn_n ?_)
              refine w_region ?_
              refine opW_x (w_move rfl rfl rfl ?_)
              refine opW_x (w_add rfl rfl rfl rfl (by first | exact wrI64 (by first | omega | (simp; done) | (simp; omega)) (by first | omega | (simp; done) | (simp; omega)) | rfl) ?_)
              refine opW_x (w_assign rfl rfl rfl ?_)
              exact rndE_n ⟨g.k + 1, (((o.p + 1) + 1) + 1), l23, a23, c23, ((qTake o.q z19.id xw).1)⟩ [0, 1, 5, 3] (by first | omega | (simp only []; omega)) ⟨by simp only []; omega, by simp only []; omega, Nat.le_trans (qTake_len _ _ _) (by simp only []; omega), hv23⟩ ⟨rfl, rfl, rfl, rfl, rfl, trivial⟩ rfl
            · skip
              refine (w_buildSlice (parts := [(0, _), (1, _), (2, _)]) [_, _, _] rfl rfl Try.underlying38 sz9 zo9 rfl rfl rfl rfl rfl (fun b24 => ?_))
              refine ⟨⟨Kn.le.refl _, ⟨rfl, rfl, trivial⟩⟩, ?_⟩
              refine any_one 7 (by kernel_rfl) rfl (by kernel_rfl) (w_ex1 0 rfl rfl rfl en77 rfl (pick_c _ _ _ _ _ _ (by omega) (by omega) (by omega) hm _ hbm) ?_)
              rintro _ _ ⟨r25, rfl, r25a, r25b, rfl⟩
              refine ⟨⟨Kn.le.refl _, ⟨rfl, rfl, trivial⟩⟩, ?_⟩
              obtain ⟨z26, hz26⟩ := getI (xs := o.q.items) (i := r25) (by first | omega | (simp; done) | (simp; omega)) (by first | omega | (simp; done) | (simp; omega))
              obtain ⟨bb27, _, hp27, ⟨qi27, ci27, rfl, hi27, hb27, hb27b⟩, hw27, hc27⟩ := hv.row hz26
              have hi27n := hi27.len
              refine any_take 8 rfl (by kernel_rfl) rfl (q_ofI fun D B L hI => w_ixP hp27 rfl rfl Try.underlying27 sz47 rfl rfl (by first | omega | (simp; done) | (simp; omega)) (by first | omega | (simp; done) | (simp; omega)) ⟨rfl, rfl, rfl, rfl⟩) ?_
              refine any_take 9 rfl (by kernel_rfl) rfl (q_ofI fun D B L hI => w_fieldAddr rfl rfl fo47x0 rfl ⟨rfl, rfl, rfl, rfl⟩) ?_
              refine any_take 10 rfl (by kernel_rfl) rfl (q_ofI fun D B L hI => w_load1 rfl rfl lk3 rfl (hc27 _ 2 (hI.2.1.trans rfl) 0 _ rfl) ⟨rfl, rfl, rfl, rfl⟩) ?_
              refine any_one 13 (by kernel_rfl) rfl (by kernel_rfl) (w_callN [0, 4] rfl rfl rfl rfl en97 rfl (of_c _ _ _ _ _ _ ([[97, 109, 121], [98, 111, 98], [99, 121, 100]] : List Str) (by omega) (by decide) (by decide) hm _ hbm) ?_)
              rintro _ _ _ hlew ⟨rfl, xw, hxw, rfl, rfl⟩
              replace hxw := (show ∀ y ∈ ( ([[97, 109, 121], [98, 111, 98], [99, 121, 100]] : List Str) : List Str), y.length ≤ 40 from by decide) _ hxw
              refine ⟨⟨Kn.le.refl _, ⟨rfl, rfl, trivial⟩⟩, ?_⟩
              refine any_one 14 (by kernel_rfl) rfl (by kernel_rfl) (w_callN [2] rfl rfl rfl rfl en35 rfl (CallsB.borrow fun hm29 => specTake_c _ _ o.q z26.id xw _ (hv.lend ItemR.mono hm29 (by first | omega | (simp; done) | (simp; omega)))) ?_)
              rintro _ B29 _ hle29 ⟨BB29, _, rfl, hB29, _, hm29, _, l29, a29, c29, rfl, rfl, hv29, ht29⟩
              replace hi27 := hi27.mono StrR.mono hle29
              replace hv := hv.mono ItemR.mono hle29
              replace hbm := hbm.mono hle29
              replace hv29 := hv29.mono ItemR.mono (Kn.less_minus' hm29 hB29)
              refine ⟨⟨hle29, ⟨rfl, rfl, trivial⟩⟩, ?_⟩
              refine any_takeP 15 rfl (by kernel_rfl) rfl (fun D B L => w_move rfl rfl rfl ⟨rfl, rfl, rfl, rfl⟩) ?_
              refine any_takeP 16 rfl (by kernel_rfl) rfl (fun D B L => w_extract rfl rfl rfl rfl ⟨rfl, rfl, rfl, rfl⟩) ?_
              refine any_takeP 17 rfl (by kernel_rfl) rfl (fun D B L => w_extract rfl rfl rfl rfl ⟨rfl, rfl, rfl, rfl⟩) ?_
              refine any_takeP 18 rfl (by kernel_rfl) rfl (fun D B L => w_extract rfl rfl rfl rfl ⟨rfl, rfl, rfl, rfl⟩) ?_
              refine any_sto 19 (by kernel_rfl) rfl (by kernel_rfl) (by kernel_rfl) (w_store [_, _] 3 [_, _] rfl rfl sz29 rfl rfl rfl rfl rfl rfl rfl rfl ?_)
              refine any_done (by kernel_rfl) (by kernel_rfl) ?_
              refine inB_n (thn_n ?_)
              refine w_region ?_
              refine opW_x (w_move rfl rfl rfl ?_)
              refine opW_x (w_add rfl rfl rfl rfl (by first | exact wrI64 (by first | omega | (simp; done) | (simp; omega)) (by first | omega | (simp; done) | (simp; omega)) | rfl) ?_)
              refine opW_x (w_assign rfl rfl rfl ?_)
              exact rndE_n ⟨g.k + 1, (((o.p + 1) + 1) + 1), l29, a29, c29, ((qTake o.q z26.id xw).1)⟩ [0, 1, 5, 3] (by first | omega | (simp only []; omega)) ⟨by simp only []; omega, by simp only []; omega, Nat.le_trans (qTake_len _ _ _) (by simp only []; omega), hv29⟩ ⟨rfl, rfl, rfl, rfl, rfl, trivial⟩ rfl
          · try simp only [decide_eq_true_eq, decide_eq_false_iff_not, Bool.not_eq_true', Bool.not_eq_false', decide_not, Decidable.not_not, Int.not_lt, Int.not_le, ne_eq] at g4
            refine w_skip ?_
            refine inB_n (thn_n ?_)
            refine w_region ?_
            refine opW_x (w_move rfl rfl rfl ?_)
            refine opW_x (w_add rfl rfl rfl rfl (by first | exact wrI64 (by first | omega | (simp; done) | (simp; omega)) (by first | omega | (simp; done) | (simp; omega)) | rfl) ?_)
            refine opW_x (w_assign rfl rfl rfl ?_)
            exact rndE_n ⟨g.k + 1, (o.p + 1), o.l, o.a, o.c, o.q⟩ [0, 1, 2, 3] (by first | omega | (simp only []; omega)) ⟨by simp only []; omega, by simp only []; omega, by simp only []; omega, hv⟩ ⟨rfl, rfl, rfl, rfl, rfl, trivial⟩ rfl
        · try simp only [decide_eq_true_eq, decide_eq_false_iff_not, Bool.not_eq_true', Bool.not_eq_false', decide_not, Decidable.not_not, Int.not_lt, Int.not_le, ne_eq] at g3
          refine opW_x (w_pass rfl rfl ?_)
          refine opW_x (w_pass rfl rfl ?_)
          refine opW_x (w_pass rfl rfl ?_)
          refine opW_x (w_pickF rfl rfl rfl rfl ?_)
          refine w_keep [(0, _), (2, _), (3, _), (4, _), (5, _), (6, _), (7, _), (17, _), (37, _)] ⟨rfl, rfl, rfl, rfl, rfl, rfl, rfl, rfl, rfl, trivial⟩ ?_
          refine w_cond (t := false) rfl (fun h => Bool.noConfusion h) (fun _ => ?_)
          refine w_skip ?_
          refine inB_n (thn_n ?_)
          refine w_region ?_
          refine opW_x (w_move rfl rfl rfl ?_)
          refine opW_x (w_add rfl rfl rfl rfl (by first | exact wrI64 (by first | omega | (simp; done) | (simp; omega)) (by first | omega | (simp; done) | (simp; omega)) | rfl) ?_)
          refine opW_x (w_assign rfl rfl rfl ?_)
          exact rndE_n ⟨g.k + 1, o.p, o.l, o.a, o.c, o.q⟩ [0, 1, 2, 3] (by first | omega | (simp only []; omega)) ⟨by simp only []; omega, by simp only []; omega, by simp only []; omega, hv⟩ ⟨rfl, rfl, rfl, rfl, rfl, trivial⟩ rfl
  · try simp only [decide_eq_true_eq, decide_eq_false_iff_not, Bool.not_eq_true', Bool.not_eq_false', decide_not, Decidable.not_not, Int.not_lt, Int.not_le, ne_eq] at g1
    refine w_exit (thn_x (rndE_x (inB_hit (thn_n ?_))))
    refine w_seq ?_
    refine w_seq_region ?_
    refine opW_x (w_move rfl rfl rfl ?_)
    refine opW_x (w_ex1 0 rfl rfl rfl en77 rfl (pick_c _ _ _ _ _ _ (by omega) (by omega) (by omega) hm _ hbm) ?_)
    rintro _ _ ⟨r30, rfl, r30a, r30b, rfl⟩
    refine w_tidy [(0, _), (2, _), (3, _), (4, _), (5, _), (17, _), (58, _)] [_, _, _, _] ⟨rfl, rfl, rfl, rfl, rfl, rfl, rfl, trivial⟩ rfl ?_
    refine w_block ?_
    refine w_seq_region ?_
    refine opW_x (w_eqlI rfl rfl rfl rfl ?_)
    refine opW_x (w_assign rfl rfl rfl ?_)
    refine w_keep [(0, _), (2, _), (3, _), (4, _), (5, _), (17, _), (58, _), (59, _)] ⟨rfl, rfl, rfl, rfl, rfl, rfl, rfl, rfl, trivial⟩ ?_
    refine w_cond rfl (fun g2 => ?_) (fun g2 => ?_)
    · try simp only [decide_eq_true_eq, decide_eq_false_iff_not, Bool.not_eq_true', Bool.not_eq_false', decide_not, Decidable.not_not, Int.not_lt, Int.not_le, ne_eq] at g2
      refine w_region ?_
      refine opW_x (w_buildSlice (parts := [(0, _), (1, _), (2, _), (3, _), (4, _)]) [_, _, _, _, _] rfl rfl Try.underlying131 sz3 zo3 rfl rfl rfl rfl rfl (fun b31 => ?_))
      refine r_pubK 4 rfl (VecR.ints (ls := ([0, 1, 99, 100, 101] : List Int))) IntR.mono (by first | omega | decide | (simp; done) | (simp; omega)) (fun B32 hle32 hr32 => ?_)
      replace hv := hv.mono ItemR.mono hle32
      replace hbm := hbm.mono hle32
      have hr32n := hr32.len
      refine opW_x (w_move rfl rfl rfl ?_)
      refine opW_x (w_ex1 0 rfl rfl rfl en77 rfl (pick_c _ _ _ _ _ _ (by omega) (by omega) (by omega) hm _ hbm) ?_)
      rintro _ _ ⟨r33, rfl, r33a, r33b, rfl⟩
      obtain ⟨z34, hz34⟩ := getI (xs := ([0, 1, 99, 100, 101] : List Int)) (i := r33) (by first | omega | (simp; done) | (simp; omega)) (by first | omega | (simp; done) | (simp; omega))
      obtain ⟨_, rfl, hc35⟩ := hr32.elem hz34
      refine opW_x (w_ixB rfl rfl Try.underlying131 sz3 rfl rfl (by first | omega | (simp; done) | (simp; omega)) (by first | omega | (simp; done) | (simp; omega)) ?_)
      refine opW_x (w_load1 rfl rfl lk3 rfl (hc35 _ 0 _ rfl) ?_)
      refine opW_x (w_fieldAddr rfl rfl fo29x0 rfl ?_)
      refine opW_x (w_store [_] 3 [_, _] rfl rfl sz3 rfl rfl rfl rfl rfl rfl rfl rfl ?_)
      refine inB_n (thn_n ?_)
      refine w_pubK 2 rfl hv ItemR.mono (by first | omega | decide | (simp; done) | (simp; omega)) (fun B36 hle36 hr36 => ?_)
      replace hr32 := hr32.mono IntR.mono hle36
      replace hc35 := hc35.mono hle36
      replace hbm := hbm.mono hle36
      have hr36n := hr36.len
      refine w_seq_region ?_
      refine opW_x (w_loadN [_, _] rfl rfl lk29 rfl (rowL 3 rfl rfl rfl) ?_)
      refine opW_x (w_store [_, _] 1 [_, _] rfl rfl sz29 rfl rfl rfl rfl rfl rfl rfl rfl ?_)
      refine w_tidy [(0, _), (2, _), (3, _), (4, _), (5, _), (17, _), (58, _), (59, _)] [_, _, _, _, _] ⟨rfl, rfl, rfl, rfl, rfl, rfl, rfl, rfl, trivial⟩ rfl ?_
      refine w_ret ?_
      exact endN .ret (.inl rfl) [_] [0] rfl ⟨⟨_, rfl, .inr ⟨[_, _], lk29, rowL 1 rfl rfl rfl, rfl⟩⟩, trivial⟩ ⟨_, _, ⟨z34, g.q.items⟩, _, (by first | rfl | (simp only [List.length_set]; rfl)), hr36, by omega, rfl⟩
    · try simp only [decide_eq_true_eq, decide_eq_false_iff_not, Bool.not_eq_true', Bool.not_eq_false', decide_not, Decidable.not_not, Int.not_lt, Int.not_le, ne_eq] at g2
      refine w_seq_region ?_
      refine opW_x (w_eqlI rfl rfl rfl rfl ?_)
      refine opW_x (w_assign rfl rfl rfl ?_)
      refine w_keep [(0, _), (2, _), (3, _), (4, _), (5, _), (17, _), (58, _), (59, _), (67, _)] ⟨rfl, rfl, rfl, rfl, rfl, rfl, rfl, rfl, rfl, trivial⟩ ?_
      refine w_cond rfl (fun g3 => ?_) (fun g3 => ?_)
      · try simp only [decide_eq_true_eq, decide_eq_false_iff_not, Bool.not_eq_true', Bool.not_eq_false', decide_not, Decidable.not_not, Int.not_lt, Int.not_le, ne_eq] at g3
        refine w_seq_region ?_
        refine opW_x (w_fieldAddr rfl rfl fo29x1 rfl ?_)
        refine opW_x (w_load1 rfl rfl lk27 rfl (atL 3 rfl rfl rfl) ?_)
        refine opW_x (w_lenV rfl rfl Try.underlying27 rfl ?_)
        refine opW_x (w_gtr rfl rfl rfl rfl ?_)
        refine w_keep [(0, _), (2, _), (3, _), (4, _), (5, _), (17, _), (58, _), (59, _), (67, _), (72, _)] ⟨rfl, rfl, rfl, rfl, rfl, rfl, rfl, rfl, rfl, rfl, trivial⟩ ?_
        refine w_cond rfl (fun g4 => ?_) (fun g4 => ?_)
        · try simp only [decide_eq_true_eq, decide_eq_false_iff_not, Bool.not_eq_true', Bool.not_eq_false', decide_not, Decidable.not_not, Int.not_lt, Int.not_le, ne_eq] at g4
          refine w_draw (keeps _ [2, 3] _) mo (by kernel_rfl) ⟨Kn.le.refl _, keepsL.refl _ _⟩ ?_
          refine any_take 0 rfl (by kernel_rfl) rfl (q_ofI fun D B L hI => w_fieldAddr rfl rfl fo29x1 rfl ⟨rfl, rfl, rfl, rfl⟩) ?_
          refine any_take 1 rfl (by kernel_rfl) rfl (q_ofI fun D B L hI => w_load1 rfl rfl lk27 rfl (atL 3 (hI.2.2.1.trans rfl) rfl rfl) ⟨rfl, rfl, rfl, rfl⟩) ?_
          refine any_takeP 2 rfl (by kernel_rfl) rfl (fun D B L => w_move rfl rfl rfl ⟨rfl, rfl, rfl, rfl⟩) ?_
          refine any_take 3 rfl (by kernel_rfl) rfl (q_ofI fun D B L hI => w_fieldAddr rfl rfl fo29x1 rfl ⟨rfl, rfl, rfl, rfl⟩) ?_
          refine any_take 4 rfl (by kernel_rfl) rfl (q_ofI fun D B L hI => w_load1 rfl rfl lk27 rfl (atL 3 (hI.2.2.1.trans rfl) rfl rfl) ⟨rfl, rfl, rfl, rfl⟩) ?_
          refine any_take 5 rfl (by kernel_rfl) rfl (q_ofI fun D B L hI => w_lenV rfl rfl Try.underlying27 rfl ⟨rfl, rfl, rfl, rfl⟩) ?_
          refine any_all [6, 7] (by kernel_rfl) (by kernel_rfl) (by kernel_rfl) ⟨?_, ?_⟩
          · skip
            refine (w_ex1 0 rfl rfl rfl en77 rfl (pick_c _ _ _ _ _ _ (by omega) (by omega) (by omega) hm _ hbm) ?_)
            rintro _ _ ⟨r37, rfl, r37a, r37b, rfl⟩
            refine ⟨⟨Kn.le.refl _, ⟨rfl, rfl, trivial⟩⟩, ?_⟩
            refine any_one 7 (by kernel_rfl) rfl (by kernel_rfl) (w_buildSlice (parts := []) [] rfl rfl Try.underlying38 sz9 zo9 rfl rfl rfl rfl rfl (fun b38 => ?_))
            refine ⟨⟨Kn.le.refl _, ⟨rfl, rfl, trivial⟩⟩, ?_⟩
            obtain ⟨z39, hz39⟩ := getI (xs := g.q.items) (i := r37) (by first | omega | (simp; done) | (simp; omega)) (by first | omega | (simp; done) | (simp; omega))
            obtain ⟨bb40, _, hp40, ⟨qi40, ci40, rfl, hi40, hb40, hb40b⟩, hw40, hc40⟩ := hv.row hz39
            have hi40n := hi40.len
            refine any_take 8 rfl (by kernel_rfl) rfl (q_ofI fun D B L hI => w_ixP hp40 rfl rfl Try.underlying27 sz47 rfl rfl (by first | omega | (simp; done) | (simp; omega)) (by first | omega | (simp; done) | (simp; omega)) ⟨rfl, rfl, rfl, rfl⟩) ?_
            refine any_take 9 rfl (by kernel_rfl) rfl (q_ofI fun D B L hI => w_fieldAddr rfl rfl fo47x3 rfl ⟨rfl, rfl, rfl, rfl⟩) ?_
            refine any_fin 10 (by kernel_rfl) rfl (by kernel_rfl) (by kernel_rfl) (by kernel_rfl) (w_stO (k := (r37).toNat) (off := 3) (⟨z39.id, z39.fr, z39.text, []⟩) [_] 2 hv hp40 hz39 rfl rfl sz38 rfl rfl rfl rfl rfl rfl (by rintro _ ⟨_, _, rfl, _, e1, e2⟩; exact ⟨_, _, rfl, SlK.nil, e1, e2⟩) (fun l41 hv41 => ?_))
            refine inB_n (thn_n ?_)
            refine w_pubK 2 rfl hv41 ItemR.mono (by first | omega | decide | (simp; done) | (simp; omega)) (fun B42 hle42 hr42 => ?_)
            replace hi40 := hi40.mono StrR.mono hle42
            replace hbm := hbm.mono hle42
            have hr42n := hr42.len
            refine w_seq_region ?_
            refine opW_x (w_loadN [_, _] rfl rfl lk29 rfl (rowL 3 rfl rfl rfl) ?_)
            refine opW_x (w_store [_, _] 1 [_, _] rfl rfl sz29 rfl rfl rfl rfl rfl rfl rfl rfl ?_)
            refine w_tidy [(0, _), (2, _), (3, _), (4, _), (5, _), (17, _), (58, _), (59, _), (67, _), (72, _)] [_, _, _, _, _] ⟨rfl, rfl, rfl, rfl, rfl, rfl, rfl, rfl, rfl, rfl, trivial⟩ rfl ?_
            refine w_ret ?_
            exact endN .ret (.inl rfl) [_] [0] rfl ⟨⟨_, rfl, .inr ⟨[_, _], lk29, rowL 1 rfl rfl rfl, rfl⟩⟩, trivial⟩ ⟨_, _, ⟨g.q.next, (g.q.items.set ((r37).toNat) (⟨z39.id, z39.fr, z39.text, []⟩))⟩, _, (by first | rfl | (simp only [List.length_set]; rfl)), hr42, by omega, rfl⟩
          · skip
            refine (w_buildSlice (parts := []) [] rfl rfl Try.underlying38 sz9 zo9 rfl rfl rfl rfl rfl (fun b43 => ?_))
            refine ⟨⟨Kn.le.refl _, ⟨rfl, rfl, trivial⟩⟩, ?_⟩
            refine any_one 6 (by kernel_rfl) rfl (by kernel_rfl) (w_ex1 0 rfl rfl rfl en77 rfl (pick_c _ _ _ _ _ _ (by omega) (by omega) (by omega) hm _ hbm) ?_)
            rintro _ _ ⟨r44, rfl, r44a, r44b, rfl⟩
            refine ⟨⟨Kn.le.refl _, ⟨rfl, rfl, trivial⟩⟩, ?_⟩
            obtain ⟨z45, hz45⟩ := getI (xs := g.q.items) (i := r44) (by first | omega | (simp; done) | (simp; omega)) (by first | omega | (simp; done) | (simp; omega))
            obtain ⟨bb46, _, hp46, ⟨qi46, ci46, rfl, hi46, hb46, hb46b⟩, hw46, hc46⟩ := hv.row hz45
            have hi46n := hi46.len
            refine any_take 8 rfl (by kernel_rfl) rfl (q_ofI fun D B L hI => w_ixP hp46 rfl rfl Try.underlying27 sz47 rfl rfl (by first | omega | (simp; done) | (simp; omega)) (by first | omega | (simp; done) | (simp; omega)) ⟨rfl, rfl, rfl, rfl⟩) ?_
            refine any_take 9 rfl (by kernel_rfl) rfl (q_ofI fun D B L hI => w_fieldAddr rfl rfl fo47x3 rfl ⟨rfl, rfl, rfl, rfl⟩) ?_
            refine any_fin 10 (by kernel_rfl) rfl (by kernel_rfl) (by kernel_rfl) (by kernel_rfl) (w_stO (k := (r44).toNat) (off := 3) (⟨z45.id, z45.fr, z45.text, []⟩) [_] 2 hv hp46 hz45 rfl rfl sz38 rfl rfl rfl rfl rfl rfl (by rintro _ ⟨_, _, rfl, _, e1, e2⟩; exact ⟨_, _, rfl, SlK.nil, e1, e2⟩) (fun l47 hv47 => ?_))
            refine inB_n (thn_n ?_)
            refine w_pubK 2 rfl hv47 ItemR.mono (by first | omega | decide | (simp; done) | (simp; omega)) (fun B48 hle48 hr48 => ?_)
            replace hi46 := hi46.mono StrR.mono hle48
            replace hbm := hbm.mono hle48
            have hr48n := hr48.len
            refine w_seq_region ?_
            refine opW_x (w_loadN [_, _] rfl rfl lk29 rfl (rowL 3 rfl rfl rfl) ?_)
            refine opW_x (w_store [_, _] 1 [_, _] rfl rfl sz29 rfl rfl rfl rfl rfl rfl rfl rfl ?_)
            refine w_tidy [(0, _), (2, _), (3, _), (4, _), (5, _), (17, _), (58, _), (59, _), (67, _), (72, _)] [_, _, _, _, _] ⟨rfl, rfl, rfl, rfl, rfl, rfl, rfl, rfl, rfl, rfl, trivial⟩ rfl ?_
            refine w_ret ?_
            exact endN .ret (.inl rfl) [_] [0] rfl ⟨⟨_, rfl, .inr ⟨[_, _], lk29, rowL 1 rfl rfl rfl, rfl⟩⟩, trivial⟩ ⟨_, _, ⟨g.q.next, (g.q.items.set ((r44).toNat) (⟨z45.id, z45.fr, z45.text, []⟩))⟩, _, (by first | rfl | (simp only [List.length_set]; rfl)), hr48, by omega, rfl⟩
        · try simp only [decide_eq_true_eq, decide_eq_false_iff_not, Bool.not_eq_true', Bool.not_eq_false', decide_not, Decidable.not_not, Int.not_lt, Int.not_le, ne_eq] at g4
          refine w_skip ?_
          refine inB_n (thn_n ?_)
          refine w_pubK 2 rfl hv ItemR.mono (by first | omega | decide | (simp; done) | (simp; omega)) (fun B49 hle49 hr49 => ?_)
          replace hbm := hbm.mono hle49
          have hr49n := hr49.len
          refine w_seq_region ?_
          refine opW_x (w_loadN [_, _] rfl rfl lk29 rfl (rowL 3 rfl rfl rfl) ?_)
          refine opW_x (w_store [_, _] 1 [_, _] rfl rfl sz29 rfl rfl rfl rfl rfl rfl rfl rfl ?_)
          refine w_tidy [(0, _), (2, _), (3, _), (4, _), (5, _), (17, _), (58, _), (59, _), (67, _), (72, _)] [_, _, _, _] ⟨rfl, rfl, rfl, rfl, rfl, rfl, rfl, rfl, rfl, rfl, trivial⟩ rfl ?_
          refine w_ret ?_
          exact endN .ret (.inl rfl) [_] [0] rfl ⟨⟨_, rfl, .inr ⟨[_, _], lk29, rowL 1 rfl rfl rfl, rfl⟩⟩, trivial⟩ ⟨_, _, g.q, _, (by first | rfl | (simp only [List.length_set]; rfl)), hr49, by omega, rfl⟩
      · try simp only [decide_eq_true_eq, decide_eq_false_iff_not, Bool.not_eq_true', Bool.not_eq_false', decide_not, Decidable.not_not, Int.not_lt, Int.not_le, ne_eq] at g3
        refine w_skip ?_
        refine inB_n (thn_n ?_)
        refine w_pubK 2 rfl hv ItemR.mono (by first | omega | decide | (simp; done) | (simp; omega)) (fun B50 hle50 hr50 => ?_)
        replace hbm := hbm.mono hle50
        have hr50n := hr50.len
        refine w_seq_region ?_
        refine opW_x (w_loadN [_, _] rfl rfl lk29 rfl (rowL 3 rfl rfl rfl) ?_)
        refine opW_x (w_store [_, _] 1 [_, _] rfl rfl sz29 rfl rfl rfl rfl rfl rfl rfl rfl ?_)
        refine w_tidy [(0, _), (2, _), (3, _), (4, _), (5, _), (17, _), (58, _), (59, _), (67, _)] [_, _, _, _] ⟨rfl, rfl, rfl, rfl, rfl, rfl, rfl, rfl, rfl, trivial⟩ rfl ?_
        refine w_ret ?_
        exact endN .ret (.inl rfl) [_] [0] rfl ⟨⟨_, rfl, .inr ⟨[_, _], lk29, rowL 1 rfl rfl rfl, rfl⟩⟩, trivial⟩ ⟨_, _, g.q, _, (by first | rfl | (simp only [List.length_set]; rfl)), hr50, by omega, rfl⟩

set_option maxRecDepth 4000 in
set_option maxHeartbeats 400000 in
theorem drawQA_c (q : Option Addr) (m cp : Nat) (hmc : m ≤ cp) (B : Kn) (hb : BytesAt B q m) : CallsB Try.prog 22 [.slice q m cp] B [] (fun v B' Ls => Ls = [] ∧ ∃ (aq : Option Addr) (cq : Nat) (qq : DQueue) (qx : Option Addr) (cx : Nat) (x : DLetter), v = .tuple #[.agg #[.int .i64 qq.next, .slice aq qq.items.length cq], .agg #[str x.fr, .slice qx x.to_.length cx, str x.text]] ∧ SlK B' aq cq 4 ItemR qq.items ∧ SlK B' qx cx 1 StrR x.to_ ∧ x.fr.length ≤ 40 ∧ x.text.length ≤ 40) := by
  refine callsB_body 13 Try.func22 rfl rfl rfl (Nat.le_of_ble_eq_true rfl) ?_
  refine w_seq_region ?_
  refine opW_x (w_alloc (l := [_, _]) rfl rfl zo29 rfl (fun b1 => ?_))
  refine opW_x (w_alloc (l := [_, _, _]) rfl rfl zo40 rfl (fun b2 => ?_))
  refine w_tidy [(0, _), (2, _), (3, _)] [_, _] ⟨rfl, rfl, rfl, trivial⟩ rfl ?_
  refine w_seq_region ?_
  refine opW_x (w_move rfl rfl rfl ?_)
  refine opW_x (w_new1 rfl rfl en52 rfl (l6Open_c _ _ _ (by omega) _ (by assumption)) ?_)
  rintro _ _ ⟨bu, qu, mu, cpu, rfl, rfl, hm, hbm⟩
  refine opW_x (w_assign rfl rfl rfl ?_)
  refine w_tidy [(0, _), (2, _), (3, _), (4, _)] [_, _, _] ⟨rfl, rfl, rfl, rfl, trivial⟩ rfl ?_
  refine w_seq_region ?_
  refine opW_x (w_move rfl rfl rfl ?_)
  refine opW_x (w_callN [2] rfl rfl rfl rfl en62 rfl (l92Queue_c _ _ _ _ _ (by omega) hm _ hbm) ?_)
  rintro _ Bv _ hlev ⟨aqv, cqv, qqv, pv, rfl, hqv, hpv, rfl⟩
  replace hbm := hbm.mono hlev
  have hqvn := hqv.len
  refine opW_x (w_alloc (l := [_, _]) rfl rfl zo29 rfl (fun b5 => ?_))
  refine opW_x (w_store [_, _] 3 [_, _] rfl rfl sz29 rfl rfl rfl rfl rfl rfl rfl rfl ?_)
  refine w_tidy [(0, _), (2, _), (3, _), (4, _), (5, _)] [_, _, _, _] ⟨rfl, rfl, rfl, rfl, rfl, trivial⟩ rfl ?_
  refine w_seq ?_
  refine w_draw (keeps _ [3] _) mo (by kernel_rfl) ⟨Kn.le.refl _, keepsL.refl _ _⟩ ?_
  refine any_take 0 rfl (by kernel_rfl) rfl (q_ofI fun D B L hI => w_loadN [_, _] rfl rfl lk29 rfl (rowL 3 (hI.2.1.trans rfl) rfl rfl) ⟨rfl, rfl, rfl, rfl⟩) ?_
  refine any_takeP 1 rfl (by kernel_rfl) rfl (fun D B L => w_move rfl rfl rfl ⟨rfl, rfl, rfl, rfl⟩) ?_
  refine any_one 2 (by kernel_rfl) rfl (by kernel_rfl) (w_callN [2] rfl rfl rfl rfl en63 rfl (l92Letter_c _ _ _ _ _ (by omega) hm _ hbm) ?_)
  rintro _ Bw _ hlew ⟨qxw, cxw, xw, pw, rfl, htw, hfw, hww, htnw, hpw, rfl⟩
  replace hqv := hqv.mono ItemR.mono hlew
  replace hbm := hbm.mono hlew
  refine ⟨⟨hlew, ⟨rfl, trivial⟩⟩, ?_⟩
  refine any_sto 3 (by kernel_rfl) rfl (by kernel_rfl) (by kernel_rfl) (w_store [_, _] 0 [_, _] rfl rfl sz29 rfl rfl rfl rfl rfl rfl rfl rfl ?_)
  refine any_fin 4 (by kernel_rfl) rfl (by kernel_rfl) (by kernel_rfl) (by kernel_rfl) (w_store [_, _, _] 1 [_, _, _] rfl rfl sz40 rfl rfl rfl rfl rfl rfl rfl rfl ?_)
  refine thn_n ?_
  refine w_tidy [(0, _), (2, _), (3, _), (4, _), (5, _)] [_, _, _, _] ⟨rfl, rfl, rfl, rfl, rfl, trivial⟩ rfl ?_
  refine w_ret ?_
  exact endN .ret (.inl rfl) [_, _] [] rfl ⟨⟨_, rfl, .inr ⟨[_, _], lk29, rowL 0 rfl rfl rfl, rfl⟩⟩, ⟨_, rfl, .inr ⟨[_, _, _], lk40, rowL 1 rfl rfl rfl, rfl⟩⟩, trivial⟩ ⟨rfl, _, _, qqv, _, _, xw, rfl, hqv, htw, hfw, hww⟩

set_option maxRecDepth 4000 in
set_option maxHeartbeats 400000 in
theorem drawQT_c (q : Option Addr) (m cp : Nat) (hmc : m ≤ cp) (B : Kn) (hb : BytesAt B q m) : CallsB Try.prog 34 [.slice q m cp] B [] (fun v B' Ls => Ls = [] ∧ ∃ (aq : Option Addr) (cq : Nat) (qq : DQueue) (id : Int) (u : Str), v = .tuple #[.agg #[.int .i64 qq.next, .slice aq qq.items.length cq], .int .i64 id, str u] ∧ SlK B' aq cq 4 ItemR qq.items ∧ u.length ≤ 2000000) := by
  refine callsB_body 61 Try.func34 rfl rfl rfl (Nat.le_of_ble_eq_true rfl) ?_
  refine w_seq_region ?_
  refine opW_x (w_alloc (l := [_, _]) rfl rfl zo29 rfl (fun b1 => ?_))
  refine opW_x (w_assign rfl rfl rfl ?_)
  refine opW_x (w_assign rfl rfl rfl ?_)
  refine w_tidy [(0, _), (2, _), (3, _), (4, _)] [_] ⟨rfl, rfl, rfl, rfl, trivial⟩ rfl ?_
  refine w_seq_region ?_
  refine opW_x (w_move rfl rfl rfl ?_)
  refine opW_x (w_new1 rfl rfl en52 rfl (l6Open_c _ _ _ (by omega) _ (by assumption)) ?_)
  rintro _ _ ⟨bu, qu, mu, cpu, rfl, rfl, hm, hbm⟩
  refine opW_x (w_assign rfl rfl rfl ?_)
  refine w_tidy [(0, _), (2, _), (3, _), (4, _), (5, _)] [_, _] ⟨rfl, rfl, rfl, rfl, rfl, trivial⟩ rfl ?_
  refine w_seq_region ?_
  refine opW_x (w_move rfl rfl rfl ?_)
  refine opW_x (w_callN [1] rfl rfl rfl rfl en62 rfl (l92Queue_c _ _ _ _ _ (by omega) hm _ hbm) ?_)
  rintro _ Bv _ hlev ⟨aqv, cqv, qqv, pv, rfl, hqv, hpv, rfl⟩
  replace hbm := hbm.mono hlev
  have hqvn := hqv.len
  refine opW_x (w_alloc (l := [_, _]) rfl rfl zo29 rfl (fun b4 => ?_))
  refine opW_x (w_store [_, _] 2 [_, _] rfl rfl sz29 rfl rfl rfl rfl rfl rfl rfl rfl ?_)
  refine w_tidy [(0, _), (2, _), (3, _), (4, _), (5, _), (6, _)] [_, _, _] ⟨rfl, rfl, rfl, rfl, rfl, rfl, trivial⟩ rfl ?_
  refine w_seq ?_
  refine w_seq_region ?_
  refine opW_x (w_fieldAddr rfl rfl fo29x1 rfl ?_)
  refine opW_x (w_load1 rfl rfl lk27 rfl (atL 2 rfl rfl rfl) ?_)
  refine opW_x (w_lenV rfl rfl Try.underlying27 rfl ?_)
  refine opW_x (w_gtr rfl rfl rfl rfl ?_)
  refine opW_x (w_move rfl rfl rfl ?_)
  refine r_split (d := 16) rfl (fun g1 => ?_) (fun g1 => ?_)
  · try simp only [decide_eq_true_eq, decide_eq_false_iff_not, Bool.not_eq_true', Bool.not_eq_false', decide_not, Decidable.not_not, Int.not_lt, Int.not_le, ne_eq] at g1
    refine opW_x (w_move rfl rfl rfl ?_)
    refine opW_x (w_ex1 1 rfl rfl rfl en77 rfl (pick_c _ _ _ _ _ _ (by omega) (by omega) (by omega) hm _ hbm) ?_)
    rintro _ _ ⟨r5, rfl, r5a, r5b, rfl⟩
    refine opW_x (w_gtr rfl rfl rfl rfl ?_)
    refine opW_x (w_pickT rfl rfl rfl rfl ?_)
    refine w_tidy [(0, _), (2, _), (3, _), (4, _), (5, _), (6, _), (20, _)] [_, _, _] ⟨rfl, rfl, rfl, rfl, rfl, rfl, rfl, trivial⟩ rfl ?_
    refine w_cond rfl (fun g2 => ?_) (fun g2 => ?_)
    · try simp only [decide_eq_true_eq, decide_eq_false_iff_not, Bool.not_eq_true', Bool.not_eq_false', decide_not, Decidable.not_not, Int.not_lt, Int.not_le, ne_eq] at g2
      refine w_seq ?_
      refine w_draw (keeps _ [2] _) mo (by kernel_rfl) ⟨Kn.le.refl _, keepsL.refl _ _⟩ ?_
      refine any_take 0 rfl (by kernel_rfl) rfl (q_ofI fun D B L hI => w_fieldAddr rfl rfl fo29x1 rfl ⟨rfl, rfl, rfl, rfl⟩) ?_
      refine any_take 1 rfl (by kernel_rfl) rfl (q_ofI fun D B L hI => w_load1 rfl rfl lk27 rfl (atL 2 (hI.2.1.trans rfl) rfl rfl) ⟨rfl, rfl, rfl, rfl⟩) ?_
      refine any_takeP 2 rfl (by kernel_rfl) rfl (fun D B L => w_move rfl rfl rfl ⟨rfl, rfl, rfl, rfl⟩) ?_
      refine any_take 3 rfl (by kernel_rfl) rfl (q_ofI fun D B L hI => w_fieldAddr rfl rfl fo29x1 rfl ⟨rfl, rfl, rfl, rfl⟩) ?_
      refine any_take 4 rfl (by kernel_rfl) rfl (q_ofI fun D B L hI => w_load1 rfl rfl lk27 rfl (atL 2 (hI.2.1.trans rfl) rfl rfl) ⟨rfl, rfl, rfl, rfl⟩) ?_
      refine any_take 5 rfl (by kernel_rfl) rfl (q_ofI fun D B L hI => w_lenV rfl rfl Try.underlying27 rfl ⟨rfl, rfl, rfl, rfl⟩) ?_
      refine any_all [6, 9] (by kernel_rfl) (by kernel_rfl) (by kernel_rfl) ⟨?_, ?_⟩
      · skip
        refine (w_ex1 1 rfl rfl rfl en77 rfl (pick_c _ _ _ _ _ _ (by omega) (by omega) (by omega) hm _ hbm) ?_)
        rintro _ _ ⟨r6, rfl, r6a, r6b, rfl⟩
        refine ⟨⟨Kn.le.refl _, ⟨rfl, trivial⟩⟩, ?_⟩
        obtain ⟨z7, hz7⟩ := getI (xs := qqv.items) (i := r6) (by first | omega | (simp; done) | (simp; omega)) (by first | omega | (simp; done) | (simp; omega))
        obtain ⟨bb8, oo8, rfl⟩ := hqv.base hz7
        obtain ⟨_, ⟨qi9, ci9, rfl, hi9, hb9, hb9b⟩, hc9⟩ := hqv.elem hz7
        have hi9n := hi9.len
        refine any_take 7 rfl (by kernel_rfl) rfl (q_ofI fun D B L hI => w_ixB rfl rfl Try.underlying27 sz47 rfl rfl (by first | omega | (simp; done) | (simp; omega)) (by first | omega | (simp; done) | (simp; omega)) ⟨rfl, rfl, rfl, rfl⟩) ?_
        refine any_take 8 rfl (by kernel_rfl) rfl (q_ofI fun D B L hI => w_loadN [_, _, _, _] rfl rfl lk47 rfl (rowK (hc9.mono hI.1) 0 rfl rfl) ⟨rfl, rfl, rfl, rfl⟩) ?_
        refine any_one 9 (by kernel_rfl) rfl (by kernel_rfl) (w_alloc (l := [_, _, _, _]) rfl rfl zo47 rfl (fun b10 => ?_))
        refine ⟨⟨Kn.le.refl _, ⟨rfl, trivial⟩⟩, ?_⟩
        refine any_fin 10 (by kernel_rfl) rfl (by kernel_rfl) (by kernel_rfl) (by kernel_rfl) (w_store [_, _, _, _] 3 [_, _, _, _] rfl rfl sz47 rfl rfl rfl rfl rfl rfl rfl rfl ?_)
        refine thn_n ?_
        refine w_tidy [(0, _), (2, _), (3, _), (4, _), (5, _), (6, _), (7, _), (20, _)] [_, _, _, _] ⟨rfl, rfl, rfl, rfl, rfl, rfl, rfl, rfl, trivial⟩ rfl ?_
        refine w_seq ?_
        refine w_seq_region ?_
        refine opW_x (w_fieldAddr rfl rfl fo47x3 rfl ?_)
        refine opW_x (w_load1 rfl rfl lk38 rfl (atL 3 rfl rfl rfl) ?_)
        refine opW_x (w_lenV rfl rfl Try.underlying38 rfl ?_)
        refine opW_x (w_gtr rfl rfl rfl rfl ?_)
        refine opW_x (w_move rfl rfl rfl ?_)
        refine r_split (d := 34) rfl (fun g3 => ?_) (fun g3 => ?_)
        · try simp only [decide_eq_true_eq, decide_eq_false_iff_not, Bool.not_eq_true', Bool.not_eq_false', decide_not, Decidable.not_not, Int.not_lt, Int.not_le, ne_eq] at g3
          refine opW_x (w_move rfl rfl rfl ?_)
          refine opW_x (w_ex1 1 rfl rfl rfl en77 rfl (pick_c _ _ _ _ _ _ (by omega) (by omega) (by omega) hm _ hbm) ?_)
          rintro _ _ ⟨r11, rfl, r11a, r11b, rfl⟩
          refine opW_x (w_gtr rfl rfl rfl rfl ?_)
          refine opW_x (w_pickT rfl rfl rfl rfl ?_)
          refine w_tidy [(0, _), (2, _), (3, _), (4, _), (5, _), (6, _), (7, _), (20, _), (38, _)] [_, _, _, _] ⟨rfl, rfl, rfl, rfl, rfl, rfl, rfl, rfl, rfl, trivial⟩ rfl ?_
          refine w_cond rfl (fun g4 => ?_) (fun g4 => ?_)
          · try simp only [decide_eq_true_eq, decide_eq_false_iff_not, Bool.not_eq_true', Bool.not_eq_false', decide_not, Decidable.not_not, Int.not_lt, Int.not_le, ne_eq] at g4
            refine w_seq ?_
            refine w_draw (keeps _ [2, 3] _) mo (by kernel_rfl) ⟨Kn.le.refl _, keepsL.refl _ _⟩ ?_
            refine any_take 0 rfl (by kernel_rfl) rfl (q_ofI fun D B L hI => w_loadN [_, _] rfl rfl lk29 rfl (rowL 2 (hI.2.1.trans rfl) rfl rfl) ⟨rfl, rfl, rfl, rfl⟩) ?_
            refine any_take 1 rfl (by kernel_rfl) rfl (q_ofI fun D B L hI => w_fieldAddr rfl rfl fo47x0 rfl ⟨rfl, rfl, rfl, rfl⟩) ?_
            refine any_take 2 rfl (by kernel_rfl) rfl (q_ofI fun D B L hI => w_load1 rfl rfl lk3 rfl (atL 3 (hI.2.2.1.trans rfl) rfl rfl) ⟨rfl, rfl, rfl, rfl⟩) ?_
            refine any_take 3 rfl (by kernel_rfl) rfl (q_ofI fun D B L hI => w_fieldAddr rfl rfl fo47x3 rfl ⟨rfl, rfl, rfl, rfl⟩) ?_
            refine any_take 4 rfl (by kernel_rfl) rfl (q_ofI fun D B L hI => w_load1 rfl rfl lk38 rfl (atL 3 (hI.2.2.1.trans rfl) rfl rfl) ⟨rfl, rfl, rfl, rfl⟩) ?_
            refine any_takeP 5 rfl (by kernel_rfl) rfl (fun D B L => w_move rfl rfl rfl ⟨rfl, rfl, rfl, rfl⟩) ?_
            refine any_take 6 rfl (by kernel_rfl) rfl (q_ofI fun D B L hI => w_fieldAddr rfl rfl fo47x3 rfl ⟨rfl, rfl, rfl, rfl⟩) ?_
            refine any_take 7 rfl (by kernel_rfl) rfl (q_ofI fun D B L hI => w_load1 rfl rfl lk38 rfl (atL 3 (hI.2.2.1.trans rfl) rfl rfl) ⟨rfl, rfl, rfl, rfl⟩) ?_
            refine any_take 8 rfl (by kernel_rfl) rfl (q_ofI fun D B L hI => w_lenV rfl rfl Try.underlying38 rfl ⟨rfl, rfl, rfl, rfl⟩) ?_
            refine any_one 9 (by kernel_rfl) rfl (by kernel_rfl) (w_ex1 1 rfl rfl rfl en77 rfl (pick_c _ _ _ _ _ _ (by omega) (by omega) (by omega) hm _ hbm) ?_)
            rintro _ _ ⟨r12, rfl, r12a, r12b, rfl⟩
            refine ⟨⟨Kn.le.refl _, ⟨rfl, rfl, trivial⟩⟩, ?_⟩
            obtain ⟨z13, hz13⟩ := getI (xs := z7.left) (i := r12) (by first | omega | (simp; done) | (simp; omega)) (by first | omega | (simp; done) | (simp; omega))
            obtain ⟨bb14, oo14, rfl⟩ := hi9.base hz13
            obtain ⟨_, ⟨rfl, hb15⟩, hc15⟩ := hi9.elem hz13
            refine any_take 10 rfl (by kernel_rfl) rfl (q_ofI fun D B L hI => w_ixB rfl rfl Try.underlying38 sz9 rfl rfl (by first | omega | (simp; done) | (simp; omega)) (by first | omega | (simp; done) | (simp; omega)) ⟨rfl, rfl, rfl, rfl⟩) ?_
            refine any_take 11 rfl (by kernel_rfl) rfl (q_ofI fun D B L hI => w_load1 rfl rfl lk9 rfl ((hc15.mono hI.1) _ 0 _ rfl) ⟨rfl, rfl, rfl, rfl⟩) ?_
            refine any_one 12 (by kernel_rfl) rfl (by kernel_rfl) (w_store [_, _] 0 [_, _] rfl rfl sz29 rfl rfl rfl rfl rfl rfl rfl rfl ?_)
            refine ⟨⟨Kn.le.refl _, ⟨rfl, rfl, trivial⟩⟩, ?_⟩
            refine any_takeP 13 rfl (by kernel_rfl) rfl (fun D B L => w_assign rfl rfl rfl ⟨rfl, rfl, rfl, rfl⟩) ?_
            refine any_takeP 14 rfl (by kernel_rfl) rfl (fun D B L => w_assign rfl rfl rfl ⟨rfl, rfl, rfl, rfl⟩) ?_
            refine any_done (by kernel_rfl) (by kernel_rfl) ?_
            refine thn_n ?_
            refine w_tidy [(0, _), (2, _), (3, _), (4, _), (5, _), (6, _), (7, _), (20, _), (38, _)] [_, _, _, _] ⟨rfl, rfl, rfl, rfl, rfl, rfl, rfl, rfl, rfl, trivial⟩ rfl ?_
            refine w_ret (thn_r (thn_r ?_))
            exact endN .ret (.inl rfl) [_, _, _] [] rfl ⟨⟨_, rfl, .inr ⟨[_, _], lk29, rowL 0 rfl rfl rfl, rfl⟩⟩, rfl, rfl, trivial⟩ ⟨rfl, _, _, qqv, _, _, rfl, hqv, by first | omega | (simp; omega)⟩
          · try simp only [decide_eq_true_eq, decide_eq_false_iff_not, Bool.not_eq_true', Bool.not_eq_false', decide_not, Decidable.not_not, Int.not_lt, Int.not_le, ne_eq] at g4
            refine w_skip ?_
            refine thn_n ?_
            refine w_seq ?_
            refine w_draw (keeps _ [2, 3] _) mo (by kernel_rfl) ⟨Kn.le.refl _, keepsL.refl _ _⟩ ?_
            refine any_take 0 rfl (by kernel_rfl) rfl (q_ofI fun D B L hI => w_loadN [_, _] rfl rfl lk29 rfl (rowL 2 (hI.2.1.trans rfl) rfl rfl) ⟨rfl, rfl, rfl, rfl⟩) ?_
            refine any_take 1 rfl (by kernel_rfl) rfl (q_ofI fun D B L hI => w_fieldAddr rfl rfl fo47x0 rfl ⟨rfl, rfl, rfl, rfl⟩) ?_
            refine any_take 2 rfl (by kernel_rfl) rfl (q_ofI fun D B L hI => w_load1 rfl rfl lk3 rfl (atL 3 (hI.2.2.1.trans rfl) rfl rfl) ⟨rfl, rfl, rfl, rfl⟩) ?_
            refine any_takeP 3 rfl (by kernel_rfl) rfl (fun D B L => w_move rfl rfl rfl ⟨rfl, rfl, rfl, rfl⟩) ?_
            refine any_one 4 (by kernel_rfl) rfl (by kernel_rfl) (w_ex1 1 rfl rfl rfl en78 rfl (l91Name_c _ _ _ _ _ (by omega) hm _ hbm) ?_)
            rintro _ _ ⟨x16, rfl, hx16, rfl⟩
            refine ⟨⟨Kn.le.refl _, ⟨rfl, rfl, trivial⟩⟩, ?_⟩
            refine any_one 5 (by kernel_rfl) rfl (by kernel_rfl) (w_store [_, _] 0 [_, _] rfl rfl sz29 rfl rfl rfl rfl rfl rfl rfl rfl ?_)
            refine ⟨⟨Kn.le.refl _, ⟨rfl, rfl, trivial⟩⟩, ?_⟩
            refine any_takeP 6 rfl (by kernel_rfl) rfl (fun D B L => w_assign rfl rfl rfl ⟨rfl, rfl, rfl, rfl⟩) ?_
            refine any_takeP 7 rfl (by kernel_rfl) rfl (fun D B L => w_assign rfl rfl rfl ⟨rfl, rfl, rfl, rfl⟩) ?_
            refine any_done (by kernel_rfl) (by kernel_rfl) ?_
            refine thn_n ?_
            refine w_tidy [(0, _), (2, _), (3, _), (4, _), (5, _), (6, _), (7, _), (20, _), (38, _)] [_, _, _, _] ⟨rfl, rfl, rfl, rfl, rfl, rfl, rfl, rfl, rfl, trivial⟩ rfl ?_
            refine w_ret (thn_r ?_)
            exact endN .ret (.inl rfl) [_, _, _] [] rfl ⟨⟨_, rfl, .inr ⟨[_, _], lk29, rowL 0 rfl rfl rfl, rfl⟩⟩, rfl, rfl, trivial⟩ ⟨rfl, _, _, qqv, _, _, rfl, hqv, by first | omega | (simp; omega)⟩
        · try simp only [decide_eq_true_eq, decide_eq_false_iff_not, Bool.not_eq_true', Bool.not_eq_false', decide_not, Decidable.not_not, Int.not_lt, Int.not_le, ne_eq] at g3
          refine opW_x (w_pass rfl rfl ?_)
          refine opW_x (w_pass rfl rfl ?_)
          refine opW_x (w_pass rfl rfl ?_)
          refine opW_x (w_pickF rfl rfl rfl rfl ?_)
          refine w_keep [(0, _), (2, _), (3, _), (4, _), (5, _), (6, _), (7, _), (20, _), (38, _)] ⟨rfl, rfl, rfl, rfl, rfl, rfl, rfl, rfl, rfl, trivial⟩ ?_
          refine w_cond (t := false) rfl (fun h => Bool.noConfusion h) (fun _ => ?_)
          refine w_skip ?_
          refine thn_n ?_
          refine w_seq ?_
          refine w_draw (keeps _ [2, 3] _) mo (by kernel_rfl) ⟨Kn.le.refl _, keepsL.refl _ _⟩ ?_
          refine any_take 0 rfl (by kernel_rfl) rfl (q_ofI fun D B L hI => w_loadN [_, _] rfl rfl lk29 rfl (rowL 2 (hI.2.1.trans rfl) rfl rfl) ⟨rfl, rfl, rfl, rfl⟩) ?_
          refine any_take 1 rfl (by kernel_rfl) rfl (q_ofI fun D B L hI => w_fieldAddr rfl rfl fo47x0 rfl ⟨rfl, rfl, rfl, rfl⟩) ?_
          refine any_take 2 rfl (by kernel_rfl) rfl (q_ofI fun D B L hI => w_load1 rfl rfl lk3 rfl (atL 3 (hI.2.2.1.trans rfl) rfl rfl) ⟨rfl, rfl, rfl, rfl⟩) ?_
          refine any_takeP 3 rfl (by kernel_rfl) rfl (fun D B L => w_move rfl rfl rfl ⟨rfl, rfl, rfl, rfl⟩) ?_
          refine any_one 4 (by kernel_rfl) rfl (by kernel_rfl) (w_ex1 1 rfl rfl rfl en78 rfl (l91Name_c _ _ _ _ _ (by omega) hm _ hbm) ?_)
          rintro _ _ ⟨x17, rfl, hx17, rfl⟩
          refine ⟨⟨Kn.le.refl _, ⟨rfl, rfl, trivial⟩⟩, ?_⟩
          refine any_one 5 (by kernel_rfl) rfl (by kernel_rfl) (w_store [_, _] 0 [_, _] rfl rfl sz29 rfl rfl rfl rfl rfl rfl rfl rfl ?_)
          refine ⟨⟨Kn.le.refl _, ⟨rfl, rfl, trivial⟩⟩, ?_⟩
          refine any_takeP 6 rfl (by kernel_rfl) rfl (fun D B L => w_assign rfl rfl rfl ⟨rfl, rfl, rfl, rfl⟩) ?_
          refine any_takeP 7 rfl (by kernel_rfl) rfl (fun D B L => w_assign rfl rfl rfl ⟨rfl, rfl, rfl, rfl⟩) ?_
          refine any_done (by kernel_rfl) (by kernel_rfl) ?_
          refine thn_n ?_
          refine w_tidy [(0, _), (2, _), (3, _), (4, _), (5, _), (6, _), (7, _), (20, _), (38, _)] [_, _, _, _] ⟨rfl, rfl, rfl, rfl, rfl, rfl, rfl, rfl, rfl, trivial⟩ rfl ?_
          refine w_ret (thn_r ?_)
          exact endN .ret (.inl rfl) [_, _, _] [] rfl ⟨⟨_, rfl, .inr ⟨[_, _], lk29, rowL 0 rfl rfl rfl, rfl⟩⟩, rfl, rfl, trivial⟩ ⟨rfl, _, _, qqv, _, _, rfl, hqv, by first | omega | (simp; omega)⟩
      · skip
        refine (w_alloc (l := [_, _, _, _]) rfl rfl zo47 rfl (fun b18 => ?_))
        refine ⟨⟨Kn.le.refl _, ⟨rfl, trivial⟩⟩, ?_⟩
        refine any_one 6 (by kernel_rfl) rfl (by kernel_rfl) (w_ex1 1 rfl rfl rfl en77 rfl (pick_c _ _ _ _ _ _ (by omega) (by omega) (by omega) hm _ hbm) ?_)
        rintro _ _ ⟨r19, rfl, r19a, r19b, rfl⟩
        refine ⟨⟨Kn.le.refl _, ⟨rfl, trivial⟩⟩, ?_⟩
        obtain ⟨z20, hz20⟩ := getI (xs := qqv.items) (i := r19) (by first | omega | (simp; done) | (simp; omega)) (by first | omega | (simp; done) | (simp; omega))
        obtain ⟨bb21, oo21, rfl⟩ := hqv.base hz20
        obtain ⟨_, ⟨qi22, ci22, rfl, hi22, hb22, hb22b⟩, hc22⟩ := hqv.elem hz20
        have hi22n := hi22.len
        refine any_take 7 rfl (by kernel_rfl) rfl (q_ofI fun D B L hI => w_ixB rfl rfl Try.underlying27 sz47 rfl rfl (by first | omega | (simp; done) | (simp; omega)) (by first | omega | (simp; done) | (simp; omega)) ⟨rfl, rfl, rfl, rfl⟩) ?_
        refine any_take 8 rfl (by kernel_rfl) rfl (q_ofI fun D B L hI => w_loadN [_, _, _, _] rfl rfl lk47 rfl (rowK (hc22.mono hI.1) 0 rfl rfl) ⟨rfl, rfl, rfl, rfl⟩) ?_
        refine any_fin 10 (by kernel_rfl) rfl (by kernel_rfl) (by kernel_rfl) (by kernel_rfl) (w_store [_, _, _, _] 3 [_, _, _, _] rfl rfl sz47 rfl rfl rfl rfl rfl rfl rfl rfl ?_)
        refine thn_n ?_
        refine w_tidy [(0, _), (2, _), (3, _), (4, _), (5, _), (6, _), (7, _), (20, _)] [_, _, _, _] ⟨rfl, rfl, rfl, rfl, rfl, rfl, rfl, rfl, trivial⟩ rfl ?_
        refine w_seq ?_
        refine w_seq_region ?_
        refine opW_x (w_fieldAddr rfl rfl fo47x3 rfl ?_)
        refine opW_x (w_load1 rfl rfl lk38 rfl (atL 3 rfl rfl rfl) ?_)
        refine opW_x (w_lenV rfl rfl Try.underlying38 rfl ?_)
        refine opW_x (w_gtr rfl rfl rfl rfl ?_)
        refine opW_x (w_move rfl rfl rfl ?_)
        refine r_split (d := 34) rfl (fun g3 => ?_) (fun g3 => ?_)
        · try simp only [decide_eq_true_eq, decide_eq_false_iff_not, Bool.not_eq_true', Bool.not_eq_false', decide_not, Decidable.not_not, Int.not_lt, Int.not_le, ne_eq] at g3
          refine opW_x (w_move rfl rfl rfl ?_)
          refine opW_x (w_ex1 1 rfl rfl rfl en77 rfl (pick_c _ _ _ _ _ _ (by omega) (by omega) (by omega) hm _ hbm) ?_)
          rintro _ _ ⟨r23, rfl, r23a, r23b, rfl⟩
          refine opW_x (w_gtr rfl rfl rfl rfl ?_)
          refine opW_x (w_pickT rfl rfl rfl rfl ?_)
          refine w_tidy [(0, _), (2, _), (3, _), (4, _), (5, _), (6, _), (7, _), (20, _), (38, _)] [_, _, _, _] ⟨rfl, rfl, rfl, rfl, rfl, rfl, rfl, rfl, rfl, trivial⟩ rfl ?_
          refine w_cond rfl (fun g4 => ?_) (fun g4 => ?_)
          · try simp only [decide_eq_true_eq, decide_eq_false_iff_not, Bool.not_eq_true', Bool.not_eq_false', decide_not, Decidable.not_not, Int.not_lt, Int.not_le, ne_eq] at g4
            refine w_seq ?_
            refine w_draw (keeps _ [2, 3] _) mo (by kernel_rfl) ⟨Kn.le.refl _, keepsL.refl _ _⟩ ?_
            refine any_take 0 rfl (by kernel_rfl) rfl (q_ofI fun D B L hI => w_loadN [_, _] rfl rfl lk29 rfl (rowL 2 (hI.2.1.trans rfl) rfl rfl) ⟨rfl, rfl, rfl, rfl⟩) ?_
            refine any_take 1 rfl (by kernel_rfl) rfl (q_ofI fun D B L hI => w_fieldAddr rfl rfl fo47x0 rfl ⟨rfl, rfl, rfl, rfl⟩) ?_
            refine any_take 2 rfl (by kernel_rfl) rfl (q_ofI fun D B L hI => w_load1 rfl rfl lk3 rfl (atL 3 (hI.2.2.1.trans rfl) rfl rfl) ⟨rfl, rfl, rfl, rfl⟩) ?_
            refine any_take 3 rfl (by kernel_rfl) rfl (q_ofI fun D B L hI => w_fieldAddr rfl rfl fo47x3 rfl ⟨rfl, rfl, rfl, rfl⟩) ?_
            refine any_take 4 rfl (by kernel_rfl) rfl (q_ofI fun D B L hI => w_load1 rfl rfl lk38 rfl (atL 3 (hI.2.2.1.trans rfl) rfl rfl) ⟨rfl, rfl, rfl, rfl⟩) ?_
            refine any_takeP 5 rfl (by kernel_rfl) rfl (fun D B L => w_move rfl rfl rfl ⟨rfl, rfl, rfl, rfl⟩) ?_
            refine any_take 6 rfl (by kernel_rfl) rfl (q_ofI fun D B L hI => w_fieldAddr rfl rfl fo47x3 rfl ⟨rfl, rfl, rfl, rfl⟩) ?_
            refine any_take 7 rfl (by kernel_rfl) rfl (q_ofI fun D B L hI => w_load1 rfl rfl lk38 rfl (atL 3 (hI.2.2.1.trans rfl) rfl rfl) ⟨rfl, rfl, rfl, rfl⟩) ?_
            refine any_take 8 rfl (by kernel_rfl) rfl (q_ofI fun D B L hI => w_lenV rfl rfl Try.underlying38 rfl ⟨rfl, rfl, rfl, rfl⟩) ?_
            refine any_one 9 (by kernel_rfl) rfl (by kernel_rfl) (w_ex1 1 rfl rfl rfl en77 rfl (pick_c _ _ _ _ _ _ (by omega) (by omega) (by omega) hm _ hbm) ?_)
            rintro _ _ ⟨r24, rfl, r24a, r24b, rfl⟩
            refine ⟨⟨Kn.le.refl _, ⟨rfl, rfl, trivial⟩⟩, ?_⟩
            obtain ⟨z25, hz25⟩ := getI (xs := z20.left) (i := r24) (by first | omega | (simp; done) | (simp; omega)) (by first | omega | (simp; done) | (simp; omega))
            obtain ⟨bb26, oo26, rfl⟩ := hi22.base hz25
            obtain ⟨_, ⟨rfl, hb27⟩, hc27⟩ := hi22.elem hz25
            refine any_take 10 rfl (by kernel_rfl) rfl (q_ofI fun D B L hI => w_ixB rfl rfl Try.underlying38 sz9 rfl rfl (by first | omega | (simp; done) | (simp; omega)) (by first | omega | (simp; done) | (simp; omega)) ⟨rfl, rfl, rfl, rfl⟩) ?_
            refine any_take 11 rfl (by kernel_rfl) rfl (q_ofI fun D B L hI => w_load1 rfl rfl lk9 rfl ((hc27.mono hI.1) _ 0 _ rfl) ⟨rfl, rfl, rfl, rfl⟩) ?_
            refine any_one 12 (by kernel_rfl) rfl (by kernel_rfl) (w_store [_, _] 0 [_, _] rfl rfl sz29 rfl rfl rfl rfl rfl rfl rfl rfl ?_)
            refine ⟨⟨Kn.le.refl _, ⟨rfl, rfl, trivial⟩⟩, ?_⟩
            refine any_takeP 13 rfl (by kernel_rfl) rfl (fun D B L => w_assign rfl rfl rfl ⟨rfl, rfl, rfl, rfl⟩) ?_
            refine any_takeP 14 rfl (by kernel_rfl) rfl (fun D B L => w_assign rfl rfl rfl ⟨rfl, rfl, rfl, rfl⟩) ?_
            refine any_done (by kernel_rfl) (by kernel_rfl) ?_
            refine thn_n ?_
            refine w_tidy [(0, _), (2, _), (3, _), (4, _), (5, _), (6, _), (7, _), (20, _), (38, _)] [_, _, _, _] ⟨rfl, rfl, rfl, rfl, rfl, rfl, rfl, rfl, rfl, trivial⟩ rfl ?_
            refine w_ret (thn_r (thn_r ?_))
            exact endN .ret (.inl rfl) [_, _, _] [] rfl ⟨⟨_, rfl, .inr ⟨[_, _], lk29, rowL 0 rfl rfl rfl, rfl⟩⟩, rfl, rfl, trivial⟩ ⟨rfl, _, _, qqv, _, _, rfl, hqv, by first | omega | (simp; omega)⟩
          · try simp only [decide_eq_true_eq, decide_eq_false_iff_not, Bool.not_eq_true', Bool.not_eq_false', decide_not, Decidable.not_not, Int.not_lt, Int.not_le, ne_eq] at g4
            refine w_skip ?_
            refine thn_n ?_
            refine w_seq ?_
            refine w_draw (keeps _ [2, 3] _) mo (by kernel_rfl) ⟨Kn.le.refl _, keepsL.refl _ _⟩ ?_
            refine any_take 0 rfl (by kernel_rfl) rfl (q_ofI fun D B L hI => w_loadN [_, _] rfl rfl lk29 rfl (rowL 2 (hI.2.1.trans rfl) rfl rfl) ⟨rfl, rfl, rfl, rfl⟩) ?_
            refine any_take 1 rfl (by kernel_rfl) rfl (q_ofI fun D B L hI => w_fieldAddr rfl rfl fo47x0 rfl ⟨rfl, rfl, rfl, rfl⟩) ?_
            refine any_take 2 rfl (by kernel_rfl) rfl (q_ofI fun D B L hI => w_load1 rfl rfl lk3 rfl (atL 3 (hI.2.2.1.trans rfl) rfl rfl) ⟨rfl, rfl, rfl, rfl⟩) ?_
            refine any_takeP 3 rfl (by kernel_rfl) rfl (fun D B L => w_move rfl rfl rfl ⟨rfl, rfl, rfl, rfl⟩) ?_
            refine any_one 4 (by kernel_rfl) rfl (by kernel_rfl) (w_ex1 1 rfl rfl rfl en78 rfl (l91Name_c _ _ _ _ _ (by omega) hm _ hbm) ?_)
            rintro _ _ ⟨x28, rfl, hx28, rfl⟩
            refine ⟨⟨Kn.le.refl _, ⟨rfl, rfl, trivial⟩⟩, ?_⟩
            refine any_one 5 (by kernel_rfl) rfl (by kernel_rfl) (w_store [_, _] 0 [_, _] rfl rfl sz29 rfl rfl rfl rfl rfl rfl rfl rfl ?_)
            refine ⟨⟨Kn.le.refl _, ⟨rfl, rfl, trivial⟩⟩, ?_⟩
            refine any_takeP 6 rfl (by kernel_rfl) rfl (fun D B L => w_assign rfl rfl rfl ⟨rfl, rfl, rfl, rfl⟩) ?_
            refine any_takeP 7 rfl (by kernel_rfl) rfl (fun D B L => w_assign rfl rfl rfl ⟨rfl, rfl, rfl, rfl⟩) ?_
            refine any_done (by kernel_rfl) (by kernel_rfl) ?_
            refine thn_n ?_
            refine w_tidy [(0, _), (2, _), (3, _), (4, _), (5, _), (6, _), (7, _), (20, _), (38, _)] [_, _, _, _] ⟨rfl, rfl, rfl, rfl, rfl, rfl, rfl, rfl, rfl, trivial⟩ rfl ?_
            refine w_ret (thn_r ?_)
            exact endN .ret (.inl rfl) [_, _, _] [] rfl ⟨⟨_, rfl, .inr ⟨[_, _], lk29, rowL 0 rfl rfl rfl, rfl⟩⟩, rfl, rfl, trivial⟩ ⟨rfl, _, _, qqv, _, _, rfl, hqv, by first | omega | (simp; omega)⟩
        · try simp only [decide_eq_true_eq, decide_eq_false_iff_not, Bool.not_eq_true', Bool.not_eq_false', decide_not, Decidable.not_not, Int.not_lt, Int.not_le, ne_eq] at g3
          refine opW_x (w_pass rfl rfl ?_)
          refine opW_x (w_pass rfl rfl ?_)
          refine opW_x (w_pass rfl rfl ?_)
          refine opW_x (w_pickF rfl rfl rfl rfl ?_)
          refine w_keep [(0, _), (2, _), (3, _), (4, _), (5, _), (6, _), (7, _), (20, _), (38, _)] ⟨rfl, rfl, rfl, rfl, rfl, rfl, rfl, rfl, rfl, trivial⟩ ?_
          refine w_cond (t := false) rfl (fun h => Bool.noConfusion h) (fun _ => ?_)
          refine w_skip ?_
          refine thn_n ?_
          refine w_seq ?_
          refine w_draw (keeps _ [2, 3] _) mo (by kernel_rfl) ⟨Kn.le.refl _, keepsL.refl _ _⟩ ?_
          refine any_take 0 rfl (by kernel_rfl) rfl (q_ofI fun D B L hI => w_loadN [_, _] rfl rfl lk29 rfl (rowL 2 (hI.2.1.trans rfl) rfl rfl) ⟨rfl, rfl, rfl, rfl⟩) ?_
          refine any_take 1 rfl (by kernel_rfl) rfl (q_ofI fun D B L hI => w_fieldAddr rfl rfl fo47x0 rfl ⟨rfl, rfl, rfl, rfl⟩) ?_
          refine any_take 2 rfl (by kernel_rfl) rfl (q_ofI fun D B L hI => w_load1 rfl rfl lk3 rfl (atL 3 (hI.2.2.1.trans rfl) rfl rfl) ⟨rfl, rfl, rfl, rfl⟩) ?_
          refine any_takeP 3 rfl (by kernel_rfl) rfl (fun D B L => w_move rfl rfl rfl ⟨rfl, rfl, rfl, rfl⟩) ?_
          refine any_one 4 (by kernel_rfl) rfl (by kernel_rfl) (w_ex1 1 rfl rfl rfl en78 rfl (l91Name_c _ _ _ _ _ (by omega) hm _ hbm) ?_)
          rintro _ _ ⟨x29, rfl, hx29, rfl⟩
          refine ⟨⟨Kn.le.refl _, ⟨rfl, rfl, trivial⟩⟩, ?_⟩
          refine any_one 5 (by kernel_rfl) rfl (by kernel_rfl) (w_store [_, _] 0 [_, _] rfl rfl sz29 rfl rfl rfl rfl rfl rfl rfl rfl ?_)
          refine ⟨⟨Kn.le.refl _, ⟨rfl, rfl, trivial⟩⟩, ?_⟩
          refine any_takeP 6 rfl (by kernel_rfl) rfl (fun D B L => w_assign rfl rfl rfl ⟨rfl, rfl, rfl, rfl⟩) ?_
          refine any_takeP 7 rfl (by kernel_rfl) rfl (fun D B L => w_assign rfl rfl rfl ⟨rfl, rfl, rfl, rfl⟩) ?_
          refine any_done (by kernel_rfl) (by kernel_rfl) ?_
          refine thn_n ?_
          refine w_tidy [(0, _), (2, _), (3, _), (4, _), (5, _), (6, _), (7, _), (20, _), (38, _)] [_, _, _, _] ⟨rfl, rfl, rfl, rfl, rfl, rfl, rfl, rfl, rfl, trivial⟩ rfl ?_
          refine w_ret (thn_r ?_)
          exact endN .ret (.inl rfl) [_, _, _] [] rfl ⟨⟨_, rfl, .inr ⟨[_, _], lk29, rowL 0 rfl rfl rfl, rfl⟩⟩, rfl, rfl, trivial⟩ ⟨rfl, _, _, qqv, _, _, rfl, hqv, by first | omega | (simp; omega)⟩
    · try simp only [decide_eq_true_eq, decide_eq_false_iff_not, Bool.not_eq_true', Bool.not_eq_false', decide_not, Decidable.not_not, Int.not_lt, Int.not_le, ne_eq] at g2
      refine w_skip ?_
      refine thn_n ?_
      refine w_seq ?_
      refine w_draw (keeps _ [2] _) mo (by kernel_rfl) ⟨Kn.le.refl _, keepsL.refl _ _⟩ ?_
      refine any_take 0 rfl (by kernel_rfl) rfl (q_ofI fun D B L hI => w_loadN [_, _] rfl rfl lk29 rfl (rowL 2 (hI.2.1.trans rfl) rfl rfl) ⟨rfl, rfl, rfl, rfl⟩) ?_
      refine any_takeP 1 rfl (by kernel_rfl) rfl (fun D B L => w_move rfl rfl rfl ⟨rfl, rfl, rfl, rfl⟩) ?_
      refine any_takeP 3 rfl (by kernel_rfl) rfl (fun D B L => w_move rfl rfl rfl ⟨rfl, rfl, rfl, rfl⟩) ?_
      refine any_one 2 (by kernel_rfl) rfl (by kernel_rfl) (w_ex1 1 rfl rfl rfl en77 rfl (pick_c _ _ _ _ _ _ (by omega) (by omega) (by omega) hm _ hbm) ?_)
      rintro _ _ ⟨r30, rfl, r30a, r30b, rfl⟩
      refine ⟨⟨Kn.le.refl _, ⟨rfl, trivial⟩⟩, ?_⟩
      refine any_one 4 (by kernel_rfl) rfl (by kernel_rfl) (w_ex1 1 rfl rfl rfl en78 rfl (l91Name_c _ _ _ _ _ (by omega) hm _ hbm) ?_)
      rintro _ _ ⟨x31, rfl, hx31, rfl⟩
      refine ⟨⟨Kn.le.refl _, ⟨rfl, trivial⟩⟩, ?_⟩
      refine any_sto 5 (by kernel_rfl) rfl (by kernel_rfl) (by kernel_rfl) (w_store [_, _] 0 [_, _] rfl rfl sz29 rfl rfl rfl rfl rfl rfl rfl rfl ?_)
      refine any_takeP 6 rfl (by kernel_rfl) rfl (fun D B L => w_assign rfl rfl rfl ⟨rfl, rfl, rfl, rfl⟩) ?_
      refine any_takeP 7 rfl (by kernel_rfl) rfl (fun D B L => w_assign rfl rfl rfl ⟨rfl, rfl, rfl, rfl⟩) ?_
      refine any_done (by kernel_rfl) (by kernel_rfl) ?_
      refine thn_n ?_
      refine w_tidy [(0, _), (2, _), (3, _), (4, _), (5, _), (6, _), (20, _)] [_, _, _] ⟨rfl, rfl, rfl, rfl, rfl, rfl, rfl, trivial⟩ rfl ?_
      refine w_ret ?_
      exact endN .ret (.inl rfl) [_, _, _] [] rfl ⟨⟨_, rfl, .inr ⟨[_, _], lk29, rowL 0 rfl rfl rfl, rfl⟩⟩, rfl, rfl, trivial⟩ ⟨rfl, _, _, qqv, _, _, rfl, hqv, by first | omega | (simp; omega)⟩
  · try simp only [decide_eq_true_eq, decide_eq_false_iff_not, Bool.not_eq_true', Bool.not_eq_false', decide_not, Decidable.not_not, Int.not_lt, Int.not_le, ne_eq] at g1
    refine opW_x (w_pass rfl rfl ?_)
    refine opW_x (w_pass rfl rfl ?_)
    refine opW_x (w_pass rfl rfl ?_)
    refine opW_x (w_pickF rfl rfl rfl rfl ?_)
    refine w_keep [(0, _), (2, _), (3, _), (4, _), (5, _), (6, _), (20, _)] ⟨rfl, rfl, rfl, rfl, rfl, rfl, rfl, trivial⟩ ?_
    refine w_cond (t := false) rfl (fun h => Bool.noConfusion h) (fun _ => ?_)
    refine w_skip ?_
    refine thn_n ?_
    refine w_seq ?_
    refine w_draw (keeps _ [2] _) mo (by kernel_rfl) ⟨Kn.le.refl _, keepsL.refl _ _⟩ ?_
    refine any_take 0 rfl (by kernel_rfl) rfl (q_ofI fun D B L hI => w_loadN [_, _] rfl rfl lk29 rfl (rowL 2 (hI.2.1.trans rfl) rfl rfl) ⟨rfl, rfl, rfl, rfl⟩) ?_
    refine any_takeP 1 rfl (by kernel_rfl) rfl (fun D B L => w_move rfl rfl rfl ⟨rfl, rfl, rfl, rfl⟩) ?_
    refine any_takeP 3 rfl (by kernel_rfl) rfl (fun D B L => w_move rfl rfl rfl ⟨rfl, rfl, rfl, rfl⟩) ?_
    refine any_one 2 (by kernel_rfl) rfl (by kernel_rfl) (w_ex1 1 rfl rfl rfl en77 rfl (pick_c _ _ _ _ _ _ (by omega) (by omega) (by omega) hm _ hbm) ?_)
    rintro _ _ ⟨r32, rfl, r32a, r32b, rfl⟩
    refine ⟨⟨Kn.le.refl _, ⟨rfl, trivial⟩⟩, ?_⟩
    refine any_one 4 (by kernel_rfl) rfl (by kernel_rfl) (w_ex1 1 rfl rfl rfl en78 rfl (l91Name_c _ _ _ _ _ (by omega) hm _ hbm) ?_)
    rintro _ _ ⟨x33, rfl, hx33, rfl⟩
    refine ⟨⟨Kn.le.refl _, ⟨rfl, trivial⟩⟩, ?_⟩
    refine any_sto 5 (by kernel_rfl) rfl (by kernel_rfl) (by kernel_rfl) (w_store [_, _] 0 [_, _] rfl rfl sz29 rfl rfl rfl rfl rfl rfl rfl rfl ?_)
    refine any_takeP 6 rfl (by kernel_rfl) rfl (fun D B L => w_assign rfl rfl rfl ⟨rfl, rfl, rfl, rfl⟩) ?_
    refine any_takeP 7 rfl (by kernel_rfl) rfl (fun D B L => w_assign rfl rfl rfl ⟨rfl, rfl, rfl, rfl⟩) ?_
    refine any_done (by kernel_rfl) (by kernel_rfl) ?_
    refine thn_n ?_
    refine w_tidy [(0, _), (2, _), (3, _), (4, _), (5, _), (6, _), (20, _)] [_, _, _] ⟨rfl, rfl, rfl, rfl, rfl, rfl, rfl, trivial⟩ rfl ?_
    refine w_ret ?_
    exact endN .ret (.inl rfl) [_, _, _] [] rfl ⟨⟨_, rfl, .inr ⟨[_, _], lk29, rowL 0 rfl rfl rfl, rfl⟩⟩, rfl, rfl, trivial⟩ ⟨rfl, _, _, qqv, _, _, rfl, hqv, by first | omega | (simp; omega)⟩

set_option maxRecDepth 4000 in
set_option maxHeartbeats 400000 in
theorem itemClone_c (q : Option Addr) (cp : Nat) (x : DItem) (B : Kn) (hx : SlK B q cp 1 StrR x.left) : CallsB Try.prog 66 [.agg #[.int .i64 x.id, str x.fr, str x.text, .slice q x.left.length cp]] B [] (fun v B' Ls => B' = B ∧ ∃ ins a c, Ls = [ins] ∧ v = .agg #[.int .i64 x.id, str x.fr, str x.text, .slice a x.left.length c] ∧ VecStr 9 ins a c x.left) := by
  refine callsB_body 9 Try.func66 rfl rfl rfl (Nat.le_of_ble_eq_true rfl) ?_
  have hxn := hx.len
  refine w_seq_region ?_
  refine opW_x (w_box (l := [_, _, _, _]) rfl rfl rfl rfl (fun b1 => ?_))
  refine opW_x (w_alloc (l := [_, _, _, _]) rfl rfl zo47 rfl (fun b2 => ?_))
  refine w_tidy [(0, _), (1, _), (2, _)] [_, _] ⟨rfl, rfl, rfl, trivial⟩ rfl ?_
  refine w_seq_region ?_
  refine opW_x (w_buildSlice (parts := []) [] rfl rfl Try.underlying38 sz9 zo9 rfl rfl rfl rfl rfl (fun b3 => ?_))
  refine opW_x (w_fieldAddr rfl rfl fo47x3 rfl ?_)
  refine opW_x (w_load1 rfl rfl lk38 rfl (atL 0 rfl rfl rfl) ?_)
  refine opW_x (w_appR (R := StrR) 2 rfl (VecR.lit0 (R := StrR)) rfl rfl rfl eo38 su38 rfl rfl rfl hx.rows StrR.one rfl (by first | omega | (simp; done) | (simp; omega)) (fun l4 p4 c4 hv4 => ?_))
  refine opW_x (w_fieldAddr rfl rfl fo47x3 rfl ?_)
  refine opW_x (w_store [_] 0 [_, _, _, _] rfl rfl sz38 rfl rfl rfl rfl rfl rfl rfl rfl ?_)
  refine w_tidy [(0, _), (1, _), (2, _)] [_, _, _] ⟨rfl, rfl, rfl, trivial⟩ rfl ?_
  refine w_seq_region ?_
  refine opW_x (w_loadN [_, _, _, _] rfl rfl lk47 rfl (rowL 0 rfl rfl rfl) ?_)
  refine opW_x (w_store [_, _, _, _] 1 [_, _, _, _] rfl rfl sz47 rfl rfl rfl rfl rfl rfl rfl rfl ?_)
  refine w_tidy [(0, _), (1, _), (2, _)] [_, _, _] ⟨rfl, rfl, rfl, trivial⟩ rfl ?_
  refine w_ret ?_
  exact endN .ret (.inl rfl) [_] [2] rfl ⟨⟨_, rfl, .inr ⟨[_, _, _, _], lk47, rowL 1 rfl rfl rfl, rfl⟩⟩, trivial⟩ ⟨rfl, _, _, _, rfl, rfl, (hv4).anyK StrR.any⟩

set_option maxRecDepth 4000 in
set_option maxHeartbeats 400000 in
theorem backward_c (q : Option Addr) (m cp : Nat) (B : Kn) : CallsB Try.prog 115 [.slice q m cp] B [] (fun v B' Ls => B' = B ∧ ∃ b, Ls = [box1 b [.slice q m cp] 27] ∧ v = .func (.func 137) #[] #[ptr ⟨b, 0, none⟩]) := by
  refine callsB_body 4 Try.func115 rfl rfl rfl (Nat.le_of_ble_eq_true rfl) ?_
  refine w_seq_region ?_
  refine opW_x (w_box (l := [_]) rfl rfl rfl rfl (fun b1 => ?_))
  refine opW_x (w_assign rfl rfl rfl ?_)
  refine w_tidy [(0, _), (1, _), (2, _)] [_] ⟨rfl, rfl, rfl, trivial⟩ rfl ?_
  refine w_seq_region ?_
  refine opW_x (w_makeFunc (xs := []) (ys := [_]) rfl rfl rfl rfl ?_)
  refine opW_x (w_assign rfl rfl rfl ?_)
  refine w_keep [(0, _), (1, _), (2, _)] ⟨rfl, rfl, rfl, trivial⟩ ?_
  refine w_ret ?_
  exact endN .ret (.inl rfl) [_] [0] rfl ⟨rfl, trivial⟩ ⟨rfl, _, rfl, rfl⟩

set_option maxRecDepth 4000 in
set_option maxHeartbeats 400000 in
theorem back1_c (l bc : Nat) (q : Option Addr) (cp : Nat) (xs : List DItem) (Inv : Nat → Kn → Cells → Prop) (s0 : Cells) (B : Kn) (hq : SlK B q cp 4 ItemR xs) (hcc : RowAt' B bc 0 [.slice q xs.length cp]) (h0 : Inv xs.length B s0) (hround : ∀ (j : Nat) (i : Int) (x : DItem) (row : List Value) (B' : Kn) (s : Cells), B.le B' → Inv (j + 1) B' s → xs[j]? = some x → ItemR B' row x → ∃ lp, (l, Obj.loop lp) ∈ s ∧ lp.params.size = 2 ∧ RoundB Try.prog l lp.fn (argsT lp.params lp.tmps [.int .i64 i, .agg row.toArray]) lp.assign lp.body B' s (fun B'' s' => Inv j B'' s')) : CallsB Try.prog 137 [.func (.yield l) #[] #[], ptr ⟨bc, 0, none⟩] B [s0] (fun v B' Ls => ∃ s, Ls = [s] ∧ Inv 0 B' s) := by
  refine callsB_body 19 Try.func137 rfl rfl rfl (Nat.le_of_ble_eq_true rfl) ?_
  have hqn := hq.len
  refine w_seq_region ?_
  refine opW_x (w_load1 rfl rfl lk27 rfl (hcc _ 0 _ rfl) ?_)
  refine opW_x (w_lenV rfl rfl Try.underlying27 rfl ?_)
  refine opW_x (w_sub rfl rfl rfl rfl (by first | exact wrI64 (by first | omega | (simp; done) | (simp; omega)) (by first | omega | (simp; done) | (simp; omega)) | rfl) ?_)
  refine opW_x (w_assign rfl rfl rfl ?_)
  refine w_keep [(0, _), (1, _), (3, _)] ⟨rfl, rfl, rfl, trivial⟩ ?_
  refine w_block ?_
  refine w_loopE (α := Int × Cells) [0, 1] (fun g => [(3, .int .i64 g.1)]) [0] (fun g => [g.2]) (fun g Bx => -1 ≤ g.1 ∧ g.1 < xs.length ∧ Inv (g.1 + 1).toNat Bx g.2) (fun g => (g.1 + 1).toNat) ((xs.length : Int) - 1, s0) ⟨rfl, trivial⟩ rfl (⟨by simp only []; omega, by simp only []; omega, by rw [show ((xs.length : Int) - 1 + 1).toNat = xs.length from by omega]; exact h0⟩) (fun g B1 hle1 hI => ?_)
  obtain ⟨hk1, hk, hI⟩ := hI
  replace hq := hq.mono ItemR.mono hle1
  replace hcc := hcc.mono hle1
  refine w_tidy [(0, _), (1, _), (3, _)] [_] ⟨rfl, rfl, rfl, trivial⟩ rfl ?_
  refine w_seq ?_
  refine w_seq_region ?_
  refine opW_x (w_move rfl rfl rfl ?_)
  refine opW_x (w_geq rfl rfl rfl rfl ?_)
  refine w_keep [(0, _), (1, _), (3, _), (8, _)] ⟨rfl, rfl, rfl, rfl, trivial⟩ ?_
  refine w_cond rfl (fun g1 => ?_) (fun g1 => ?_)
  · try simp only [decide_eq_true_eq, decide_eq_false_iff_not, Bool.not_eq_true', Bool.not_eq_false', decide_not, Decidable.not_not, Int.not_lt, Int.not_le, ne_eq] at g1
    refine w_skip ?_
    refine thn_n ?_
    refine w_seq ?_
    refine w_block ?_
    refine w_seq_region ?_
    refine opW_x (w_move rfl rfl rfl ?_)
    refine opW_x (w_move rfl rfl rfl ?_)
    refine opW_x (w_load1 rfl rfl lk27 rfl (hcc _ 0 _ rfl) ?_)
    refine opW_x (w_move rfl rfl rfl ?_)
    obtain ⟨x, hx⟩ := getI (xs := xs) (i := g.1) (by first | omega | (simp; done) | (simp; omega)) (by first | omega | (simp; done) | (simp; omega))
    obtain ⟨bb3, oo3, rfl⟩ := hq.base hx
    obtain ⟨_, ⟨qi4, ci4, rfl, hi4, hb4, hb4b⟩, hc4⟩ := hq.elem hx
    have hi4n := hi4.len
    refine opW_x (w_ixB rfl rfl Try.underlying27 sz47 rfl rfl (by first | omega | (simp; done) | (simp; omega)) (by first | omega | (simp; done) | (simp; omega)) ?_)
    obtain ⟨lp, hl, hs, hr⟩ := hround g.1.toNat g.1 x _ _ g.2 (by assumption) (by rw [show g.1.toNat + 1 = (g.1 + 1).toNat from by omega]; exact hI) hx ⟨_, _, rfl, by assumption, by assumption, by assumption⟩
    refine opW_x (w_loadN [_, _, _, _] rfl rfl lk47 rfl (rowK hc4 0 rfl rfl) ?_)
    refine opW_x (w_callY (j := 0) rfl hl rfl rfl rfl rfl hs.symm hr (fun Bc sc hlec hIc => ?_))
    replace hq := hq.mono ItemR.mono hlec
    replace hcc := hcc.mono hlec
    replace hi4 := hi4.mono StrR.mono hlec
    replace hc4 := hc4.mono hlec
    refine opW_x (w_not rfl rfl rfl ?_)
    refine w_tidy [(0, _), (1, _), (3, _), (8, _), (18, _)] [_] ⟨rfl, rfl, rfl, rfl, rfl, trivial⟩ rfl ?_
    refine w_cond rfl (fun g2 => by cases g2) (fun g2 => ?_)
    try simp only [decide_eq_true_eq, decide_eq_false_iff_not, Bool.not_eq_true', Bool.not_eq_false', decide_not, Decidable.not_not, Int.not_lt, Int.not_le, ne_eq] at g2
    refine w_skip ?_
    refine inB_n (thn_n ?_)
    refine w_region ?_
    refine opW_x (w_move rfl rfl rfl ?_)
    refine opW_x (w_sub rfl rfl rfl rfl (by first | exact wrI64 (by first | omega | (simp; done) | (simp; omega)) (by first | omega | (simp; done) | (simp; omega)) | rfl) ?_)
    refine opW_x (w_assign rfl rfl rfl ?_)
    exact rndE_n (g.1 - 1, sc) [0] (by first | omega | (simp only []; omega)) ⟨by simp only []; omega, by simp only []; omega, by simp only []; rw [show (g.1 - 1 + 1).toNat = g.1.toNat from by omega]; exact hIc⟩ ⟨rfl, rfl, rfl, trivial⟩ rfl
  · try simp only [decide_eq_true_eq, decide_eq_false_iff_not, Bool.not_eq_true', Bool.not_eq_false', decide_not, Decidable.not_not, Int.not_lt, Int.not_le, ne_eq] at g1
    refine w_exit (thn_x (rndE_x (inB_hit ?_)))
    exact endN .normal (.inr rfl) [] [0] rfl trivial ⟨_, rfl, by rw [show (g.1 + 1).toNat = 0 from by omega] at hI; exact hI⟩

set_option maxRecDepth 4000 in
set_option maxHeartbeats 400000 in
theorem queueLink_c (q : Option Addr) (cp : Nat) (x : DQueue) (B : Kn) (hx : SlK B q cp 4 ItemR x.items) : CallsB Try.prog 72 [.agg #[.int .i64 x.next, .slice q x.items.length cp]] B [] (fun v B' Ls => ∃ s, Ls = [s] ∧ ListD 9 109 v x.items s) := by
  refine callsB_bodyT 17 Try.func72 rfl rfl rfl (Nat.le_of_ble_eq_true rfl) ?_
  refine t_seq_region ?_
  refine opW_x (w_box (l := [_, _]) rfl rfl rfl rfl (fun b1 => ?_))
  refine opW_x (w_assign rfl rfl rfl ?_)
  refine t_tidy [(0, _), (1, _), (2, _)] [_] ⟨rfl, rfl, rfl, trivial⟩ rfl ?_
  refine t_seq_region ?_
  refine opW_x (w_alloc (l := [_]) rfl rfl zo106 rfl (fun b2 => ?_))
  refine t_tidy [(0, _), (1, _), (2, _), (3, _)] [_, _] ⟨rfl, rfl, rfl, rfl, trivial⟩ rfl ?_
  refine t_seqT ?_
  refine t_seq_region ?_
  refine opW_x (w_fieldAddr rfl rfl fo29x1 rfl ?_)
  refine opW_x (w_load1 rfl rfl lk27 rfl (atL 0 rfl rfl rfl) ?_)
  refine opW_x (w_call rfl rfl en115 rfl (backward_c _ _ _ _) ?_)
  rintro _ _ _ hle3 ⟨rfl, b3, rfl, rfl⟩
  refine t_tidy [(0, _), (1, _), (2, _), (3, _), (8, _)] [_, _, _] ⟨rfl, rfl, rfl, rfl, rfl, trivial⟩ rfl ?_
  refine t_block ?_
  refine t_pub 2 rfl (fun B4 hle4 hm4 => ?_)
  replace hx := hx.mono ItemR.mono hle4
  have hcc := rowAt_box hm4
  refine t_sel [1] rfl ?_
  refine t_rangeL (J := fun B' L' => ∃ v s, L' = [box1 b2 [v] 106, s] ∧ ListD 9 109 v x.items s) (cap := [_]) rfl en137 (fun lp l hTn hTS hps hasg hbd hst hlp => ?_) (fun r B9 L9 hle9 hJ => ?_)
  · refine CallsB.mono (back1_c l _ _ _ x.items (fun j B9 s9 => ∃ v cells, s9.Perm ((l, Obj.loop lp) :: (box1 b2 [v] 106 ++ cells)) ∧ ListD 9 109 v (x.items.drop j) cells) _ _ hx hcc ⟨.pointer none, [], by simp, by rw [List.drop_length]; exact ⟨rfl, rfl⟩⟩ ?_) ?_
    · rintro j i y row B9 s9 hle9 ⟨v, cells, hp, hl⟩ hy hrow
      obtain ⟨qy, cy, rfl, hy5, hy6, hy7⟩ := hrow
      have hy5n := hy5.len
      obtain ⟨p9, rfl⟩ := hl.ptr
      obtain ⟨hA, hN⟩ := ag_args2 (a := 9) (b := 10) (x := .int .i64 i) (y := .agg #[.int .i64 y.id, str y.fr, str y.text, .slice qy y.left.length cy]) hTS hTn rfl rfl
      refine ⟨lp, hp.mem_iff.2 (List.mem_cons_self ..), by rw [hps]; rfl, ?_⟩
      rw [hps, hasg, hbd]
      refine roundB_of (L := [box1 b2 [.pointer p9] 106, cells]) (lp := lp) hN [(3, _), (9, _), (10, _)] (hA.sub ⟨rfl, rfl, rfl, trivial⟩) (by simpa using hp) hst ?_
      refine w_region ?_
      refine opW_x (w_alloc (l := [_, _, _, _]) rfl rfl zo47 rfl (fun b4 => ?_))
      refine opW_x (w_store [_, _, _, _] 3 [_, _, _, _] rfl rfl sz47 rfl rfl rfl rfl rfl rfl rfl rfl ?_)
      refine ⟨rfl, rfl, rfl, ?_⟩
      refine w_tidy [(3, _), (5, _), (9, _), (10, _)] [_, _, _, _] ⟨rfl, rfl, rfl, rfl, trivial⟩ rfl ?_
      refine w_block ?_
      refine w_draw (keeps _ [1, 3] _) mo (by kernel_rfl) ⟨Kn.le.refl _, keepsL.refl _ _⟩ ?_
      refine any_take 0 rfl (by kernel_rfl) rfl (q_ofI fun D B L hI => w_loadN [_, _, _, _] rfl rfl lk47 rfl (rowL 3 (hI.2.2.1.trans rfl) rfl rfl) ⟨rfl, rfl, rfl, rfl⟩) ?_
      refine any_take 2 rfl (by kernel_rfl) rfl (q_ofI fun D B L hI => w_load1 rfl rfl lk106 rfl (atL 1 (hI.2.1.trans rfl) rfl rfl) ⟨rfl, rfl, rfl, rfl⟩) ?_
      refine any_one 1 (by kernel_rfl) rfl (by kernel_rfl) (w_call rfl rfl en66 rfl (itemClone_c _ _ y _ hy5) ?_)
      rintro _ _ _ hle5 ⟨rfl, ins5, a5, c5, rfl, rfl, hs5⟩
      refine ⟨⟨Kn.le.refl _, ⟨rfl, rfl, trivial⟩⟩, ?_⟩
      refine any_take 3 rfl (by kernel_rfl) rfl (q_ofI fun D B L hI => w_build (parts := [(0, _), (1, _)]) [_, _, _, _, _] [_, _, _, _, _] rfl rfl pl109 zo109 rfl rfl rfl ⟨rfl, rfl, rfl, rfl⟩) ?_
      refine any_one 4 (by kernel_rfl) rfl (by kernel_rfl) (w_box (l := [_, _, _, _, _]) rfl rfl rfl rfl (fun b6 => ?_))
      refine ⟨⟨Kn.le.refl _, ⟨rfl, rfl, trivial⟩⟩, ?_⟩
      refine any_fin 5 (by kernel_rfl) rfl (by kernel_rfl) (by kernel_rfl) (by kernel_rfl) (w_store [_] 1 [_] rfl rfl sz106 rfl rfl rfl rfl rfl rfl rfl rfl ?_)
      refine inB_n ?_
      refine ⟨rfl, rfl, (l, Obj.loop lp) :: (box1 b2 [ptr ⟨b6, 0, none⟩] 106 ++ (box1 b6 ([.int .i64 y.id, str y.fr, str y.text, .slice a5 y.left.length c5] ++ [.pointer p9]) 109 ++ (ins5 ++ cells))), box1 b4 [.int .i64 y.id, str y.fr, str y.text, .slice qy y.left.length cy] 47, ?_, _, _, .refl _, ?_⟩
      · refine (pickAll_perm [0, 1, 5, 4, 2] _ _ _ rfl).trans ?_
        rw [hlp]
        simp [box1]
      · rw [drop_cons hy]
        exact ⟨_, _, _, _, _, rfl, .refl _, ⟨_, _, rfl, hs5, by assumption, by assumption, by assumption⟩, hl⟩
    · rintro _ B9 _ hle9 ⟨s9, rfl, v, cells, hp, hl⟩
      exact ⟨[box1 b2 [v] 106, cells], _, rfl, by simpa using hp, v, cells, rfl, by simpa using hl⟩
  · obtain ⟨v, s9, rfl, hl⟩ := hJ
    refine inB_n (thn_n ?_)
    refine w_seq_region ?_
    refine opW_x (w_load1 rfl rfl lk106 rfl (atL 0 rfl rfl rfl) ?_)
    refine opW_x (w_assign rfl rfl rfl ?_)
    refine w_tidy [(0, _), (1, _), (2, _), (3, _), (8, _)] [_, _, _] ⟨rfl, rfl, rfl, rfl, rfl, trivial⟩ rfl ?_
    refine w_ret ?_
    exact ⟨.inl rfl, r, 2, rfl, rfl, [_], [_], ⟨rfl, trivial⟩, ⟨_, List.perm_append_comm⟩, _, rfl, hl⟩

set_option maxRecDepth 4000 in
set_option maxHeartbeats 400000 in
theorem queueOf_c (nx : Int) (v : Value) (xs : List DItem) (cells : Cells) (B : Kn) (hn : xs.length ≤ 2000000) (hv : ListD 9 109 v xs cells) : CallsB Try.prog 76 [.int .i64 nx, v] B [cells] (fun v B' Ls => B' = B ∧ ∃ l q c, Ls = [l] ∧ v = .agg #[.int .i64 nx, .slice q xs.length c] ∧ VecD l q c 47 4 (ItemO 9) xs) := by
  refine callsB_body 27 Try.func76 rfl rfl rfl (Nat.le_of_ble_eq_true rfl) ?_
  obtain ⟨p, rfl⟩ := hv.ptr
  refine w_seq_region ?_
  refine opW_x (w_alloc (l := [_, _]) rfl rfl zo29 rfl (fun b1 => ?_))
  refine w_tidy [(0, _), (1, _), (4, _)] [_, _] ⟨rfl, rfl, rfl, trivial⟩ rfl ?_
  refine w_seq_region ?_
  refine opW_x (w_move rfl rfl rfl ?_)
  refine opW_x (w_buildSlice (parts := []) [] rfl rfl Try.underlying27 sz47 zo47 rfl rfl rfl rfl rfl (fun b2 => ?_))
  refine opW_x (w_build (parts := [(0, _), (1, _)]) [_, _] [_, _] rfl rfl pl29 zo29 rfl rfl rfl ?_)
  refine opW_x (w_alloc (l := [_, _]) rfl rfl zo29 rfl (fun b3 => ?_))
  refine opW_x (w_store [_, _] 3 [_, _] rfl rfl sz29 rfl rfl rfl rfl rfl rfl rfl rfl ?_)
  refine w_tidy [(0, _), (1, _), (4, _), (5, _)] [_, _, _, _] ⟨rfl, rfl, rfl, rfl, trivial⟩ rfl ?_
  refine w_seq ?_
  refine w_seq_region ?_
  refine opW_x (w_move rfl rfl rfl ?_)
  refine opW_x (w_assign rfl rfl rfl ?_)
  refine w_keep [(0, _), (1, _), (4, _), (5, _), (6, _)] ⟨rfl, rfl, rfl, rfl, rfl, trivial⟩ ?_
  refine w_block ?_
  refine w_loopE (α := QOf) [0, 1, 4, 5] (fun g => [(6, .pointer g.p)]) [0, 2, 3] (fun g => [g.cells, g.l, box1 b3 [.int .i64 nx, .slice g.q g.ys.length g.c] 29]) (fun g Bx => Bx = B ∧ g.ys ++ g.xs = xs ∧ VecD g.l g.q g.c 47 4 (ItemO 9) g.ys ∧ ListD 9 109 (.pointer g.p) g.xs g.cells) (fun g => g.xs.length) ⟨p, [], xs, _, _, _, _⟩ ⟨rfl, trivial⟩ rfl (⟨rfl, rfl, .lit0, hv⟩) (fun g B4 hle4 hI => ?_)
  obtain ⟨rfl, hxs, hvd, hl⟩ := hI
  refine w_tidy [(0, _), (1, _), (4, _), (5, _), (6, _)] [_, _, _, _] ⟨rfl, rfl, rfl, rfl, rfl, trivial⟩ rfl ?_
  refine w_seq ?_
  refine w_seq_region ?_
  refine opW_x (w_move rfl rfl rfl ?_)
  refine opW_x (w_neqE rfl rfl rfl rfl rfl (eqPtrNil Try.underlying106) ?_)
  refine w_keep [(0, _), (1, _), (4, _), (5, _), (6, _), (12, _)] ⟨rfl, rfl, rfl, rfl, rfl, rfl, trivial⟩ ?_
  refine w_cond rfl (fun g1 => ?_) (fun g1 => ?_)
  · try simp only [decide_eq_true_eq, decide_eq_false_iff_not, Bool.not_eq_true', Bool.not_eq_false', decide_not, Decidable.not_not, Int.not_lt, Int.not_le, ne_eq] at g1
    obtain ⟨y, ys, b8, q8, c8, np, ins8, rest8, hp8, hrest, hperm, hy5, hy6, hy7, hy8, hl8⟩ := hl.more (by simpa using g1)
    rw [hp8]
    have hlen := congrArg List.length hxs
    rw [List.length_append, hrest, List.length_cons] at hlen
    replace hlen : g.ys.length + 1 ≤ 2000000 := by omega
    refine w_split 0 rfl hperm ?_
    refine w_tidy [(0, _), (1, _), (4, _), (5, _), (6, _), (12, _)] [_, _, _, _, _, _] ⟨rfl, rfl, rfl, rfl, rfl, rfl, trivial⟩ rfl ?_
    refine w_skip ?_
    refine thn_n ?_
    refine w_seq ?_
    refine w_block ?_
    refine w_draw (keeps _ [0, 3] _) mo (by kernel_rfl) ⟨Kn.le.refl _, keepsL.refl _ _⟩ ?_
    refine any_take 0 rfl (by kernel_rfl) rfl (q_ofI fun D B L hI => w_fieldAddr rfl rfl fo29x1 rfl ⟨rfl, rfl, rfl, rfl⟩) ?_
    refine any_take 1 rfl (by kernel_rfl) rfl (q_ofI fun D B L hI => w_load1 rfl rfl lk27 rfl (atL 3 (hI.2.2.1.trans rfl) rfl rfl) ⟨rfl, rfl, rfl, rfl⟩) ?_
    refine any_takeP 2 rfl (by kernel_rfl) rfl (fun D B L => w_move rfl rfl rfl ⟨rfl, rfl, rfl, rfl⟩) ?_
    refine any_take 3 rfl (by kernel_rfl) rfl (q_ofI fun D B L hI => w_nilCheck rfl rfl rfl ⟨rfl, rfl, rfl, rfl⟩) ?_
    refine any_take 4 rfl (by kernel_rfl) rfl (q_ofI fun D B L hI => w_fieldAddr rfl rfl fo109x0 rfl ⟨rfl, rfl, rfl, rfl⟩) ?_
    refine any_take 5 rfl (by kernel_rfl) rfl (q_ofI fun D B L hI => w_loadN [_, _, _, _] rfl rfl lk47 rfl (rowL 0 (hI.2.1.trans rfl) rfl rfl) ⟨rfl, rfl, rfl, rfl⟩) ?_
    refine any_one 6 (by kernel_rfl) rfl (by kernel_rfl) (w_buildSlice (parts := [(0, _)]) [_, _, _, _] rfl rfl Try.underlying27 sz47 zo47 rfl rfl rfl rfl rfl (fun b5 => ?_))
    refine ⟨⟨Kn.le.refl _, ⟨rfl, rfl, trivial⟩⟩, ?_⟩
    refine any_one 7 (by kernel_rfl) rfl (by kernel_rfl) (w_appD (R := ItemO 9) (z := y) 2 4 rfl rfl rfl hvd rfl rfl rfl eo27 su27 rfl rfl (SrcAt.box 6 rfl) rfl rfl ⟨_, _, rfl, hy5, hy6, hy7, hy8⟩ (by omega) (fun l9 q9 c9 hv9 => ?_))
    refine ⟨⟨Kn.le.refl _, ⟨rfl, rfl, trivial⟩⟩, ?_⟩
    refine any_take 8 rfl (by kernel_rfl) rfl (q_ofI fun D B L hI => w_fieldAddr rfl rfl fo29x1 rfl ⟨rfl, rfl, rfl, rfl⟩) ?_
    refine any_fin 9 (by kernel_rfl) rfl (by kernel_rfl) (by kernel_rfl) (by kernel_rfl) (w_store [_] 3 [_, _] rfl rfl sz27 rfl rfl rfl rfl rfl rfl rfl rfl ?_)
    refine inB_n (thn_n ?_)
    refine w_region ?_
    refine opW_x (w_move rfl rfl rfl ?_)
    refine opW_x (w_nilCheck rfl rfl rfl ?_)
    refine opW_x (w_fieldAddr rfl rfl fo109x1 rfl ?_)
    refine opW_x (w_load1 rfl rfl lk106 rfl (atL 0 rfl rfl rfl) ?_)
    refine opW_x (w_assign rfl rfl rfl ?_)
    exact rndE_n ⟨np, g.ys ++ [y], ys, l9, q9, c9, rest8⟩ [5, 1, 2, 3] (by rw [hrest]; simp) ⟨rfl, by rw [← hxs, hrest]; simp, hv9, hl8⟩ ⟨rfl, rfl, rfl, rfl, rfl, trivial⟩ rfl
  · try simp only [decide_eq_true_eq, decide_eq_false_iff_not, Bool.not_eq_true', Bool.not_eq_false', decide_not, Decidable.not_not, Int.not_lt, Int.not_le, ne_eq] at g1
    rw [hl.done (by simpa using g1), List.append_nil] at hxs
    subst hxs
    refine w_exit (thn_x (rndE_x (inB_hit (thn_n ?_))))
    refine w_seq_region ?_
    refine opW_x (w_loadN [_, _] rfl rfl lk29 rfl (rowL 3 rfl rfl rfl) ?_)
    refine opW_x (w_store [_, _] 1 [_, _] rfl rfl sz29 rfl rfl rfl rfl rfl rfl rfl rfl ?_)
    refine w_tidy [(0, _), (1, _), (4, _), (5, _), (6, _), (12, _)] [_, _, _, _] ⟨rfl, rfl, rfl, rfl, rfl, rfl, trivial⟩ rfl ?_
    refine w_ret ?_
    exact endN .ret (.inl rfl) [_] [2] rfl ⟨⟨_, rfl, .inr ⟨[_, _], lk29, rowL 1 rfl rfl rfl, rfl⟩⟩, trivial⟩ ⟨rfl, _, _, _, rfl, rfl, hvd⟩

set_option maxRecDepth 4000 in
set_option maxHeartbeats 400000 in
theorem queueClone_c (q : Option Addr) (cp : Nat) (x : DQueue) (B : Kn) (hx : SlK B q cp 4 ItemR x.items) : CallsB Try.prog 65 [.agg #[.int .i64 x.next, .slice q x.items.length cp]] B [] (fun v B' Ls => ∃ l q c, Ls = [l] ∧ v = .agg #[.int .i64 x.next, .slice q x.items.length c] ∧ VecD l q c 47 4 (ItemO 9) x.items) := by
  refine callsB_body 8 Try.func65 rfl rfl rfl (Nat.le_of_ble_eq_true rfl) ?_
  have hxn := hx.len
  refine w_seq_region ?_
  refine opW_x (w_box (l := [_, _]) rfl rfl rfl rfl (fun b1 => ?_))
  refine opW_x (w_alloc (l := [_, _]) rfl rfl zo29 rfl (fun b2 => ?_))
  refine w_tidy [(0, _), (1, _), (2, _)] [_, _] ⟨rfl, rfl, rfl, trivial⟩ rfl ?_
  refine w_seq ?_
  refine w_draw (keeps _ [0] _) mo (by kernel_rfl) ⟨Kn.le.refl _, keepsL.refl _ _⟩ ?_
  refine any_take 0 rfl (by kernel_rfl) rfl (q_ofI fun D B L hI => w_fieldAddr rfl rfl fo29x0 rfl ⟨rfl, rfl, rfl, rfl⟩) ?_
  refine any_take 1 rfl (by kernel_rfl) rfl (q_ofI fun D B L hI => w_load1 rfl rfl lk3 rfl (atL 0 (hI.2.1.trans rfl) rfl rfl) ⟨rfl, rfl, rfl, rfl⟩) ?_
  refine any_take 2 rfl (by kernel_rfl) rfl (q_ofI fun D B L hI => w_loadN [_, _] rfl rfl lk29 rfl (rowL 0 (hI.2.1.trans rfl) rfl rfl) ⟨rfl, rfl, rfl, rfl⟩) ?_
  refine any_one 3 (by kernel_rfl) rfl (by kernel_rfl) (w_call rfl rfl en72 rfl (queueLink_c _ _ x _ hx) ?_)
  rintro _ B3 _ hle3 ⟨sl3, rfl, hl3⟩
  replace hx := hx.mono ItemR.mono hle3
  refine ⟨⟨hle3, ⟨rfl, trivial⟩⟩, ?_⟩
  refine any_one 4 (by kernel_rfl) rfl (by kernel_rfl) (w_callN [2] rfl rfl rfl rfl en76 rfl (queueOf_c _ _ _ _ _ (by first | assumption | omega) hl3) ?_)
  rintro _ _ _ hle4 ⟨rfl, ld4, ad4, cd4, rfl, rfl, hd4⟩
  refine ⟨⟨hle3, ⟨rfl, trivial⟩⟩, ?_⟩
  refine any_fin 5 (by kernel_rfl) rfl (by kernel_rfl) (by kernel_rfl) (by kernel_rfl) (w_store [_, _] 1 [_, _] rfl rfl sz29 rfl rfl rfl rfl rfl rfl rfl rfl ?_)
  refine thn_n ?_
  refine w_tidy [(0, _), (1, _), (2, _)] [_, _, _] ⟨rfl, rfl, rfl, trivial⟩ rfl ?_
  refine w_ret ?_
  exact endN .ret (.inl rfl) [_] [2] rfl ⟨⟨_, rfl, .inr ⟨[_, _], lk29, rowL 1 rfl rfl rfl, rfl⟩⟩, trivial⟩ ⟨_, _, _, rfl, rfl, hd4⟩

set_option maxRecDepth 4000 in
set_option maxHeartbeats 400000 in
theorem idLen_c (q : Option Addr) (m cp : Nat) (B : Kn) : RetB Try.prog 162 [.slice q m cp] B (.int .i64 m) := by
  refine callsB_body 5 Try.func162 rfl rfl rfl (Nat.le_of_ble_eq_true rfl) ?_
  refine w_seq_region ?_
  refine opW_x (w_assign rfl rfl rfl ?_)
  refine w_keep [(0, _), (2, _)] ⟨rfl, rfl, trivial⟩ ?_
  refine w_seq_region ?_
  refine opW_x (w_move rfl rfl rfl ?_)
  refine opW_x (w_lenV rfl rfl Try.underlying141 rfl ?_)
  refine opW_x (w_assign rfl rfl rfl ?_)
  refine w_keep [(0, _), (2, _)] ⟨rfl, rfl, trivial⟩ ?_
  refine w_ret ?_
  exact end0 .ret (.inl rfl) [_] ⟨rfl, trivial⟩ ⟨rfl, rfl, rfl⟩

set_option maxRecDepth 4000 in
set_option maxHeartbeats 400000 in
theorem idLess_c (q : Option Addr) (cp : Nat) (xs : List Int) (i j : Nat) (a b : Int) (hi : xs[i]? = some a) (hj : xs[j]? = some b) (B : Kn) (hx : SlK B q cp 1 IntR xs) : RetB Try.prog 163 [.slice q xs.length cp, .int .i64 i, .int .i64 j] B (.bool (decide (a < b))) := by
  refine callsB_body 16 Try.func163 rfl rfl rfl (Nat.le_of_ble_eq_true rfl) ?_
  have hil := lt_of_get hi
  have hjl := lt_of_get hj
  refine w_seq_region ?_
  refine opW_x (w_assign rfl rfl rfl ?_)
  refine w_keep [(0, _), (1, _), (2, _), (6, _)] ⟨rfl, rfl, rfl, rfl, trivial⟩ ?_
  refine w_seq ?_
  refine w_draw (same _ _) mo (by kernel_rfl) ⟨rfl, rfl⟩ ?_
  refine any_takeP 0 rfl (by kernel_rfl) rfl (fun D B L => w_move rfl rfl rfl ⟨rfl, rfl, rfl, rfl⟩) ?_
  refine any_takeP 1 rfl (by kernel_rfl) rfl (fun D B L => w_move rfl rfl rfl ⟨rfl, rfl, rfl, rfl⟩) ?_
  obtain ⟨z, hz⟩ := getLt (xs := xs) (i := i) (by first | omega | (simp; done) | (simp; omega))
  obtain ⟨bb2, oo2, rfl⟩ := hx.base hz
  obtain ⟨_, rfl, hc3⟩ := hx.elem hz
  refine any_take 2 rfl (by kernel_rfl) rfl (q_of fun D => w_ixB rfl rfl Try.underlying131 sz3 rfl rfl (by first | omega | (simp; done) | (simp; omega)) (by first | omega | (simp; done) | (simp; omega)) ⟨rfl, rfl, rfl, rfl⟩) ?_
  refine any_take 3 rfl (by kernel_rfl) rfl (q_of fun D => w_load1 rfl rfl lk3 rfl (hc3 _ 0 _ rfl) ⟨rfl, rfl, rfl, rfl⟩) ?_
  refine any_takeP 4 rfl (by kernel_rfl) rfl (fun D B L => w_move rfl rfl rfl ⟨rfl, rfl, rfl, rfl⟩) ?_
  refine any_takeP 5 rfl (by kernel_rfl) rfl (fun D B L => w_move rfl rfl rfl ⟨rfl, rfl, rfl, rfl⟩) ?_
  obtain ⟨w, hw⟩ := getLt (xs := xs) (i := j) (by first | omega | (simp; done) | (simp; omega))
  obtain ⟨_, rfl, hc5⟩ := hx.elem hw
  refine any_take 6 rfl (by kernel_rfl) rfl (q_of fun D => w_ixB rfl rfl Try.underlying131 sz3 rfl rfl (by first | omega | (simp; done) | (simp; omega)) (by first | omega | (simp; done) | (simp; omega)) ⟨rfl, rfl, rfl, rfl⟩) ?_
  rw [hi] at hz
  cases hz
  rw [hj] at hw
  cases hw
  refine any_take 7 rfl (by kernel_rfl) rfl (q_of fun D => w_load1 rfl rfl lk3 rfl (hc5 _ 0 _ rfl) ⟨rfl, rfl, rfl, rfl⟩) ?_
  refine any_take 8 rfl (by kernel_rfl) rfl (q_of fun D => w_lss rfl rfl rfl rfl ⟨rfl, rfl, rfl, rfl⟩) ?_
  refine any_takeP 9 rfl (by kernel_rfl) rfl (fun D B L => w_assign rfl rfl rfl ⟨rfl, rfl, rfl, rfl⟩) ?_
  refine any_done (by kernel_rfl) (by kernel_rfl) ?_
  refine thn_n ?_
  refine w_keep [(0, _), (1, _), (2, _), (6, _)] ⟨rfl, rfl, rfl, rfl, trivial⟩ ?_
  refine w_ret ?_
  exact end0 .ret (.inl rfl) [_] ⟨rfl, trivial⟩ ⟨rfl, rfl, rfl⟩

set_option maxRecDepth 4000 in
set_option maxHeartbeats 400000 in
theorem idPush_c (b : Nat) (q : Option Addr) (cp : Nat) (xs : List Int) (l : Cells) (z : Int) (hn : xs.length ≤ 2000000) (B : Kn) (hv : VecR B l q cp 3 1 IntR xs) : CallsB Try.prog 165 [ptr ⟨b, 0, none⟩, .iface 3 (.int .i64 z)] B [box1 b [.slice q xs.length cp] 141, l] (fun v B' Ls => B' = B ∧ ∃ q' c' l', Ls = [box1 b [.slice q' (xs ++ [z]).length c'] 141, l'] ∧ VecR B l' q' c' 3 1 IntR (xs ++ [z])) := by
  refine callsB_body 13 Try.func165 rfl rfl rfl (Nat.le_of_ble_eq_true rfl) ?_
  refine w_draw (keeps _ [0] _) mo (by kernel_rfl) ⟨Kn.le.refl _, keepsL.refl _ _⟩ ?_
  refine any_takeP 0 rfl (by kernel_rfl) rfl (fun D B L => w_move rfl rfl rfl ⟨rfl, rfl, rfl, rfl⟩) ?_
  refine any_takeP 1 rfl (by kernel_rfl) rfl (fun D B L => w_move rfl rfl rfl ⟨rfl, rfl, rfl, rfl⟩) ?_
  refine any_take 2 rfl (by kernel_rfl) rfl (q_ofI fun D B L hI => w_nilCheck rfl rfl rfl ⟨rfl, rfl, rfl, rfl⟩) ?_
  refine any_take 3 rfl (by kernel_rfl) rfl (q_ofI fun D B L hI => w_load1 rfl rfl lk141 rfl (atL 0 (hI.2.1.trans rfl) rfl rfl) ⟨rfl, rfl, rfl, rfl⟩) ?_
  refine any_takeP 4 rfl (by kernel_rfl) rfl (fun D B L => w_move rfl rfl rfl ⟨rfl, rfl, rfl, rfl⟩) ?_
  refine any_take 5 rfl (by kernel_rfl) rfl (q_ofI fun D B L hI => w_assertT rfl rfl Try.underlying3 rfl rfl ⟨rfl, rfl, rfl, rfl⟩) ?_
  refine any_one 6 (by kernel_rfl) rfl (by kernel_rfl) (w_buildSlice (parts := [(0, _)]) [_] rfl rfl Try.underlying131 sz3 zo3 rfl rfl rfl rfl rfl (fun b1 => ?_))
  refine ⟨⟨Kn.le.refl _, ⟨rfl, trivial⟩⟩, ?_⟩
  refine any_one 7 (by kernel_rfl) rfl (by kernel_rfl) (w_app1 (z := z) (R := IntR) 1 rfl hv rfl rfl rfl eo141 su141 rfl rfl (SrcAt.box 2 rfl) rfl rfl (rfl) (by first | omega | (simp; done) | (simp; omega)) (fun l2 p2 c2 hv2 => ?_))
  refine ⟨⟨Kn.le.refl _, ⟨rfl, trivial⟩⟩, ?_⟩
  refine any_take 8 rfl (by kernel_rfl) rfl (q_ofI fun D B L hI => w_nilCheck rfl rfl rfl ⟨rfl, rfl, rfl, rfl⟩) ?_
  refine any_fin 9 (by kernel_rfl) rfl (by kernel_rfl) (by kernel_rfl) (by kernel_rfl) (w_store [_] 0 [_] rfl rfl sz141 rfl rfl rfl rfl rfl rfl rfl rfl ?_)
  exact endN .normal (.inr rfl) [] [0, 1] rfl trivial ⟨rfl, _, _, _, rfl, hv2⟩

set_option maxRecDepth 4000 in
set_option maxHeartbeats 400000 in
theorem idPop_c (b : Nat) (q : Option Addr) (cp : Nat) (xs : List Int) (l : Cells) (z : Int) (hz : xs[xs.length - 1]? = some z) (hn : xs.length ≤ 2000000) (B : Kn) (hv : VecR B l q cp 3 1 IntR xs) : CallsB Try.prog 164 [ptr ⟨b, 0, none⟩] B [box1 b [.slice q xs.length cp] 141, l] (fun v B' Ls => B' = B ∧ v = .iface 3 (.int .i64 z) ∧ Ls = [box1 b [.slice q (xs.length - 1) cp] 141, l] ∧ VecR B l q cp 3 1 IntR (xs.take (xs.length - 1))) := by
  refine callsB_body 25 Try.func164 rfl rfl rfl (Nat.le_of_ble_eq_true rfl) ?_
  have hl1 := lt_of_get hz
  have hcp := hv.cap
  have hv9 := hv.take (k := xs.length - 1) (by omega)
  have hs0 := hv.slice0 (sz := 1)
  refine w_seq_region ?_
  refine opW_x (w_assign rfl rfl rfl ?_)
  refine w_keep [(0, _), (2, _)] ⟨rfl, rfl, trivial⟩ ?_
  refine w_seq_region ?_
  refine opW_x (w_move rfl rfl rfl ?_)
  refine opW_x (w_nilCheck rfl rfl rfl ?_)
  refine opW_x (w_load1 rfl rfl lk141 rfl (atL 0 rfl rfl rfl) ?_)
  refine opW_x (w_lenV rfl rfl Try.underlying141 rfl ?_)
  refine opW_x (w_sub (r := ((xs.length - 1 : Nat) : Int)) rfl rfl rfl rfl (by rw [show ((xs.length : Int) - 1) = ((xs.length - 1 : Nat) : Int) from by omega]; exact wrI64 (by omega) (by omega)) ?_)
  refine opW_x (w_assign rfl rfl rfl ?_)
  refine w_keep [(0, _), (2, _), (3, _)] ⟨rfl, rfl, rfl, trivial⟩ ?_
  refine w_seq_region ?_
  refine opW_x (w_move rfl rfl rfl ?_)
  refine opW_x (w_nilCheck rfl rfl rfl ?_)
  refine opW_x (w_load1 rfl rfl lk141 rfl (atL 0 rfl rfl rfl) ?_)
  refine opW_x (w_move rfl rfl rfl ?_)
  obtain ⟨w, hw⟩ := getLt (xs := xs) (i := (xs.length - 1)) (by first | omega | (simp; done) | (simp; omega))
  obtain ⟨bb2, _, hp2, rfl, hw2, hc2⟩ := hv.row hw
  refine opW_x (w_ixP hp2 rfl rfl Try.underlying131 sz3 rfl rfl (by first | omega | (simp; done) | (simp; omega)) (by first | omega | (simp; done) | (simp; omega)) ?_)
  rw [hz] at hw
  cases hw
  refine opW_x (w_load1 rfl rfl lk3 rfl (hc2 _ 1 rfl 0 _ rfl) ?_)
  refine opW_x (w_assign rfl rfl rfl ?_)
  refine w_keep [(0, _), (2, _), (3, _), (4, _)] ⟨rfl, rfl, rfl, rfl, trivial⟩ ?_
  refine w_seq_region ?_
  refine opW_x (w_move rfl rfl rfl ?_)
  refine opW_x (w_move rfl rfl rfl ?_)
  refine opW_x (w_nilCheck rfl rfl rfl ?_)
  refine opW_x (w_load1 rfl rfl lk141 rfl (atL 0 rfl rfl rfl) ?_)
  refine opW_x (w_move rfl rfl rfl ?_)
  refine opW_x (w_sliceV rfl rfl Try.underlying131 sz3 rfl (a := 0) (b := xs.length - 1) rfl ⟨_, _, rfl, rfl⟩ (by omega) (by omega) ?_)
  rw [hs0]
  refine opW_x (w_nilCheck rfl rfl rfl ?_)
  refine opW_x (w_store [_] 0 [_] rfl rfl sz141 rfl rfl rfl rfl rfl rfl rfl rfl ?_)
  refine w_tidy [(0, _), (2, _), (3, _), (4, _)] [_, _] ⟨rfl, rfl, rfl, rfl, trivial⟩ rfl ?_
  refine w_seq_region ?_
  refine opW_x (w_move rfl rfl rfl ?_)
  refine opW_x (w_makeIface rfl rfl Try.underlying3 rfl rfl ?_)
  refine opW_x (w_assign rfl rfl rfl ?_)
  refine w_keep [(0, _), (2, _), (3, _), (4, _)] ⟨rfl, rfl, rfl, rfl, trivial⟩ ?_
  refine w_ret ?_
  exact endN .ret (.inl rfl) [_] [0, 1] rfl ⟨rfl, trivial⟩ ⟨rfl, rfl, rfl, hv9⟩

set_option maxRecDepth 4000 in
set_option maxHeartbeats 400000 in
theorem idSwap_c (q : Option Addr) (cp : Nat) (xs : List Int) (l : Cells) (i j : Nat) (a b : Int) (hi : xs[i]? = some a) (hj : xs[j]? = some b) (hn : xs.length ≤ 2000000) (B : Kn) (hv : VecR B l q cp 3 1 IntR xs) : CallsB Try.prog 166 [.slice q xs.length cp, .int .i64 i, .int .i64 j] B [l] (fun v B' Ls => B' = B ∧ ∃ l', Ls = [l'] ∧ VecR B l' q cp 3 1 IntR ((xs.set i b).set j a)) := by
  refine callsB_body 20 Try.func166 rfl rfl rfl (Nat.le_of_ble_eq_true rfl) ?_
  have hil := lt_of_get hi
  have hjl := lt_of_get hj
  refine w_draw (keeps _ [0] _) mo (by kernel_rfl) ⟨Kn.le.refl _, keepsL.refl _ _⟩ ?_
  refine any_takeP 0 rfl (by kernel_rfl) rfl (fun D B L => w_move rfl rfl rfl ⟨rfl, rfl, rfl, rfl⟩) ?_
  refine any_takeP 1 rfl (by kernel_rfl) rfl (fun D B L => w_move rfl rfl rfl ⟨rfl, rfl, rfl, rfl⟩) ?_
  refine any_takeP 2 rfl (by kernel_rfl) rfl (fun D B L => w_move rfl rfl rfl ⟨rfl, rfl, rfl, rfl⟩) ?_
  refine any_takeP 3 rfl (by kernel_rfl) rfl (fun D B L => w_move rfl rfl rfl ⟨rfl, rfl, rfl, rfl⟩) ?_
  refine any_takeP 4 rfl (by kernel_rfl) rfl (fun D B L => w_move rfl rfl rfl ⟨rfl, rfl, rfl, rfl⟩) ?_
  refine any_takeP 5 rfl (by kernel_rfl) rfl (fun D B L => w_move rfl rfl rfl ⟨rfl, rfl, rfl, rfl⟩) ?_
  obtain ⟨y, hy⟩ := getLt (xs := xs) (i := j) (by first | omega | (simp; done) | (simp; omega))
  obtain ⟨bb2, _, hp2, rfl, hw2, hc2⟩ := hv.row hy
  refine any_take 6 rfl (by kernel_rfl) rfl (q_ofI fun D B L hI => w_ixP hp2 rfl rfl Try.underlying131 sz3 rfl rfl (by first | omega | (simp; done) | (simp; omega)) (by first | omega | (simp; done) | (simp; omega)) ⟨rfl, rfl, rfl, rfl⟩) ?_
  refine any_take 7 rfl (by kernel_rfl) rfl (q_ofI fun D B L hI => w_load1 rfl rfl lk3 rfl (hc2 _ 0 (hI.2.1.trans rfl) 0 _ rfl) ⟨rfl, rfl, rfl, rfl⟩) ?_
  refine any_takeP 8 rfl (by kernel_rfl) rfl (fun D B L => w_move rfl rfl rfl ⟨rfl, rfl, rfl, rfl⟩) ?_
  refine any_takeP 9 rfl (by kernel_rfl) rfl (fun D B L => w_move rfl rfl rfl ⟨rfl, rfl, rfl, rfl⟩) ?_
  obtain ⟨x, hx⟩ := getLt (xs := xs) (i := i) (by first | omega | (simp; done) | (simp; omega))
  obtain ⟨bb4, _, hp4, rfl, hw4, hc4⟩ := hv.row hx
  refine any_take 10 rfl (by kernel_rfl) rfl (q_ofI fun D B L hI => w_ixP hp4 rfl rfl Try.underlying131 sz3 rfl rfl (by first | omega | (simp; done) | (simp; omega)) (by first | omega | (simp; done) | (simp; omega)) ⟨rfl, rfl, rfl, rfl⟩) ?_
  refine any_take 11 rfl (by kernel_rfl) rfl (q_ofI fun D B L hI => w_load1 rfl rfl lk3 rfl (hc4 _ 0 (hI.2.1.trans rfl) 0 _ rfl) ⟨rfl, rfl, rfl, rfl⟩) ?_
  obtain ⟨bb5, _, hp5, rfl, hw5, hc5⟩ := hv.row hx
  refine any_take 12 rfl (by kernel_rfl) rfl (q_ofI fun D B L hI => w_ixP hp5 rfl rfl Try.underlying131 sz3 rfl rfl (by first | omega | (simp; done) | (simp; omega)) (by first | omega | (simp; done) | (simp; omega)) ⟨rfl, rfl, rfl, rfl⟩) ?_
  refine any_sto 13 (by kernel_rfl) rfl (by kernel_rfl) (by kernel_rfl) (w_stO (k := i) (off := 0) (y) [_] 0 hv hp5 hx rfl rfl sz3 rfl rfl rfl rfl rfl rfl ((fun row h => by cases h; rfl)) (fun l6 hv6 => ?_))
  obtain ⟨w, hw⟩ := getLt (xs := (xs.set i (y))) (i := j) (by first | omega | (simp; done) | (simp; omega))
  obtain ⟨bb8, _, hp8, rfl, hw8, hc8⟩ := hv6.row hw
  refine any_take 14 rfl (by kernel_rfl) rfl (q_ofI fun D B L hI => w_ixP hp8 rfl rfl Try.underlying131 sz3 rfl rfl (by first | omega | (simp; done) | (simp; omega)) (by first | omega | (simp; done) | (simp; omega)) ⟨rfl, rfl, rfl, rfl⟩) ?_
  refine any_fin 15 (by kernel_rfl) rfl (by kernel_rfl) (by kernel_rfl) (by kernel_rfl) (w_stO (k := j) (off := 0) (x) [_] 0 hv6 hp8 hw rfl rfl sz3 rfl rfl rfl rfl rfl rfl ((fun row h => by cases h; rfl)) (fun l9 hv9 => ?_))
  rw [hi] at hx
  cases hx
  rw [hj] at hy
  cases hy
  exact endN .normal (.inr rfl) [] [0] rfl trivial ⟨rfl, _, rfl, hv9⟩

set_option maxRecDepth 4000 in
set_option maxHeartbeats 400000 in
theorem heapUp_c (b : Nat) (q : Option Addr) (cp : Nat) (xs : List Int) (l : Cells) (j : Nat) (hj : j < xs.length) (hn : xs.length ≤ 2000000) (hh : HeapBut xs j) (B : Kn) (hv : VecR B l q cp 3 1 IntR xs) : CallsB Try.prog 135 [.iface 140 (ptr ⟨b, 0, none⟩), .int .i64 j] B [box1 b [.slice q xs.length cp] 141, l] (fun v B' Ls => B' = B ∧ ∃ ys l', Ls = [box1 b [.slice q ys.length cp] 141, l'] ∧ VecR B l' q cp 3 1 IntR ys ∧ ys.Perm xs ∧ IsHeap ys) := by
  refine callsB_body 23 Try.func135 rfl rfl rfl (Nat.le_of_ble_eq_true rfl) ?_
  refine w_block ?_
  refine w_loopE (α := Nat × List Int × Cells) [0] (fun g => [(1, .int .i64 g.1)]) [0, 1] (fun g => [box1 b [.slice q g.2.1.length cp] 141, g.2.2]) (fun g Bx => Bx = B ∧ g.1 < g.2.1.length ∧ g.2.1.Perm xs ∧ HeapBut g.2.1 g.1 ∧ VecR B g.2.2 q cp 3 1 IntR g.2.1) (fun g => g.1) (j, xs, l) ⟨rfl, trivial⟩ rfl (⟨rfl, hj, .refl _, hh, hv⟩) (fun g B1 hle1 hI => ?_)
  obtain ⟨rfl, hk, hp, hb, hv⟩ := hI
  have hpl := hp.length_eq
  refine w_tidy [(0, _), (1, _)] [_, _] ⟨rfl, rfl, trivial⟩ rfl ?_
  refine w_block ?_
  refine w_seq_region ?_
  refine opW_x (w_move rfl rfl rfl ?_)
  refine opW_x (w_sub rfl rfl rfl rfl (wrI64 (by omega) (by omega)) ?_)
  refine opW_x (w_quo (r := (((g.1 - 1) / 2 : Nat) : Int)) rfl rfl rfl rfl (by omega) (by rw [show Int.tdiv ((g.1 : Int) - 1) 2 = (((g.1 - 1) / 2 : Nat) : Int) from tdivP g.1]; exact wrI64 (by omega) (by omega)) ?_)
  refine opW_x (w_assign rfl rfl rfl ?_)
  refine w_keep [(0, _), (1, _), (4, _)] ⟨rfl, rfl, rfl, trivial⟩ ?_
  refine w_seq ?_
  refine w_seq_region ?_
  refine opW_x (w_move rfl rfl rfl ?_)
  refine opW_x (w_move rfl rfl rfl ?_)
  refine opW_x (w_eqlI rfl rfl rfl rfl ?_)
  refine opW_x (w_move rfl rfl rfl ?_)
  refine r_split (d := 11) rfl (fun g1 => ?_) (fun g1 => ?_)
  · try simp only [decide_eq_true_eq, decide_eq_false_iff_not, Bool.not_eq_true', Bool.not_eq_false', decide_not, Decidable.not_not, Int.not_lt, Int.not_le, ne_eq] at g1
    refine opW_x (w_pass rfl rfl ?_)
    refine opW_x (w_pass rfl rfl ?_)
    refine opW_x (w_pass rfl rfl ?_)
    refine opW_x (w_pass rfl rfl ?_)
    refine opW_x (w_pass rfl rfl ?_)
    refine opW_x (w_pickT rfl rfl rfl rfl ?_)
    refine w_keep [(0, _), (1, _), (4, _), (17, _)] ⟨rfl, rfl, rfl, rfl, trivial⟩ ?_
    refine w_cond (t := true) rfl (fun _ => ?_) (fun h => Bool.noConfusion h)
    refine w_exit (thn_x (inB_miss rfl (rndE_x (inB_hit ?_))))
    exact endN .normal (.inr rfl) [] [0, 1] rfl trivial ⟨rfl, _, _, rfl, hv, hp, up_zero (by rw [show g.1 = 0 from by omega] at hb; exact hb)⟩
  · try simp only [decide_eq_true_eq, decide_eq_false_iff_not, Bool.not_eq_true', Bool.not_eq_false', decide_not, Decidable.not_not, Int.not_lt, Int.not_le, ne_eq] at g1
    refine opW_x (w_move rfl rfl rfl ?_)
    refine opW_x (w_move rfl rfl rfl ?_)
    refine opW_x (w_move rfl rfl rfl ?_)
    refine opW_x (w_invR1 1 rfl rfl rfl en163 rfl rfl (found_val mth140Less Try.underlying140 lk141 (atL 0 rfl rfl rfl)) (RetB.borrow fun hm2 => idLess_c _ _ _ _ _ _ _ (get_hat (by omega)) (get_hat (by omega)) _ (hv.lend IntR.mono hm2 (by first | omega | (simp; done) | (simp; omega)))) ?_)
    refine opW_x (w_not rfl rfl rfl ?_)
    refine opW_x (w_pickF rfl rfl rfl rfl ?_)
    refine w_keep [(0, _), (1, _), (4, _), (17, _)] ⟨rfl, rfl, rfl, rfl, trivial⟩ ?_
    refine w_cond rfl (fun g2 => ?_) (fun g2 => ?_)
    · try simp only [decide_eq_true_eq, decide_eq_false_iff_not, Bool.not_eq_true', Bool.not_eq_false', decide_not, Decidable.not_not, Int.not_lt, Int.not_le, ne_eq] at g2
      refine w_exit (thn_x (inB_miss rfl (rndE_x (inB_hit ?_))))
      exact endN .normal (.inr rfl) [] [0, 1] rfl trivial ⟨rfl, _, _, rfl, hv, hp, up_done hb (by simpa using g2)⟩
    · try simp only [decide_eq_true_eq, decide_eq_false_iff_not, Bool.not_eq_true', Bool.not_eq_false', decide_not, Decidable.not_not, Int.not_lt, Int.not_le, ne_eq] at g2
      refine w_skip ?_
      refine thn_n ?_
      refine w_seq_region ?_
      refine opW_x (w_move rfl rfl rfl ?_)
      refine opW_x (w_move rfl rfl rfl ?_)
      refine opW_x (w_move rfl rfl rfl ?_)
      refine opW_x (w_invN [1] rfl rfl rfl rfl en166 rfl rfl (found_val mth140Swap Try.underlying140 lk141 (atL 0 rfl rfl rfl)) (idSwap_c _ _ _ _ _ _ _ _ (get_hat (by omega)) (get_hat (by omega)) (by omega) _ hv) ?_)
      rintro _ _ _ hle3 ⟨rfl, l3, rfl, hv3⟩
      refine w_tidy [(0, _), (1, _), (4, _), (17, _)] [_, _] ⟨rfl, rfl, rfl, rfl, trivial⟩ rfl ?_
      refine w_region ?_
      refine opW_x (w_move rfl rfl rfl ?_)
      refine opW_x (w_assign rfl rfl rfl ?_)
      refine inB_n ?_
      rw [← swp_len g.2.1 ((g.1 - 1) / 2) g.1]
      exact rndE_n ((g.1 - 1) / 2, (swp g.2.1 ((g.1 - 1) / 2) g.1), l3) [0, 1] (by simp only []; omega) ⟨rfl, by have := swp_len g.2.1 ((g.1 - 1) / 2) g.1; simp only []; omega, (swp_perm (by omega) (by omega)).trans hp, up_step (by omega) (by omega) hb (by simpa using g2), hv3⟩ ⟨rfl, rfl, trivial⟩ rfl

set_option maxRecDepth 4000 in
set_option maxHeartbeats 400000 in
theorem heapPush_c (b : Nat) (q : Option Addr) (cp : Nat) (xs : List Int) (l : Cells) (z : Int) (hn : xs.length < 2000000) (hh : IsHeap xs) (B : Kn) (hv : VecR B l q cp 3 1 IntR xs) : CallsB Try.prog 112 [.iface 140 (ptr ⟨b, 0, none⟩), .iface 3 (.int .i64 z)] B [box1 b [.slice q xs.length cp] 141, l] (fun v B' Ls => B' = B ∧ ∃ q' c' ys l', Ls = [box1 b [.slice q' ys.length c'] 141, l'] ∧ VecR B l' q' c' 3 1 IntR ys ∧ ys.Perm (xs ++ [z]) ∧ IsHeap ys) := by
  refine callsB_body 12 Try.func112 rfl rfl rfl (Nat.le_of_ble_eq_true rfl) ?_
  refine w_seq_region ?_
  refine opW_x (w_move rfl rfl rfl ?_)
  refine opW_x (w_move rfl rfl rfl ?_)
  refine opW_x (w_invN [0, 1] rfl rfl rfl rfl en165 rfl rfl (found_ptr mth140Push Try.underlying140) (idPush_c _ _ _ _ _ _ (by omega) _ hv) ?_)
  rintro _ _ _ hle1 ⟨rfl, q1, c1, l1, rfl, hv1⟩
  refine w_tidy [(0, _), (1, _)] [_, _] ⟨rfl, rfl, trivial⟩ rfl ?_
  refine w_region ?_
  refine opW_x (w_move rfl rfl rfl ?_)
  refine opW_x (w_move rfl rfl rfl ?_)
  refine opW_x (w_invR1 1 rfl rfl rfl en162 rfl rfl (found_val mth140Len Try.underlying140 lk141 (atL 0 rfl rfl rfl)) (RetB.borrow fun hm2 => idLen_c _ _ _ _) ?_)
  refine opW_x (w_sub (r := ((xs.length : Nat) : Int)) rfl rfl rfl rfl ((congrArg _ (show _ = ((xs.length : Nat) : Int) from by rw [List.length_append, List.length_singleton]; omega)).trans (wrI64 (by omega) (by omega))) ?_)
  refine opW_x (w_callN [0, 1] rfl rfl rfl rfl en135 rfl (heapUp_c _ _ _ _ _ _ (by simp) (by simp; omega) (push_but hh) _ hv1) ?_)
  rintro _ _ _ hleu ⟨rfl, ysu, lu, rfl, hvu, hpu, hhu⟩
  exact endN .normal (.inr rfl) [] [0, 1] rfl trivial ⟨rfl, _, _, _, _, rfl, hvu, hpu, hhu⟩

set_option maxRecDepth 4000 in
set_option maxHeartbeats 400000 in
theorem heapDown_c (b : Nat) (q : Option Addr) (cp : Nat) (xs : List Int) (l : Cells) (m : Nat) (hm : m ≤ xs.length) (hm0 : 0 < xs.length) (hn : xs.length ≤ 2000000) (hh : DownBut xs m 0) (B : Kn) (hv : VecR B l q cp 3 1 IntR xs) : CallsB Try.prog 136 [.iface 140 (ptr ⟨b, 0, none⟩), .int .i64 0, .int .i64 m] B [box1 b [.slice q xs.length cp] 141, l] (fun v B' Ls => B' = B ∧ ∃ ys l', Ls = [box1 b [.slice q ys.length cp] 141, l'] ∧ VecR B l' q cp 3 1 IntR ys ∧ ys.Perm xs ∧ HeapN ys m ∧ (∀ k, m ≤ k → hat ys k = hat xs k)) := by
  refine callsB_body 48 Try.func136 rfl rfl rfl (Nat.le_of_ble_eq_true rfl) ?_
  refine w_seq_region ?_
  refine opW_x (w_assign rfl rfl rfl ?_)
  refine w_keep [(0, _), (1, _), (2, _), (6, _)] ⟨rfl, rfl, rfl, rfl, trivial⟩ ?_
  refine w_seq_region ?_
  refine opW_x (w_move rfl rfl rfl ?_)
  refine opW_x (w_assign rfl rfl rfl ?_)
  refine w_keep [(0, _), (1, _), (2, _), (6, _), (7, _)] ⟨rfl, rfl, rfl, rfl, rfl, trivial⟩ ?_
  refine w_seq ?_
  refine w_block ?_
  refine w_loopE (α := Nat × List Int × Cells) [0, 1, 2, 6] (fun g => [(7, .int .i64 g.1)]) [0, 1] (fun g => [box1 b [.slice q g.2.1.length cp] 141, g.2.2]) (fun g Bx => Bx = B ∧ g.1 < g.2.1.length ∧ g.2.1.Perm xs ∧ DownBut g.2.1 m g.1 ∧ (∀ k, m ≤ k → hat g.2.1 k = hat xs k) ∧ VecR B g.2.2 q cp 3 1 IntR g.2.1) (fun g => xs.length - g.1) (0, xs, l) ⟨rfl, trivial⟩ rfl (⟨rfl, hm0, .refl _, hh, fun _ _ => rfl, hv⟩) (fun g B1 hle1 hI => ?_)
  obtain ⟨rfl, hk, hp, hb, hs, hv⟩ := hI
  have hpl := hp.length_eq
  refine w_tidy [(0, _), (1, _), (2, _), (6, _), (7, _)] [_, _] ⟨rfl, rfl, rfl, rfl, rfl, trivial⟩ rfl ?_
  refine w_block ?_
  refine w_seq_region ?_
  refine opW_x (w_move rfl rfl rfl ?_)
  refine opW_x (w_mul (r := ((2 * g.1 : Nat) : Int)) rfl rfl rfl rfl ((congrArg _ (show _ = ((2 * g.1 : Nat) : Int) from by omega)).trans (wrI64 (by omega) (by omega))) ?_)
  refine opW_x (w_add (r := ((2 * g.1 + 1 : Nat) : Int)) rfl rfl rfl rfl ((congrArg _ (show _ = ((2 * g.1 + 1 : Nat) : Int) from by omega)).trans (wrI64 (by omega) (by omega))) ?_)
  refine opW_x (w_assign rfl rfl rfl ?_)
  refine w_keep [(0, _), (1, _), (2, _), (6, _), (7, _), (8, _)] ⟨rfl, rfl, rfl, rfl, rfl, rfl, trivial⟩ ?_
  refine w_seq ?_
  refine w_seq_region ?_
  refine opW_x (w_move rfl rfl rfl ?_)
  refine opW_x (w_move rfl rfl rfl ?_)
  refine opW_x (w_geq rfl rfl rfl rfl ?_)
  refine opW_x (w_move rfl rfl rfl ?_)
  refine r_split (d := 18) rfl (fun g1 => ?_) (fun g1 => ?_)
  · try simp only [decide_eq_true_eq, decide_eq_false_iff_not, Bool.not_eq_true', Bool.not_eq_false', decide_not, Decidable.not_not, Int.not_lt, Int.not_le, ne_eq] at g1
    refine opW_x (w_pass rfl rfl ?_)
    refine opW_x (w_pass rfl rfl ?_)
    refine opW_x (w_pickT rfl rfl rfl rfl ?_)
    refine w_keep [(0, _), (1, _), (2, _), (6, _), (7, _), (8, _), (21, _)] ⟨rfl, rfl, rfl, rfl, rfl, rfl, rfl, trivial⟩ ?_
    refine w_cond (t := true) rfl (fun _ => ?_) (fun h => Bool.noConfusion h)
    refine w_exit (thn_x (inB_miss rfl (rndE_x (inB_hit (thn_n ?_)))))
    refine w_seq_region ?_
    refine opW_x (w_move rfl rfl rfl ?_)
    refine opW_x (w_move rfl rfl rfl ?_)
    refine opW_x (w_gtr rfl rfl rfl rfl ?_)
    refine opW_x (w_assign rfl rfl rfl ?_)
    refine w_keep [(0, _), (1, _), (2, _), (6, _), (7, _), (8, _), (21, _)] ⟨rfl, rfl, rfl, rfl, rfl, rfl, rfl, trivial⟩ ?_
    refine w_ret ?_
    exact endN .ret (.inl rfl) [_] [0, 1] rfl ⟨rfl, trivial⟩ ⟨rfl, _, _, rfl, hv, hp, down_leaf hb (by omega), hs⟩
  · try simp only [decide_eq_true_eq, decide_eq_false_iff_not, Bool.not_eq_true', Bool.not_eq_false', decide_not, Decidable.not_not, Int.not_lt, Int.not_le, ne_eq] at g1
    refine opW_x (w_move rfl rfl rfl ?_)
    refine opW_x (w_lss rfl rfl rfl rfl ?_)
    refine opW_x (w_pickF rfl rfl rfl rfl ?_)
    refine w_keep [(0, _), (1, _), (2, _), (6, _), (7, _), (8, _), (21, _)] ⟨rfl, rfl, rfl, rfl, rfl, rfl, rfl, trivial⟩ ?_
    refine w_cond rfl (fun g2 => by have := of_decide_eq_true g2; omega) (fun g2 => ?_)
    try simp only [decide_eq_true_eq, decide_eq_false_iff_not, Bool.not_eq_true', Bool.not_eq_false', decide_not, Decidable.not_not, Int.not_lt, Int.not_le, ne_eq] at g2
    refine w_skip ?_
    refine thn_n ?_
    refine w_seq_region ?_
    refine opW_x (w_move rfl rfl rfl ?_)
    refine opW_x (w_assign rfl rfl rfl ?_)
    refine w_keep [(0, _), (1, _), (2, _), (6, _), (7, _), (8, _), (9, _), (21, _)] ⟨rfl, rfl, rfl, rfl, rfl, rfl, rfl, rfl, trivial⟩ ?_
    refine w_seq ?_
    refine w_seq_region ?_
    refine opW_x (w_move rfl rfl rfl ?_)
    refine opW_x (w_add (r := ((2 * g.1 + 1 + 1 : Nat) : Int)) rfl rfl rfl rfl ((congrArg _ (show _ = ((2 * g.1 + 1 + 1 : Nat) : Int) from by omega)).trans (wrI64 (by omega) (by omega))) ?_)
    refine opW_x (w_assign rfl rfl rfl ?_)
    refine w_keep [(0, _), (1, _), (2, _), (6, _), (7, _), (8, _), (9, _), (10, _), (21, _)] ⟨rfl, rfl, rfl, rfl, rfl, rfl, rfl, rfl, rfl, trivial⟩ ?_
    refine w_seq_region ?_
    refine opW_x (w_move rfl rfl rfl ?_)
    refine opW_x (w_move rfl rfl rfl ?_)
    refine opW_x (w_lss rfl rfl rfl rfl ?_)
    refine opW_x (w_move rfl rfl rfl ?_)
    refine r_split (d := 28) rfl (fun g3 => ?_) (fun g3 => ?_)
    · try simp only [decide_eq_true_eq, decide_eq_false_iff_not, Bool.not_eq_true', Bool.not_eq_false', decide_not, Decidable.not_not, Int.not_lt, Int.not_le, ne_eq] at g3
      refine opW_x (w_move rfl rfl rfl ?_)
      refine opW_x (w_move rfl rfl rfl ?_)
      refine opW_x (w_move rfl rfl rfl ?_)
      refine opW_x (w_invR1 1 rfl rfl rfl en163 rfl rfl (found_val mth140Less Try.underlying140 lk141 (atL 0 rfl rfl rfl)) (RetB.borrow fun hm2 => idLess_c _ _ _ _ _ _ _ (get_hat (by omega)) (get_hat (by omega)) _ (hv.lend IntR.mono hm2 (by first | omega | (simp; done) | (simp; omega)))) ?_)
      refine opW_x (w_pickT rfl rfl rfl rfl ?_)
      refine w_keep [(0, _), (1, _), (2, _), (6, _), (7, _), (8, _), (9, _), (10, _), (21, _), (33, _)] ⟨rfl, rfl, rfl, rfl, rfl, rfl, rfl, rfl, rfl, rfl, trivial⟩ ?_
      refine w_cond rfl (fun g4 => ?_) (fun g4 => ?_)
      · try simp only [decide_eq_true_eq, decide_eq_false_iff_not, Bool.not_eq_true', Bool.not_eq_false', decide_not, Decidable.not_not, Int.not_lt, Int.not_le, ne_eq] at g4
        refine w_region ?_
        refine opW_x (w_move rfl rfl rfl ?_)
        refine opW_x (w_assign rfl rfl rfl ?_)
        refine thn_n ?_
        refine w_seq ?_
        refine w_seq_region ?_
        refine opW_x (w_move rfl rfl rfl ?_)
        refine opW_x (w_move rfl rfl rfl ?_)
        refine opW_x (w_move rfl rfl rfl ?_)
        refine opW_x (w_invR1 1 rfl rfl rfl en163 rfl rfl (found_val mth140Less Try.underlying140 lk141 (atL 0 rfl rfl rfl)) (RetB.borrow fun hm3 => idLess_c _ _ _ _ _ _ _ (get_hat (by omega)) (get_hat (by omega)) _ (hv.lend IntR.mono hm3 (by first | omega | (simp; done) | (simp; omega)))) ?_)
        refine opW_x (w_not rfl rfl rfl ?_)
        refine w_keep [(0, _), (1, _), (2, _), (6, _), (7, _), (8, _), (9, _), (10, _), (21, _), (33, _), (39, _)] ⟨rfl, rfl, rfl, rfl, rfl, rfl, rfl, rfl, rfl, rfl, rfl, trivial⟩ ?_
        refine w_cond rfl (fun g5 => ?_) (fun g5 => ?_)
        · try simp only [decide_eq_true_eq, decide_eq_false_iff_not, Bool.not_eq_true', Bool.not_eq_false', decide_not, Decidable.not_not, Int.not_lt, Int.not_le, ne_eq] at g5
          refine w_exit (thn_x (inB_miss rfl (rndE_x (inB_hit (thn_n ?_)))))
          refine w_seq_region ?_
          refine opW_x (w_move rfl rfl rfl ?_)
          refine opW_x (w_move rfl rfl rfl ?_)
          refine opW_x (w_gtr rfl rfl rfl rfl ?_)
          refine opW_x (w_assign rfl rfl rfl ?_)
          refine w_keep [(0, _), (1, _), (2, _), (6, _), (7, _), (8, _), (9, _), (10, _), (21, _), (33, _), (39, _)] ⟨rfl, rfl, rfl, rfl, rfl, rfl, rfl, rfl, rfl, rfl, rfl, trivial⟩ ?_
          refine w_ret ?_
          exact endN .ret (.inl rfl) [_] [0, 1] rfl ⟨rfl, trivial⟩ ⟨rfl, _, _, rfl, hv, hp, down_done hb (by intro k h0 hk he; (try simp only [decide_eq_true_eq, decide_eq_false_iff_not, Bool.not_eq_true', Bool.not_eq_false', Int.not_lt] at *); rcases (show k = 2 * g.1 + 1 ∨ k = 2 * g.1 + 1 + 1 from by omega) with rfl | rfl <;> omega), hs⟩
        · try simp only [decide_eq_true_eq, decide_eq_false_iff_not, Bool.not_eq_true', Bool.not_eq_false', decide_not, Decidable.not_not, Int.not_lt, Int.not_le, ne_eq] at g5
          refine w_skip ?_
          refine thn_n ?_
          refine w_seq_region ?_
          refine opW_x (w_move rfl rfl rfl ?_)
          refine opW_x (w_move rfl rfl rfl ?_)
          refine opW_x (w_move rfl rfl rfl ?_)
          refine opW_x (w_invN [1] rfl rfl rfl rfl en166 rfl rfl (found_val mth140Swap Try.underlying140 lk141 (atL 0 rfl rfl rfl)) (idSwap_c _ _ _ _ _ _ _ _ (get_hat (by omega)) (get_hat (by omega)) (by omega) _ hv) ?_)
          rintro _ _ _ hle4 ⟨rfl, l4, rfl, hv4⟩
          refine w_tidy [(0, _), (1, _), (2, _), (6, _), (7, _), (8, _), (9, _), (10, _), (21, _), (33, _), (39, _)] [_, _] ⟨rfl, rfl, rfl, rfl, rfl, rfl, rfl, rfl, rfl, rfl, rfl, trivial⟩ rfl ?_
          refine w_region ?_
          refine opW_x (w_move rfl rfl rfl ?_)
          refine opW_x (w_assign rfl rfl rfl ?_)
          refine inB_n ?_
          rw [← swp_len g.2.1 g.1 (2 * g.1 + 1 + 1)]
          have h5 : hat g.2.1 (2 * g.1 + 1 + 1) < hat g.2.1 g.1 := by simpa using g5
          exact rndE_n (2 * g.1 + 1 + 1, (swp g.2.1 g.1 (2 * g.1 + 1 + 1)), l4) [0, 1] (by simp only []; omega) ⟨rfl, by have := swp_len g.2.1 g.1 (2 * g.1 + 1 + 1); simp only []; omega, (swp_perm (by omega) (by omega)).trans hp, down_step (by omega) (by omega) (by omega) (by omega) hb (by intro k h0 hk he; (try simp only [decide_eq_true_eq, decide_eq_false_iff_not, Bool.not_eq_true', Bool.not_eq_false', Int.not_lt] at *); rcases (show k = 2 * g.1 + 1 ∨ k = 2 * g.1 + 1 + 1 from by omega) with rfl | rfl <;> omega) h5, (fun k hk => by rw [hat_swp (by omega) (by omega), if_neg (by omega), if_neg (by omega)]; exact hs k hk), hv4⟩ ⟨rfl, rfl, rfl, rfl, rfl, trivial⟩ rfl
      · try simp only [decide_eq_true_eq, decide_eq_false_iff_not, Bool.not_eq_true', Bool.not_eq_false', decide_not, Decidable.not_not, Int.not_lt, Int.not_le, ne_eq] at g4
        refine w_skip ?_
        refine thn_n ?_
        refine w_seq ?_
        refine w_seq_region ?_
        refine opW_x (w_move rfl rfl rfl ?_)
        refine opW_x (w_move rfl rfl rfl ?_)
        refine opW_x (w_move rfl rfl rfl ?_)
        refine opW_x (w_invR1 1 rfl rfl rfl en163 rfl rfl (found_val mth140Less Try.underlying140 lk141 (atL 0 rfl rfl rfl)) (RetB.borrow fun hm5 => idLess_c _ _ _ _ _ _ _ (get_hat (by omega)) (get_hat (by omega)) _ (hv.lend IntR.mono hm5 (by first | omega | (simp; done) | (simp; omega)))) ?_)
        refine opW_x (w_not rfl rfl rfl ?_)
        refine w_keep [(0, _), (1, _), (2, _), (6, _), (7, _), (8, _), (9, _), (10, _), (21, _), (33, _), (39, _)] ⟨rfl, rfl, rfl, rfl, rfl, rfl, rfl, rfl, rfl, rfl, rfl, trivial⟩ ?_
        refine w_cond rfl (fun g5 => ?_) (fun g5 => ?_)
        · try simp only [decide_eq_true_eq, decide_eq_false_iff_not, Bool.not_eq_true', Bool.not_eq_false', decide_not, Decidable.not_not, Int.not_lt, Int.not_le, ne_eq] at g5
          refine w_exit (thn_x (inB_miss rfl (rndE_x (inB_hit (thn_n ?_)))))
          refine w_seq_region ?_
          refine opW_x (w_move rfl rfl rfl ?_)
          refine opW_x (w_move rfl rfl rfl ?_)
          refine opW_x (w_gtr rfl rfl rfl rfl ?_)
          refine opW_x (w_assign rfl rfl rfl ?_)
          refine w_keep [(0, _), (1, _), (2, _), (6, _), (7, _), (8, _), (9, _), (10, _), (21, _), (33, _), (39, _)] ⟨rfl, rfl, rfl, rfl, rfl, rfl, rfl, rfl, rfl, rfl, rfl, trivial⟩ ?_
          refine w_ret ?_
          exact endN .ret (.inl rfl) [_] [0, 1] rfl ⟨rfl, trivial⟩ ⟨rfl, _, _, rfl, hv, hp, down_done hb (by intro k h0 hk he; (try simp only [decide_eq_true_eq, decide_eq_false_iff_not, Bool.not_eq_true', Bool.not_eq_false', Int.not_lt] at *); rcases (show k = 2 * g.1 + 1 ∨ k = 2 * g.1 + 1 + 1 from by omega) with rfl | rfl <;> omega), hs⟩
        · try simp only [decide_eq_true_eq, decide_eq_false_iff_not, Bool.not_eq_true', Bool.not_eq_false', decide_not, Decidable.not_not, Int.not_lt, Int.not_le, ne_eq] at g5
          refine w_skip ?_
          refine thn_n ?_
          refine w_seq_region ?_
          refine opW_x (w_move rfl rfl rfl ?_)
          refine opW_x (w_move rfl rfl rfl ?_)
          refine opW_x (w_move rfl rfl rfl ?_)
          refine opW_x (w_invN [1] rfl rfl rfl rfl en166 rfl rfl (found_val mth140Swap Try.underlying140 lk141 (atL 0 rfl rfl rfl)) (idSwap_c _ _ _ _ _ _ _ _ (get_hat (by omega)) (get_hat (by omega)) (by omega) _ hv) ?_)
          rintro _ _ _ hle6 ⟨rfl, l6, rfl, hv6⟩
          refine w_tidy [(0, _), (1, _), (2, _), (6, _), (7, _), (8, _), (9, _), (10, _), (21, _), (33, _), (39, _)] [_, _] ⟨rfl, rfl, rfl, rfl, rfl, rfl, rfl, rfl, rfl, rfl, rfl, trivial⟩ rfl ?_
          refine w_region ?_
          refine opW_x (w_move rfl rfl rfl ?_)
          refine opW_x (w_assign rfl rfl rfl ?_)
          refine inB_n ?_
          rw [← swp_len g.2.1 g.1 (2 * g.1 + 1)]
          have h5 : hat g.2.1 (2 * g.1 + 1) < hat g.2.1 g.1 := by simpa using g5
          exact rndE_n (2 * g.1 + 1, (swp g.2.1 g.1 (2 * g.1 + 1)), l6) [0, 1] (by simp only []; omega) ⟨rfl, by have := swp_len g.2.1 g.1 (2 * g.1 + 1); simp only []; omega, (swp_perm (by omega) (by omega)).trans hp, down_step (by omega) (by omega) (by omega) (by omega) hb (by intro k h0 hk he; (try simp only [decide_eq_true_eq, decide_eq_false_iff_not, Bool.not_eq_true', Bool.not_eq_false', Int.not_lt] at *); rcases (show k = 2 * g.1 + 1 ∨ k = 2 * g.1 + 1 + 1 from by omega) with rfl | rfl <;> omega) h5, (fun k hk => by rw [hat_swp (by omega) (by omega), if_neg (by omega), if_neg (by omega)]; exact hs k hk), hv6⟩ ⟨rfl, rfl, rfl, rfl, rfl, trivial⟩ rfl
    · try simp only [decide_eq_true_eq, decide_eq_false_iff_not, Bool.not_eq_true', Bool.not_eq_false', decide_not, Decidable.not_not, Int.not_lt, Int.not_le, ne_eq] at g3
      refine opW_x (w_pass rfl rfl ?_)
      refine opW_x (w_pass rfl rfl ?_)
      refine opW_x (w_pass rfl rfl ?_)
      refine opW_x (w_pass rfl rfl ?_)
      refine opW_x (w_pickF rfl rfl rfl rfl ?_)
      refine w_keep [(0, _), (1, _), (2, _), (6, _), (7, _), (8, _), (9, _), (10, _), (21, _), (33, _)] ⟨rfl, rfl, rfl, rfl, rfl, rfl, rfl, rfl, rfl, rfl, trivial⟩ ?_
      refine w_cond (t := false) rfl (fun h => Bool.noConfusion h) (fun _ => ?_)
      refine w_skip ?_
      refine thn_n ?_
      refine w_seq ?_
      refine w_seq_region ?_
      refine opW_x (w_move rfl rfl rfl ?_)
      refine opW_x (w_move rfl rfl rfl ?_)
      refine opW_x (w_move rfl rfl rfl ?_)
      refine opW_x (w_invR1 1 rfl rfl rfl en163 rfl rfl (found_val mth140Less Try.underlying140 lk141 (atL 0 rfl rfl rfl)) (RetB.borrow fun hm7 => idLess_c _ _ _ _ _ _ _ (get_hat (by omega)) (get_hat (by omega)) _ (hv.lend IntR.mono hm7 (by first | omega | (simp; done) | (simp; omega)))) ?_)
      refine opW_x (w_not rfl rfl rfl ?_)
      refine w_keep [(0, _), (1, _), (2, _), (6, _), (7, _), (8, _), (9, _), (10, _), (21, _), (33, _), (39, _)] ⟨rfl, rfl, rfl, rfl, rfl, rfl, rfl, rfl, rfl, rfl, rfl, trivial⟩ ?_
      refine w_cond rfl (fun g5 => ?_) (fun g5 => ?_)
      · try simp only [decide_eq_true_eq, decide_eq_false_iff_not, Bool.not_eq_true', Bool.not_eq_false', decide_not, Decidable.not_not, Int.not_lt, Int.not_le, ne_eq] at g5
        refine w_exit (thn_x (inB_miss rfl (rndE_x (inB_hit (thn_n ?_)))))
        refine w_seq_region ?_
        refine opW_x (w_move rfl rfl rfl ?_)
        refine opW_x (w_move rfl rfl rfl ?_)
        refine opW_x (w_gtr rfl rfl rfl rfl ?_)
        refine opW_x (w_assign rfl rfl rfl ?_)
        refine w_keep [(0, _), (1, _), (2, _), (6, _), (7, _), (8, _), (9, _), (10, _), (21, _), (33, _), (39, _)] ⟨rfl, rfl, rfl, rfl, rfl, rfl, rfl, rfl, rfl, rfl, rfl, trivial⟩ ?_
        refine w_ret ?_
        exact endN .ret (.inl rfl) [_] [0, 1] rfl ⟨rfl, trivial⟩ ⟨rfl, _, _, rfl, hv, hp, down_done hb (by intro k h0 hk he; (try simp only [decide_eq_true_eq, decide_eq_false_iff_not, Bool.not_eq_true', Bool.not_eq_false', Int.not_lt] at *); rcases (show k = 2 * g.1 + 1 ∨ k = 2 * g.1 + 1 + 1 from by omega) with rfl | rfl <;> omega), hs⟩
      · try simp only [decide_eq_true_eq, decide_eq_false_iff_not, Bool.not_eq_true', Bool.not_eq_false', decide_not, Decidable.not_not, Int.not_lt, Int.not_le, ne_eq] at g5
        refine w_skip ?_
        refine thn_n ?_
        refine w_seq_region ?_
        refine opW_x (w_move rfl rfl rfl ?_)
        refine opW_x (w_move rfl rfl rfl ?_)
        refine opW_x (w_move rfl rfl rfl ?_)
        refine opW_x (w_invN [1] rfl rfl rfl rfl en166 rfl rfl (found_val mth140Swap Try.underlying140 lk141 (atL 0 rfl rfl rfl)) (idSwap_c _ _ _ _ _ _ _ _ (get_hat (by omega)) (get_hat (by omega)) (by omega) _ hv) ?_)
        rintro _ _ _ hle8 ⟨rfl, l8, rfl, hv8⟩
        refine w_tidy [(0, _), (1, _), (2, _), (6, _), (7, _), (8, _), (9, _), (10, _), (21, _), (33, _), (39, _)] [_, _] ⟨rfl, rfl, rfl, rfl, rfl, rfl, rfl, rfl, rfl, rfl, rfl, trivial⟩ rfl ?_
        refine w_region ?_
        refine opW_x (w_move rfl rfl rfl ?_)
        refine opW_x (w_assign rfl rfl rfl ?_)
        refine inB_n ?_
        rw [← swp_len g.2.1 g.1 (2 * g.1 + 1)]
        have h5 : hat g.2.1 (2 * g.1 + 1) < hat g.2.1 g.1 := by simpa using g5
        exact rndE_n (2 * g.1 + 1, (swp g.2.1 g.1 (2 * g.1 + 1)), l8) [0, 1] (by simp only []; omega) ⟨rfl, by have := swp_len g.2.1 g.1 (2 * g.1 + 1); simp only []; omega, (swp_perm (by omega) (by omega)).trans hp, down_step (by omega) (by omega) (by omega) (by omega) hb (by intro k h0 hk he; (try simp only [decide_eq_true_eq, decide_eq_false_iff_not, Bool.not_eq_true', Bool.not_eq_false', Int.not_lt] at *); rcases (show k = 2 * g.1 + 1 ∨ k = 2 * g.1 + 1 + 1 from by omega) with rfl | rfl <;> omega) h5, (fun k hk => by rw [hat_swp (by omega) (by omega), if_neg (by omega), if_neg (by omega)]; exact hs k hk), hv8⟩ ⟨rfl, rfl, rfl, rfl, rfl, trivial⟩ rfl

set_option maxRecDepth 4000 in
set_option maxHeartbeats 400000 in
theorem heapPop_c (b : Nat) (q : Option Addr) (cp : Nat) (xs : List Int) (l : Cells) (hm0 : 0 < xs.length) (hn : xs.length ≤ 2000000) (hh : IsHeap xs) (B : Kn) (hv : VecR B l q cp 3 1 IntR xs) : CallsB Try.prog 113 [.iface 140 (ptr ⟨b, 0, none⟩)] B [box1 b [.slice q xs.length cp] 141, l] (fun v B' Ls => B' = B ∧ v = .iface 3 (.int .i64 (hat xs 0)) ∧ ∃ ys l', Ls = [box1 b [.slice q ys.length cp] 141, l'] ∧ VecR B l' q cp 3 1 IntR ys ∧ (hat xs 0 :: ys).Perm xs ∧ IsHeap ys) := by
  refine callsB_body 15 Try.func113 rfl rfl rfl (Nat.le_of_ble_eq_true rfl) ?_
  refine w_seq_region ?_
  refine opW_x (w_assign rfl rfl rfl ?_)
  refine w_keep [(0, _), (2, _)] ⟨rfl, rfl, trivial⟩ ?_
  refine w_seq_region ?_
  refine opW_x (w_move rfl rfl rfl ?_)
  refine opW_x (w_invR1 1 rfl rfl rfl en162 rfl rfl (found_val mth140Len Try.underlying140 lk141 (atL 0 rfl rfl rfl)) (RetB.borrow fun hm1 => idLen_c _ _ _ _) ?_)
  refine opW_x (w_sub (r := ((xs.length - 1 : Nat) : Int)) rfl rfl rfl rfl ((congrArg _ (show _ = ((xs.length - 1 : Nat) : Int) from by omega)).trans (wrI64 (by omega) (by omega))) ?_)
  refine opW_x (w_assign rfl rfl rfl ?_)
  refine w_keep [(0, _), (2, _), (3, _)] ⟨rfl, rfl, rfl, trivial⟩ ?_
  refine w_seq_region ?_
  refine opW_x (w_move rfl rfl rfl ?_)
  refine opW_x (w_move rfl rfl rfl ?_)
  refine opW_x (w_invN [1] rfl rfl rfl rfl en166 rfl rfl (found_val mth140Swap Try.underlying140 lk141 (atL 0 rfl rfl rfl)) (idSwap_c _ _ _ _ _ _ _ _ (get_hat (by omega)) (get_hat (by omega)) (by omega) _ hv) ?_)
  rintro _ _ _ hles ⟨rfl, ls, rfl, hvs⟩
  refine w_tidy [(0, _), (2, _), (3, _)] [_, _] ⟨rfl, rfl, rfl, trivial⟩ rfl ?_
  obtain ⟨zs, hzs, hzl⟩ : ∃ zs, zs = swp xs 0 (xs.length - 1) ∧ zs.length = xs.length := ⟨_, rfl, swp_len _ _ _⟩
  have hzz := hvs
  change VecR _ _ _ _ _ _ _ (swp xs 0 (xs.length - 1)) at hzz
  rw [← hzs] at hzz
  have hdb : DownBut zs (zs.length - 1) 0 := by rw [hzl, hzs]; exact pop_but hh hm0
  have hlz : hat zs (zs.length - 1) = hat xs 0 := by rw [hzl, hzs]; exact swp_last hm0
  have hpz : zs.Perm xs := hzs ▸ swp_perm hm0 (by omega)
  rw [← hzl]
  refine w_seq_region ?_
  refine opW_x (w_move rfl rfl rfl ?_)
  refine opW_x (w_move rfl rfl rfl ?_)
  refine opW_x (w_callN [0, 1] rfl rfl rfl rfl en136 rfl (heapDown_c _ _ _ _ _ _ (by omega) (by omega) (by omega) hdb _ hzz) ?_)
  rintro _ _ _ hled ⟨rfl, ysd, ld, rfl, hvd, hpd, hhd, hsd⟩
  refine w_tidy [(0, _), (2, _), (3, _)] [_, _] ⟨rfl, rfl, rfl, trivial⟩ rfl ?_
  have hdl := hpd.length_eq
  refine w_seq_region ?_
  refine opW_x (w_move rfl rfl rfl ?_)
  refine opW_x (w_invN [0, 1] rfl rfl rfl rfl en164 rfl rfl (found_ptr mth140Pop Try.underlying140) (idPop_c _ _ _ _ _ _ (get_hat (by omega)) (by omega) _ hvd) ?_)
  rintro _ _ _ hleo ⟨rfl, rfl, rfl, hvo⟩
  refine opW_x (w_assign rfl rfl rfl ?_)
  refine w_tidy [(0, _), (2, _), (3, _)] [_, _] ⟨rfl, rfl, rfl, trivial⟩ rfl ?_
  refine w_ret ?_
  have hz9 : hat ysd (ysd.length - 1) = hat xs 0 := by rw [hsd _ (by omega), hdl]; exact hlz
  exact endN .ret (.inl rfl) [_] [0, 1] rfl ⟨rfl, trivial⟩ ⟨rfl, by rw [hz9]; rfl, _, _, by rw [show (ysd.take (ysd.length - 1)).length = ysd.length - 1 from by simp], hvo, pop_perm (by omega) (hpd.trans hpz) hz9, heapN_take (by rw [hdl]; exact hhd) (by omega)⟩

set_option maxRecDepth 4000 in
set_option maxHeartbeats 400000 in
theorem idsAscend_c (q : Option Addr) (cp : Nat) (xs : List DItem) (last : Int) (B : Kn) (ha : SlK B q cp 4 ItemR xs) : RetB Try.prog 68 [.slice q xs.length cp, .int .i64 last] B (.bool (asc 0 last (xs.map (·.id)))) := by
  refine callsB_body 53 Try.func68 rfl rfl rfl (Nat.le_of_ble_eq_true rfl) ?_
  have hxn := ha.len
  refine w_seq_region ?_
  refine opW_x (w_assign rfl rfl rfl ?_)
  refine w_keep [(0, _), (1, _), (4, _)] ⟨rfl, rfl, rfl, trivial⟩ ?_
  refine w_seq_region ?_
  refine opW_x (w_buildSlice (parts := []) [] rfl rfl Try.underlying131 sz3 zo3 rfl rfl rfl rfl rfl (fun b1 => ?_))
  refine opW_x (w_box (l := [_]) rfl rfl rfl rfl (fun b2 => ?_))
  refine opW_x (w_assign rfl rfl rfl ?_)
  refine w_tidy [(0, _), (1, _), (4, _), (5, _)] [_, _] ⟨rfl, rfl, rfl, rfl, trivial⟩ rfl ?_
  refine w_seq ?_
  refine w_seq_region ?_
  refine opW_x (w_move rfl rfl rfl ?_)
  refine opW_x (w_lenV rfl rfl Try.underlying27 rfl ?_)
  refine opW_x (w_move rfl rfl rfl ?_)
  refine w_keep [(0, _), (1, _), (4, _), (5, _), (14, _), (15, _), (16, _)] ⟨rfl, rfl, rfl, rfl, rfl, rfl, rfl, trivial⟩ ?_
  refine w_block ?_
  refine w_loopE (α := Gh Int) [0, 1, 4, 5, 14, 15] (fun g => [(16, .int .i64 g.k)]) [0, 1] (fun g => [g.l, box1 b2 [.slice g.a g.xs.length g.c] 141]) (fun g Bx => Bx = B ∧ g.k ≤ xs.length ∧ g.xs.Perm ((xs.take g.k).map (·.id)) ∧ IsHeap g.xs ∧ VecR Bx g.l g.a g.c 3 1 IntR g.xs) (fun g => xs.length - g.k) ⟨0, 0, _, _, _, []⟩ ⟨rfl, trivial⟩ rfl (⟨rfl, Nat.zero_le _, .refl _, heap_nil, .lit0⟩) (fun g B3 hle3 hI => ?_)
  obtain ⟨rfl, hk, hp, hh, hv⟩ := hI
  have hpl := hp.length_eq
  rw [List.length_map, List.length_take] at hpl
  refine w_tidy [(0, _), (1, _), (4, _), (5, _), (14, _), (15, _), (16, _)] [_, _] ⟨rfl, rfl, rfl, rfl, rfl, rfl, rfl, trivial⟩ rfl ?_
  refine w_seq_region ?_
  refine opW_x (w_lss rfl rfl rfl rfl ?_)
  refine w_keep [(0, _), (1, _), (4, _), (5, _), (14, _), (15, _), (16, _), (17, _)] ⟨rfl, rfl, rfl, rfl, rfl, rfl, rfl, rfl, trivial⟩ ?_
  refine w_seq ?_
  refine w_cond rfl (fun g1 => ?_) (fun g1 => ?_)
  · try simp only [decide_eq_true_eq, decide_eq_false_iff_not, Bool.not_eq_true', Bool.not_eq_false', decide_not, Decidable.not_not, Int.not_lt, Int.not_le, ne_eq] at g1
    refine w_skip ?_
    refine thn_n ?_
    refine w_seq ?_
    refine w_block ?_
    refine w_seq_region ?_
    obtain ⟨x, hx⟩ := getLt (xs := xs) (i := g.k) (by first | omega | (simp; done) | (simp; omega))
    obtain ⟨bb5, oo5, rfl⟩ := ha.base hx
    obtain ⟨_, ⟨qi6, ci6, rfl, hi6, hb6, hb6b⟩, hc6⟩ := ha.elem hx
    have hi6n := hi6.len
    refine opW_x (w_ixB rfl rfl Try.underlying27 sz47 rfl rfl (by first | omega | (simp; done) | (simp; omega)) (by first | omega | (simp; done) | (simp; omega)) ?_)
    refine opW_x (w_loadN [_, _, _, _] rfl rfl lk47 rfl (rowK hc6 0 rfl rfl) ?_)
    refine opW_x (w_alloc (l := [_, _, _, _]) rfl rfl zo47 rfl (fun b7 => ?_))
    refine opW_x (w_store [_, _, _, _] 2 [_, _, _, _] rfl rfl sz47 rfl rfl rfl rfl rfl rfl rfl rfl ?_)
    refine w_tidy [(0, _), (1, _), (4, _), (5, _), (7, _), (14, _), (15, _), (16, _), (17, _)] [_, _, _] ⟨rfl, rfl, rfl, rfl, rfl, rfl, rfl, rfl, rfl, trivial⟩ rfl ?_
    refine w_region ?_
    refine opW_x (w_move rfl rfl rfl ?_)
    refine opW_x (w_makeIface rfl rfl Try.underlying140 rfl rfl ?_)
    refine opW_x (w_fieldAddr rfl rfl fo47x0 rfl ?_)
    refine opW_x (w_load1 rfl rfl lk3 rfl (atL 2 rfl rfl rfl) ?_)
    refine opW_x (w_makeIface rfl rfl Try.underlying3 rfl rfl ?_)
    refine opW_x (w_callN [1, 0] rfl rfl rfl rfl en112 rfl (heapPush_c _ _ _ _ _ _ (by omega) hh _ hv) ?_)
    rintro _ _ _ hlep ⟨rfl, qp, cp, ysp, lp, rfl, hvp, hpp, hhp⟩
    refine inB_n (thn_n ?_)
    refine w_region ?_
    refine opW_x (w_add rfl rfl rfl rfl (by first | exact wrI64 (by first | omega | (simp; done) | (simp; omega)) (by first | omega | (simp; done) | (simp; omega)) | rfl) ?_)
    refine opW_x (w_move rfl rfl rfl ?_)
    exact rndE_n ⟨g.k + 1, 0, lp, _, _, ysp⟩ [0, 1] (by first | omega | (simp only []; omega)) ⟨rfl, by simp only []; omega, by simp only []; rw [take_snoc hx, List.map_append]; exact hpp.trans (hp.append_right _), hhp, hvp⟩ ⟨rfl, rfl, rfl, rfl, rfl, rfl, rfl, trivial⟩ rfl
  · try simp only [decide_eq_true_eq, decide_eq_false_iff_not, Bool.not_eq_true', Bool.not_eq_false', decide_not, Decidable.not_not, Int.not_lt, Int.not_le, ne_eq] at g1
    have hxe : xs.take g.k = xs := List.take_of_length_le (by omega)
    rw [hxe] at hp
    refine w_exit (thn_x (rndE_x (inB_hit (thn_n ?_))))
    refine w_seq_region ?_
    refine opW_x (w_assign rfl rfl rfl ?_)
    refine w_keep [(0, _), (1, _), (4, _), (5, _), (8, _), (14, _), (15, _), (16, _), (17, _)] ⟨rfl, rfl, rfl, rfl, rfl, rfl, rfl, rfl, rfl, trivial⟩ ?_
    refine w_seq ?_
    refine w_seq_region ?_
    refine opW_x (w_move rfl rfl rfl ?_)
    refine opW_x (w_lenV rfl rfl Try.underlying27 rfl ?_)
    refine opW_x (w_move rfl rfl rfl ?_)
    refine w_keep [(0, _), (1, _), (4, _), (5, _), (8, _), (14, _), (15, _), (16, _), (17, _), (27, _), (28, _), (29, _)] ⟨rfl, rfl, rfl, rfl, rfl, rfl, rfl, rfl, rfl, rfl, rfl, rfl, trivial⟩ ?_
    refine w_block ?_
    refine w_loopE (α := Gh2 Int Int) [0, 1, 5, 14, 15, 16, 17, 27, 28] (fun h => [(8, .int .i64 h.e), (29, .int .i64 h.k)]) [0, 1] (fun h => [h.l, box1 b2 [.slice h.a h.xs.length h.c] 141]) (fun h Bx => Bx = B3 ∧ h.k ≤ xs.length ∧ h.xs.Perm ((xs.drop h.k).map (·.id)) ∧ IsHeap h.xs ∧ asc 0 last (xs.map (·.id)) = asc h.e last ((xs.drop h.k).map (·.id)) ∧ VecR Bx h.l h.a h.c 3 1 IntR h.xs) (fun h => xs.length - h.k) ⟨0, 0, g.l, g.a, g.c, g.xs, 0⟩ ⟨rfl, rfl, trivial⟩ rfl (⟨rfl, Nat.zero_le _, hp, hh, rfl, hv⟩) (fun h B9 hle9 hI => ?_)
    clear hv hp hpl hh
    obtain ⟨rfl, hk, hp, hh, hs, hv⟩ := hI
    have hpl := hp.length_eq
    rw [List.length_map, List.length_drop] at hpl
    refine w_tidy [(0, _), (1, _), (5, _), (8, _), (14, _), (15, _), (16, _), (17, _), (27, _), (28, _), (29, _)] [_, _] ⟨rfl, rfl, rfl, rfl, rfl, rfl, rfl, rfl, rfl, rfl, rfl, trivial⟩ rfl ?_
    refine w_seq_region ?_
    refine opW_x (w_lss rfl rfl rfl rfl ?_)
    refine w_keep [(0, _), (1, _), (5, _), (8, _), (14, _), (15, _), (16, _), (17, _), (27, _), (28, _), (29, _), (30, _)] ⟨rfl, rfl, rfl, rfl, rfl, rfl, rfl, rfl, rfl, rfl, rfl, rfl, trivial⟩ ?_
    refine w_seq ?_
    refine w_cond rfl (fun g2 => ?_) (fun g2 => ?_)
    · try simp only [decide_eq_true_eq, decide_eq_false_iff_not, Bool.not_eq_true', Bool.not_eq_false', decide_not, Decidable.not_not, Int.not_lt, Int.not_le, ne_eq] at g2
      refine w_skip ?_
      refine thn_n ?_
      refine w_seq ?_
      refine w_block ?_
      refine w_seq_region ?_
      obtain ⟨x, hx⟩ := getLt (xs := xs) (i := h.k) (by first | omega | (simp; done) | (simp; omega))
      obtain ⟨bb11, oo11, rfl⟩ := ha.base hx
      obtain ⟨_, ⟨qi12, ci12, rfl, hi12, hb12, hb12b⟩, hc12⟩ := ha.elem hx
      have hi12n := hi12.len
      refine opW_x (w_ixB rfl rfl Try.underlying27 sz47 rfl rfl (by first | omega | (simp; done) | (simp; omega)) (by first | omega | (simp; done) | (simp; omega)) ?_)
      rw [dropCons hx, List.map_cons] at hp hs
      refine opW_x (w_loadN [_, _, _, _] rfl rfl lk47 rfl (rowK hc12 0 rfl rfl) ?_)
      refine opW_x (w_alloc (l := [_, _, _, _]) rfl rfl zo47 rfl (fun b13 => ?_))
      refine opW_x (w_store [_, _, _, _] 2 [_, _, _, _] rfl rfl sz47 rfl rfl rfl rfl rfl rfl rfl rfl ?_)
      refine w_tidy [(0, _), (1, _), (5, _), (8, _), (10, _), (14, _), (15, _), (16, _), (17, _), (27, _), (28, _), (29, _), (30, _)] [_, _, _] ⟨rfl, rfl, rfl, rfl, rfl, rfl, rfl, rfl, rfl, rfl, rfl, rfl, rfl, trivial⟩ rfl ?_
      refine w_seq_region ?_
      refine opW_x (w_move rfl rfl rfl ?_)
      refine opW_x (w_makeIface rfl rfl Try.underlying140 rfl rfl ?_)
      refine opW_x (w_callN [1, 0] rfl rfl rfl rfl en113 rfl (heapPop_c _ _ _ _ _ (by omega) (by omega) hh _ hv) ?_)
      rintro _ _ _ hleo ⟨rfl, rfl, yso, lo, rfl, hvo, hpo, hho⟩
      refine opW_x (w_assertT rfl rfl Try.underlying3 rfl rfl ?_)
      refine opW_x (w_assign rfl rfl rfl ?_)
      refine w_tidy [(0, _), (1, _), (5, _), (8, _), (10, _), (11, _), (14, _), (15, _), (16, _), (17, _), (27, _), (28, _), (29, _), (30, _)] [_, _, _] ⟨rfl, rfl, rfl, rfl, rfl, rfl, rfl, rfl, rfl, rfl, rfl, rfl, rfl, rfl, trivial⟩ rfl ?_
      refine w_seq ?_
      refine w_seq_region ?_
      refine opW_x (w_move rfl rfl rfl ?_)
      refine opW_x (w_fieldAddr rfl rfl fo47x0 rfl ?_)
      refine opW_x (w_load1 rfl rfl lk3 rfl (atL 2 rfl rfl rfl) ?_)
      refine opW_x (w_neqI rfl rfl rfl rfl ?_)
      refine opW_x (w_move rfl rfl rfl ?_)
      refine r_split (d := 41) rfl (fun g3 => ?_) (fun g3 => ?_)
      · try simp only [decide_eq_true_eq, decide_eq_false_iff_not, Bool.not_eq_true', Bool.not_eq_false', decide_not, Decidable.not_not, Int.not_lt, Int.not_le, ne_eq] at g3
        refine opW_x (w_pass rfl rfl ?_)
        refine opW_x (w_pass rfl rfl ?_)
        refine opW_x (w_pass rfl rfl ?_)
        refine opW_x (w_pickT rfl rfl rfl rfl ?_)
        refine opW_x (w_move rfl rfl rfl ?_)
        refine opW_x (w_pass rfl rfl ?_)
        refine opW_x (w_pass rfl rfl ?_)
        refine opW_x (w_pass rfl rfl ?_)
        refine opW_x (w_pickT rfl rfl rfl rfl ?_)
        refine w_keep [(0, _), (1, _), (5, _), (8, _), (10, _), (11, _), (14, _), (15, _), (16, _), (17, _), (27, _), (28, _), (29, _), (30, _), (50, _)] ⟨rfl, rfl, rfl, rfl, rfl, rfl, rfl, rfl, rfl, rfl, rfl, rfl, rfl, rfl, rfl, trivial⟩ ?_
        refine w_cond (t := true) rfl (fun _ => ?_) (fun h => Bool.noConfusion h)
        refine w_seq_region ?_
        refine opW_x (w_assign rfl rfl rfl ?_)
        refine w_keep [(0, _), (1, _), (4, _), (5, _), (8, _), (10, _), (11, _), (14, _), (15, _), (16, _), (17, _), (27, _), (28, _), (29, _), (30, _), (50, _)] ⟨rfl, rfl, rfl, rfl, rfl, rfl, rfl, rfl, rfl, rfl, rfl, rfl, rfl, rfl, rfl, rfl, trivial⟩ ?_
        refine w_ret (thn_r (inB_r (thn_r (rndE_r (inB_r (thn_r ?_))))))
        exact end0 .ret (.inl rfl) [_] ⟨rfl, trivial⟩ ⟨bool_eq (by rw [hs]; exact asc_bad1 hp hh (by simpa using g3)), rfl, rfl⟩
      · try simp only [decide_eq_true_eq, decide_eq_false_iff_not, Bool.not_eq_true', Bool.not_eq_false', decide_not, Decidable.not_not, Int.not_lt, Int.not_le, ne_eq] at g3
        refine opW_x (w_move rfl rfl rfl ?_)
        refine opW_x (w_move rfl rfl rfl ?_)
        refine opW_x (w_leq rfl rfl rfl rfl ?_)
        refine opW_x (w_pickF rfl rfl rfl rfl ?_)
        refine opW_x (w_move rfl rfl rfl ?_)
        refine r_split (d := 46) rfl (fun g4 => ?_) (fun g4 => ?_)
        · try simp only [decide_eq_true_eq, decide_eq_false_iff_not, Bool.not_eq_true', Bool.not_eq_false', decide_not, Decidable.not_not, Int.not_lt, Int.not_le, ne_eq] at g4
          refine opW_x (w_pass rfl rfl ?_)
          refine opW_x (w_pass rfl rfl ?_)
          refine opW_x (w_pass rfl rfl ?_)
          refine opW_x (w_pickT rfl rfl rfl rfl ?_)
          refine w_keep [(0, _), (1, _), (5, _), (8, _), (10, _), (11, _), (14, _), (15, _), (16, _), (17, _), (27, _), (28, _), (29, _), (30, _), (50, _)] ⟨rfl, rfl, rfl, rfl, rfl, rfl, rfl, rfl, rfl, rfl, rfl, rfl, rfl, rfl, rfl, trivial⟩ ?_
          refine w_cond (t := true) rfl (fun _ => ?_) (fun h => Bool.noConfusion h)
          refine w_seq_region ?_
          refine opW_x (w_assign rfl rfl rfl ?_)
          refine w_keep [(0, _), (1, _), (4, _), (5, _), (8, _), (10, _), (11, _), (14, _), (15, _), (16, _), (17, _), (27, _), (28, _), (29, _), (30, _), (50, _)] ⟨rfl, rfl, rfl, rfl, rfl, rfl, rfl, rfl, rfl, rfl, rfl, rfl, rfl, rfl, rfl, rfl, trivial⟩ ?_
          refine w_ret (thn_r (inB_r (thn_r (rndE_r (inB_r (thn_r ?_))))))
          exact end0 .ret (.inl rfl) [_] ⟨rfl, trivial⟩ ⟨bool_eq (by rw [hs]; exact asc_bad2 (by rw [← g3]; simpa using g4)), rfl, rfl⟩
        · try simp only [decide_eq_true_eq, decide_eq_false_iff_not, Bool.not_eq_true', Bool.not_eq_false', decide_not, Decidable.not_not, Int.not_lt, Int.not_le, ne_eq] at g4
          refine opW_x (w_move rfl rfl rfl ?_)
          refine opW_x (w_move rfl rfl rfl ?_)
          refine opW_x (w_gtr rfl rfl rfl rfl ?_)
          refine opW_x (w_pickF rfl rfl rfl rfl ?_)
          refine w_keep [(0, _), (1, _), (5, _), (8, _), (10, _), (11, _), (14, _), (15, _), (16, _), (17, _), (27, _), (28, _), (29, _), (30, _), (50, _)] ⟨rfl, rfl, rfl, rfl, rfl, rfl, rfl, rfl, rfl, rfl, rfl, rfl, rfl, rfl, rfl, trivial⟩ ?_
          refine w_cond rfl (fun g5 => ?_) (fun g5 => ?_)
          · try simp only [decide_eq_true_eq, decide_eq_false_iff_not, Bool.not_eq_true', Bool.not_eq_false', decide_not, Decidable.not_not, Int.not_lt, Int.not_le, ne_eq] at g5
            refine w_seq_region ?_
            refine opW_x (w_assign rfl rfl rfl ?_)
            refine w_keep [(0, _), (1, _), (4, _), (5, _), (8, _), (10, _), (11, _), (14, _), (15, _), (16, _), (17, _), (27, _), (28, _), (29, _), (30, _), (50, _)] ⟨rfl, rfl, rfl, rfl, rfl, rfl, rfl, rfl, rfl, rfl, rfl, rfl, rfl, rfl, rfl, rfl, trivial⟩ ?_
            refine w_ret (thn_r (inB_r (thn_r (rndE_r (inB_r (thn_r ?_))))))
            exact end0 .ret (.inl rfl) [_] ⟨rfl, trivial⟩ ⟨bool_eq (by rw [hs]; exact asc_bad3 (by rw [← g3]; simpa using g5)), rfl, rfl⟩
          · try simp only [decide_eq_true_eq, decide_eq_false_iff_not, Bool.not_eq_true', Bool.not_eq_false', decide_not, Decidable.not_not, Int.not_lt, Int.not_le, ne_eq] at g5
            refine w_skip ?_
            refine thn_n ?_
            refine w_region ?_
            refine opW_x (w_move rfl rfl rfl ?_)
            refine opW_x (w_assign rfl rfl rfl ?_)
            refine inB_n (thn_n ?_)
            refine w_region ?_
            refine opW_x (w_add rfl rfl rfl rfl (by first | exact wrI64 (by first | omega | (simp; done) | (simp; omega)) (by first | omega | (simp; done) | (simp; omega)) | rfl) ?_)
            refine opW_x (w_move rfl rfl rfl ?_)
            exact rndE_n ⟨h.k + 1, 0, lo, _, _, yso, hat h.xs 0⟩ [0, 1] (by first | omega | (simp only []; omega)) ⟨rfl, by simp only []; omega, List.Perm.cons_inv ((show (x.id :: yso).Perm (hat h.xs 0 :: yso) from by rw [g3]).trans (hpo.trans hp)), hho, by simp only []; rw [hs, g3]; exact asc_go (by rw [← g3]; simpa using g4) (by rw [← g3]; simpa using g5), hvo⟩ ⟨rfl, rfl, rfl, rfl, rfl, rfl, rfl, rfl, rfl, rfl, rfl, trivial⟩ rfl
    · try simp only [decide_eq_true_eq, decide_eq_false_iff_not, Bool.not_eq_true', Bool.not_eq_false', decide_not, Decidable.not_not, Int.not_lt, Int.not_le, ne_eq] at g2
      rw [dropEnd (by omega), List.map_nil, asc] at hs
      refine w_exit (thn_x (rndE_x (inB_hit (thn_n ?_))))
      refine w_seq_region ?_
      refine opW_x (w_assign rfl rfl rfl ?_)
      refine w_keep [(0, _), (1, _), (4, _), (5, _), (8, _), (14, _), (15, _), (16, _), (17, _), (27, _), (28, _), (29, _), (30, _)] ⟨rfl, rfl, rfl, rfl, rfl, rfl, rfl, rfl, rfl, rfl, rfl, rfl, rfl, trivial⟩ ?_
      refine w_ret ?_
      exact end0 .ret (.inl rfl) [_] ⟨rfl, trivial⟩ ⟨bool_eq hs.symm, rfl, rfl⟩

set_option maxRecDepth 4000 in
set_option maxHeartbeats 400000 in
theorem implQueue_c (aq : Option Addr) (cq : Nat) (q : DQueue) (B : Kn) (hq : SlK B aq cq 4 ItemR q.items) : RetB Try.prog 27 [.agg #[.int .i64 q.next, .slice aq q.items.length cq]] B (.bool (queueOk q)) := by
  refine callsB_body 42 Try.func27 rfl rfl rfl (Nat.le_of_ble_eq_true rfl) ?_
  have hqn := hq.len
  refine w_seq_region ?_
  refine opW_x (w_box (l := [_, _]) rfl rfl rfl rfl (fun b1 => ?_))
  refine opW_x (w_assign rfl rfl rfl ?_)
  refine w_tidy [(0, _), (1, _), (2, _)] [_] ⟨rfl, rfl, rfl, trivial⟩ rfl ?_
  refine w_seq ?_
  refine w_seq_region ?_
  refine opW_x (w_fieldAddr rfl rfl fo29x1 rfl ?_)
  refine opW_x (w_load1 rfl rfl lk27 rfl (atL 0 rfl rfl rfl) ?_)
  refine opW_x (w_lenV rfl rfl Try.underlying27 rfl ?_)
  refine opW_x (w_gtr rfl rfl rfl rfl ?_)
  refine opW_x (w_move rfl rfl rfl ?_)
  refine r_split (d := 9) rfl (fun g1 => ?_) (fun g1 => ?_)
  · try simp only [decide_eq_true_eq, decide_eq_false_iff_not, Bool.not_eq_true', Bool.not_eq_false', decide_not, Decidable.not_not, Int.not_lt, Int.not_le, ne_eq] at g1
    refine opW_x (w_pass rfl rfl ?_)
    refine opW_x (w_pass rfl rfl ?_)
    refine opW_x (w_pass rfl rfl ?_)
    refine opW_x (w_pickT rfl rfl rfl rfl ?_)
    refine opW_x (w_move rfl rfl rfl ?_)
    refine opW_x (w_pass rfl rfl ?_)
    refine opW_x (w_pass rfl rfl ?_)
    refine opW_x (w_pass rfl rfl ?_)
    refine opW_x (w_pickT rfl rfl rfl rfl ?_)
    refine w_keep [(0, _), (1, _), (2, _), (18, _)] ⟨rfl, rfl, rfl, rfl, trivial⟩ ?_
    refine w_cond (t := true) rfl (fun _ => ?_) (fun h => Bool.noConfusion h)
    refine w_seq_region ?_
    refine opW_x (w_assign rfl rfl rfl ?_)
    refine w_keep [(0, _), (1, _), (2, _), (18, _)] ⟨rfl, rfl, rfl, rfl, trivial⟩ ?_
    refine w_ret (thn_r ?_)
    exact end0 .ret (.inl rfl) [_] ⟨rfl, trivial⟩ ⟨bool_eq (queueOk_no (by omega)), rfl, rfl⟩
  · try simp only [decide_eq_true_eq, decide_eq_false_iff_not, Bool.not_eq_true', Bool.not_eq_false', decide_not, Decidable.not_not, Int.not_lt, Int.not_le, ne_eq] at g1
    refine opW_x (w_fieldAddr rfl rfl fo29x0 rfl ?_)
    refine opW_x (w_load1 rfl rfl lk3 rfl (atL 0 rfl rfl rfl) ?_)
    refine opW_x (w_lss rfl rfl rfl rfl ?_)
    refine opW_x (w_pickF rfl rfl rfl rfl ?_)
    refine opW_x (w_move rfl rfl rfl ?_)
    refine r_split (d := 14) rfl (fun g2 => ?_) (fun g2 => ?_)
    · try simp only [decide_eq_true_eq, decide_eq_false_iff_not, Bool.not_eq_true', Bool.not_eq_false', decide_not, Decidable.not_not, Int.not_lt, Int.not_le, ne_eq] at g2
      refine opW_x (w_pass rfl rfl ?_)
      refine opW_x (w_pass rfl rfl ?_)
      refine opW_x (w_pass rfl rfl ?_)
      refine opW_x (w_pickT rfl rfl rfl rfl ?_)
      refine w_keep [(0, _), (1, _), (2, _), (18, _)] ⟨rfl, rfl, rfl, rfl, trivial⟩ ?_
      refine w_cond (t := true) rfl (fun _ => ?_) (fun h => Bool.noConfusion h)
      refine w_seq_region ?_
      refine opW_x (w_assign rfl rfl rfl ?_)
      refine w_keep [(0, _), (1, _), (2, _), (18, _)] ⟨rfl, rfl, rfl, rfl, trivial⟩ ?_
      refine w_ret (thn_r ?_)
      exact end0 .ret (.inl rfl) [_] ⟨rfl, trivial⟩ ⟨bool_eq (queueOk_no (by omega)), rfl, rfl⟩
    · try simp only [decide_eq_true_eq, decide_eq_false_iff_not, Bool.not_eq_true', Bool.not_eq_false', decide_not, Decidable.not_not, Int.not_lt, Int.not_le, ne_eq] at g2
      refine opW_x (w_fieldAddr rfl rfl fo29x0 rfl ?_)
      refine opW_x (w_load1 rfl rfl lk3 rfl (atL 0 rfl rfl rfl) ?_)
      refine opW_x (w_gtr rfl rfl rfl rfl ?_)
      refine opW_x (w_pickF rfl rfl rfl rfl ?_)
      refine w_keep [(0, _), (1, _), (2, _), (18, _)] ⟨rfl, rfl, rfl, rfl, trivial⟩ ?_
      refine w_cond rfl (fun g3 => ?_) (fun g3 => ?_)
      · try simp only [decide_eq_true_eq, decide_eq_false_iff_not, Bool.not_eq_true', Bool.not_eq_false', decide_not, Decidable.not_not, Int.not_lt, Int.not_le, ne_eq] at g3
        refine w_seq_region ?_
        refine opW_x (w_assign rfl rfl rfl ?_)
        refine w_keep [(0, _), (1, _), (2, _), (18, _)] ⟨rfl, rfl, rfl, rfl, trivial⟩ ?_
        refine w_ret (thn_r ?_)
        exact end0 .ret (.inl rfl) [_] ⟨rfl, trivial⟩ ⟨bool_eq (queueOk_no (by omega)), rfl, rfl⟩
      · try simp only [decide_eq_true_eq, decide_eq_false_iff_not, Bool.not_eq_true', Bool.not_eq_false', decide_not, Decidable.not_not, Int.not_lt, Int.not_le, ne_eq] at g3
        refine w_skip ?_
        refine thn_n ?_
        refine w_seq ?_
        refine w_seq_region ?_
        refine opW_x (w_fieldAddr rfl rfl fo29x1 rfl ?_)
        refine opW_x (w_load1 rfl rfl lk27 rfl (atL 0 rfl rfl rfl) ?_)
        refine opW_x (w_lenV rfl rfl Try.underlying27 rfl ?_)
        refine opW_x (w_move rfl rfl rfl ?_)
        refine w_keep [(0, _), (1, _), (2, _), (18, _), (20, _), (21, _), (22, _)] ⟨rfl, rfl, rfl, rfl, rfl, rfl, rfl, trivial⟩ ?_
        refine w_block ?_
        refine w_loopE (α := Nat) [0, 1, 18, 20, 21] (fun k => [(22, .int .i64 k)]) [] (fun k => []) (fun k Bx => Bx = B ∧ k ≤ q.items.length ∧ (q.items.take k).all itemOk = true) (fun k => q.items.length - k) 0 ⟨rfl, trivial⟩ rfl (⟨rfl, Nat.zero_le _, by simp⟩) (fun k B2 hle2 hI => ?_)
        obtain ⟨rfl, hk, ha⟩ := hI
        refine w_tidy [(0, _), (1, _), (18, _), (20, _), (21, _), (22, _)] [_] ⟨rfl, rfl, rfl, rfl, rfl, rfl, trivial⟩ rfl ?_
        refine w_seq_region ?_
        refine opW_x (w_lss rfl rfl rfl rfl ?_)
        refine w_keep [(0, _), (1, _), (18, _), (20, _), (21, _), (22, _), (23, _)] ⟨rfl, rfl, rfl, rfl, rfl, rfl, rfl, trivial⟩ ?_
        refine w_seq ?_
        refine w_cond rfl (fun g4 => ?_) (fun g4 => ?_)
        · try simp only [decide_eq_true_eq, decide_eq_false_iff_not, Bool.not_eq_true', Bool.not_eq_false', decide_not, Decidable.not_not, Int.not_lt, Int.not_le, ne_eq] at g4
          refine w_skip ?_
          refine thn_n ?_
          refine w_seq ?_
          refine w_block ?_
          refine w_seq_region ?_
          obtain ⟨x, hx⟩ := getLt (xs := q.items) (i := k) (by first | omega | (simp; done) | (simp; omega))
          obtain ⟨bb4, oo4, rfl⟩ := hq.base hx
          obtain ⟨_, ⟨qi5, ci5, rfl, hi5, hb5, hb5b⟩, hc5⟩ := hq.elem hx
          have hi5n := hi5.len
          refine opW_x (w_ixB rfl rfl Try.underlying27 sz47 rfl rfl (by first | omega | (simp; done) | (simp; omega)) (by first | omega | (simp; done) | (simp; omega)) ?_)
          refine opW_x (w_loadN [_, _, _, _] rfl rfl lk47 rfl (rowK hc5 0 rfl rfl) ?_)
          refine opW_x (w_alloc (l := [_, _, _, _]) rfl rfl zo47 rfl (fun b6 => ?_))
          refine opW_x (w_store [_, _, _, _] 1 [_, _, _, _] rfl rfl sz47 rfl rfl rfl rfl rfl rfl rfl rfl ?_)
          refine w_tidy [(0, _), (1, _), (4, _), (18, _), (20, _), (21, _), (22, _), (23, _)] [_, _] ⟨rfl, rfl, rfl, rfl, rfl, rfl, rfl, rfl, trivial⟩ rfl ?_
          refine w_seq_region ?_
          refine opW_x (w_fieldAddr rfl rfl fo47x1 rfl ?_)
          refine opW_x (w_load1 rfl rfl lk9 rfl (atL 1 rfl rfl rfl) ?_)
          refine opW_x (w_fieldAddr rfl rfl fo47x3 rfl ?_)
          refine opW_x (w_load1 rfl rfl lk38 rfl (atL 1 rfl rfl rfl) ?_)
          refine opW_x (w_fieldAddr rfl rfl fo47x2 rfl ?_)
          refine opW_x (w_load1 rfl rfl lk9 rfl (atL 1 rfl rfl rfl) ?_)
          refine opW_x (w_build (parts := [(0, _), (1, _), (2, _)]) [_, _, _] [_, _, _] rfl rfl pl40 zo40 rfl rfl rfl ?_)
          refine opW_x (w_retB rfl rfl en64 rfl (implLetter_c _ _ ⟨x.fr, x.left, x.text⟩ _ hi5 (by first | assumption | omega) (by first | assumption | omega)) ?_)
          refine opW_x (w_not rfl rfl rfl ?_)
          refine w_keep [(0, _), (1, _), (4, _), (18, _), (20, _), (21, _), (22, _), (23, _), (34, _)] ⟨rfl, rfl, rfl, rfl, rfl, rfl, rfl, rfl, rfl, trivial⟩ ?_
          refine w_cond rfl (fun g5 => ?_) (fun g5 => ?_)
          · try simp only [decide_eq_true_eq, decide_eq_false_iff_not, Bool.not_eq_true', Bool.not_eq_false', decide_not, Decidable.not_not, Int.not_lt, Int.not_le, ne_eq] at g5
            refine w_seq_region ?_
            refine opW_x (w_assign rfl rfl rfl ?_)
            refine w_keep [(0, _), (1, _), (2, _), (4, _), (18, _), (20, _), (21, _), (22, _), (23, _), (34, _)] ⟨rfl, rfl, rfl, rfl, rfl, rfl, rfl, rfl, rfl, rfl, trivial⟩ ?_
            refine w_ret (inB_r (thn_r (rndE_r (inB_r (thn_r ?_)))))
            exact end0 .ret (.inl rfl) [_] ⟨rfl, trivial⟩ ⟨bool_eq (queueOk_bad hx g5), rfl, rfl⟩
          · try simp only [decide_eq_true_eq, decide_eq_false_iff_not, Bool.not_eq_true', Bool.not_eq_false', decide_not, Decidable.not_not, Int.not_lt, Int.not_le, ne_eq] at g5
            refine w_skip ?_
            refine inB_n (thn_n ?_)
            refine w_region ?_
            refine opW_x (w_add rfl rfl rfl rfl (by first | exact wrI64 (by first | omega | (simp; done) | (simp; omega)) (by first | omega | (simp; done) | (simp; omega)) | rfl) ?_)
            refine opW_x (w_move rfl rfl rfl ?_)
            exact rndE_n (k + 1) [0] (by first | omega | (simp only []; omega)) ⟨rfl, by omega, all_up hx g5 ha⟩ ⟨rfl, rfl, rfl, rfl, rfl, rfl, trivial⟩ rfl
        · try simp only [decide_eq_true_eq, decide_eq_false_iff_not, Bool.not_eq_true', Bool.not_eq_false', decide_not, Decidable.not_not, Int.not_lt, Int.not_le, ne_eq] at g4
          refine w_exit (thn_x (rndE_x (inB_hit (thn_n ?_))))
          refine w_seq_region ?_
          refine opW_x (w_fieldAddr rfl rfl fo29x1 rfl ?_)
          refine opW_x (w_load1 rfl rfl lk27 rfl (atL 0 rfl rfl rfl) ?_)
          refine opW_x (w_fieldAddr rfl rfl fo29x0 rfl ?_)
          refine opW_x (w_load1 rfl rfl lk3 rfl (atL 0 rfl rfl rfl) ?_)
          refine opW_x (w_sub rfl rfl rfl rfl (by first | exact wrI64 (by first | omega | (simp; done) | (simp; omega)) (by first | omega | (simp; done) | (simp; omega)) | rfl) ?_)
          refine opW_x (w_retB rfl rfl en68 rfl (idsAscend_c _ _ _ _ _ hq) ?_)
          refine opW_x (w_assign rfl rfl rfl ?_)
          refine w_keep [(0, _), (1, _), (2, _), (18, _), (20, _), (21, _), (22, _), (23, _)] ⟨rfl, rfl, rfl, rfl, rfl, rfl, rfl, rfl, trivial⟩ ?_
          refine w_ret ?_
          exact end0 .ret (.inl rfl) [_] ⟨rfl, trivial⟩ ⟨bool_eq (queueOk_end (by omega) ha (by omega) (by omega) (by omega)), rfl, rfl⟩

end Go.Proofs.Ytnhgfdfmfhkcmaa
