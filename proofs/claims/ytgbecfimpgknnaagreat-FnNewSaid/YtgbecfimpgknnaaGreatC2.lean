/-
  WHAT THE FUNCTIONS THAT THE LAWS REACH COMPUTE: each function's contract, proved off its printed body (the text is written by program). No condition beyond those that each theorem states.
-/
import Derived.Test.YtgbecfimpgknnaaGreatC1
namespace Go.Proofs.YtgbecfimpgknnaaGreat
open Go Go.BL
set_option linter.unusedVariables false
set_option linter.unusedSimpArgs false
variable {J : JoinT}
set_option maxRecDepth 4000 in
set_option maxHeartbeats 400000 in
theorem l31Known_c (q1 q2 q3 : Option Addr) (c1 c2 c3 : Nat) (x : DHost) (q : Option Addr) (cp : Nat) (ns : List Str) (B : Kn) (hu : SlK B q1 c1 3 UserR x.users) (hn : SlK B q cp 1 StrR ns) : RetB (pj J) 71 [.agg #[str x.domain, .slice q1 x.users.length c1, .slice q2 x.folders.length c2, .int .i64 x.queue.next, .slice q3 x.queue.items.length c3], .slice q ns.length cp] B (.bool (knownU x.users ns)) := by
  refine cBB 20 Tryz.func71 rfl rfl rfl (Nat.le_of_ble_eq_true rfl) ?_
  have hnn := hn.len
  have hun := hu.len
  refine wSR ?_
  refine oX (w_box (l := [_, _, _, _, _]) rfl rfl rfl rfl (fun b1 => ?_))
  refine xAs ?_
  refine wTd [(0, _), (1, _), (2, _), (4, _)] [_] ⟨rfl, rfl, rfl, rfl, trivial⟩ rfl ?_
  refine w_seq ?_
  refine wSR ?_
  refine xAs ?_
  refine wKp [(0, _), (1, _), (2, _), (4, _), (5, _)] ⟨rfl, rfl, rfl, rfl, rfl, trivial⟩ ?_
  refine w_block ?_
  refine w_loopE (α := Nat) [0, 1, 2] (fun k => [(5, .int .i64 k)]) [] (fun k => []) (fun k Bx => Bx = B ∧ k ≤ ns.length ∧ ∀ z, z ∈ ns.take k → decide (0 ≤ idxU x.users z) = true) (fun k => ns.length - k) 0 ⟨rfl, trivial⟩ rfl (⟨rfl, Nat.zero_le _, by simp⟩) (fun k B2 hle2 hI => ?_)
  obtain ⟨rfl, hk, ha⟩ := hI
  refine wTd [(0, _), (1, _), (2, _), (5, _)] [_] ⟨rfl, rfl, rfl, rfl, trivial⟩ rfl ?_
  refine w_seq ?_
  refine wSR ?_
  refine xMv ?_
  refine xMv ?_
  refine oX (w_lenV rfl rfl Tryz.underlying98 rfl ?_)
  refine oX (w_lss rfl rfl rfl rfl ?_)
  refine wKp [(0, _), (1, _), (2, _), (5, _), (9, _)] ⟨rfl, rfl, rfl, rfl, rfl, trivial⟩ ?_
  refine wCd rfl (fun g1 => ?_) (fun g1 => ?_)
  · try simp only [sQ1, sQ2, sQ3, sQ4, sQ5, sQ6, sQ7, sQ8, ne_eq] at g1
    refine w_skip ?_
    refine thn_n ?_
    refine w_seq ?_
    refine w_block ?_
    refine w_seq ?_
    refine w_draw (same _ _) mo (by kernel_rfl) ⟨rfl, rfl⟩ (fun _ _ => ?_)
    refine aTk 0 rfl (by kernel_rfl) rfl (q_of fun D => wFA rfl rfl fo31x1 rfl ⟨rfl, rfl, rfl, rfl⟩) ?_
    refine aTk 1 rfl (by kernel_rfl) rfl (q_of fun D => w_load1 rfl rfl lk23 rfl (atL 0 rfl rfl rfl) ⟨rfl, rfl, rfl, rfl⟩) ?_
    refine aTP 2 rfl (by kernel_rfl) rfl (fun D B L => w_move rfl rfl rfl ⟨rfl, rfl, rfl, rfl⟩) ?_
    refine aTP 3 rfl (by kernel_rfl) rfl (fun D B L => w_move rfl rfl rfl ⟨rfl, rfl, rfl, rfl⟩) ?_
    obtain ⟨z, hz⟩ := getLt (xs := ns) (i := k) (by first | omega | (simp; done) | (simp; omega))
    obtain ⟨bb4, oo4, rfl⟩ := hn.base hz
    obtain ⟨_, ⟨rfl, hb5⟩, hc5⟩ := hn.elem hz
    refine aTk 4 rfl (by kernel_rfl) rfl (q_of fun D => w_ixB rfl rfl Tryz.underlying98 sz9 rfl rfl (by first | omega | (simp; done) | (simp; omega)) (by first | omega | (simp; done) | (simp; omega)) ⟨rfl, rfl, rfl, rfl⟩) ?_
    refine aTk 5 rfl (by kernel_rfl) rfl (q_of fun D => w_load1 rfl rfl lk9 rfl (hc5 _ 0 _ rfl) ⟨rfl, rfl, rfl, rfl⟩) ?_
    refine aTk 6 rfl (by kernel_rfl) rfl (q_of fun D => w_retB rfl rfl en70 rfl (l14Find_c _ _ _ _ _ hu) ⟨rfl, rfl, rfl, rfl⟩) ?_
    refine aTk 7 rfl (by kernel_rfl) rfl (q_of fun D => w_lss rfl rfl rfl rfl ⟨rfl, rfl, rfl, rfl⟩) ?_
    refine any_done (by kernel_rfl) (by kernel_rfl) ?_
    refine thn_n ?_
    refine wKp [(0, _), (1, _), (2, _), (5, _), (9, _), (19, _)] ⟨rfl, rfl, rfl, rfl, rfl, rfl, trivial⟩ ?_
    refine wCd rfl (fun g2 => ?_) (fun g2 => ?_)
    · try simp only [sQ1, sQ2, sQ3, sQ4, sQ5, sQ6, sQ7, sQ8, ne_eq] at g2
      refine wSR ?_
      refine xAs ?_
      refine wKp [(0, _), (1, _), (2, _), (4, _), (5, _), (9, _), (19, _)] ⟨rfl, rfl, rfl, rfl, rfl, rfl, rfl, trivial⟩ ?_
      refine w_ret (inB_r (thn_r (rndE_r (inB_r (thn_r ?_)))))
      exact end0 .ret (.inl rfl) [_] ⟨rfl, trivial⟩ ⟨bool_eq (allB_bad hz (by simp; omega)).symm, rfl, rfl⟩
    · try simp only [sQ1, sQ2, sQ3, sQ4, sQ5, sQ6, sQ7, sQ8, ne_eq] at g2
      refine w_skip ?_
      refine inB_n (thn_n ?_)
      refine w_region ?_
      refine xMv ?_
      refine oX (w_add rfl rfl rfl rfl (by first | exact wrI64 (by first | omega | (simp; done) | (simp; omega)) (by first | omega | (simp; done) | (simp; omega)) | rfl) ?_)
      refine xAs ?_
      exact rndE_n (k + 1) [0] (by first | omega | (simp only []; omega)) ⟨rfl, by omega, all_next hz ha (by simp; omega)⟩ ⟨rfl, rfl, rfl, rfl, trivial⟩ rfl
  · try simp only [sQ1, sQ2, sQ3, sQ4, sQ5, sQ6, sQ7, sQ8, ne_eq] at g1
    refine w_exit (thn_x (rndE_x (inB_hit (thn_n ?_))))
    refine wSR ?_
    refine xAs ?_
    refine wKp [(0, _), (1, _), (2, _), (4, _), (5, _), (9, _)] ⟨rfl, rfl, rfl, rfl, rfl, rfl, trivial⟩ ?_
    refine w_ret ?_
    exact end0 .ret (.inl rfl) [_] ⟨rfl, trivial⟩ ⟨bool_eq (allB_end (take_end (by omega) ha)).symm, rfl, rfl⟩

set_option maxRecDepth 4000 in
set_option maxHeartbeats 400000 in
theorem l31Used_c (q1 q2 q3 : Option Addr) (c1 c2 c3 : Nat) (x : DHost) (u : Str) (B : Kn) (hf : SlK B q2 c2 5 FolderR x.folders) : RetB (pj J) 69 [.agg #[str x.domain, .slice q1 x.users.length c1, .slice q2 x.folders.length c2, .int .i64 x.queue.next, .slice q3 x.queue.items.length c3], str u] B (.int .i64 (usedF x.folders u)) := by
  refine cBB 32 Tryz.func69 rfl rfl rfl (Nat.le_of_ble_eq_true rfl) ?_
  have hfn := hf.len
  refine wSR ?_
  refine oX (w_box (l := [_, _, _, _, _]) rfl rfl rfl rfl (fun b1 => ?_))
  refine xAs ?_
  refine wTd [(0, _), (1, _), (2, _), (4, _)] [_] ⟨rfl, rfl, rfl, rfl, trivial⟩ rfl ?_
  refine wSR ?_
  refine xAs ?_
  refine wKp [(0, _), (1, _), (2, _), (4, _), (5, _)] ⟨rfl, rfl, rfl, rfl, rfl, trivial⟩ ?_
  refine w_seq ?_
  refine wSR ?_
  refine xAs ?_
  refine wKp [(0, _), (1, _), (2, _), (4, _), (5, _), (6, _)] ⟨rfl, rfl, rfl, rfl, rfl, rfl, trivial⟩ ?_
  refine w_block ?_
  refine w_loopE (α := Nat × Nat) [0, 1, 2, 4] (fun g => [(5, .int .i64 g.2), (6, .int .i64 g.1)]) [] (fun g => []) (fun g Bx => Bx = B ∧ g.1 ≤ x.folders.length ∧ g.2 = usedF (x.folders.take g.1) u ∧ g.2 ≤ g.1 * 4000000000000) (fun g => x.folders.length - g.1) (0, 0) ⟨rfl, rfl, trivial⟩ rfl (⟨rfl, Nat.zero_le _, by simp [usedF], by omega⟩) (fun g B2 hle2 hI => ?_)
  obtain ⟨rfl, hk, hs, hl⟩ := hI
  refine wTd [(0, _), (1, _), (2, _), (4, _), (5, _), (6, _)] [_] ⟨rfl, rfl, rfl, rfl, rfl, rfl, trivial⟩ rfl ?_
  refine w_seq ?_
  refine wSR ?_
  refine xMv ?_
  refine oX (wFA rfl rfl fo31x2 rfl ?_)
  refine oX (w_load1 rfl rfl lk26 rfl (atL 0 rfl rfl rfl) ?_)
  refine oX (w_lenV rfl rfl Tryz.underlying26 rfl ?_)
  refine oX (w_lss rfl rfl rfl rfl ?_)
  refine wKp [(0, _), (1, _), (2, _), (4, _), (5, _), (6, _), (11, _)] ⟨rfl, rfl, rfl, rfl, rfl, rfl, rfl, trivial⟩ ?_
  refine wCd rfl (fun g1 => ?_) (fun g1 => ?_)
  · try simp only [sQ1, sQ2, sQ3, sQ4, sQ5, sQ6, sQ7, sQ8, ne_eq] at g1
    refine w_skip ?_
    refine thn_n ?_
    refine w_seq ?_
    refine w_block ?_
    refine wSR ?_
    refine oX (wFA rfl rfl fo31x2 rfl ?_)
    refine oX (w_load1 rfl rfl lk26 rfl (atL 0 rfl rfl rfl) ?_)
    refine xMv ?_
    obtain ⟨m, hm⟩ := getLt (xs := x.folders) (i := g.1) (by first | omega | (simp; done) | (simp; omega))
    obtain ⟨bb4, oo4, rfl⟩ := hf.base hm
    obtain ⟨_, ⟨qg5, cg5, qm5, cm5, rfl, hg5, hm5, hb5, hb5b⟩, hc5⟩ := hf.elem hm
    have hg5n := hg5.len
    have hm5n := hm5.len
    have hm5s := sizeMs_le hm5
    refine oX (w_ixB rfl rfl Tryz.underlying26 sz40 rfl rfl (by first | omega | (simp; done) | (simp; omega)) (by first | omega | (simp; done) | (simp; omega)) ?_)
    refine oX (wFA rfl rfl fo40x0 rfl ?_)
    refine oX (w_load1 rfl rfl lk9 rfl (hc5 _ 0 _ rfl) ?_)
    refine xMv ?_
    refine oX (w_eqlS rfl rfl rfl rfl ?_)
    refine wKp [(0, _), (1, _), (2, _), (4, _), (5, _), (6, _), (11, _), (21, _)] ⟨rfl, rfl, rfl, rfl, rfl, rfl, rfl, rfl, trivial⟩ ?_
    refine wCd rfl (fun g2 => ?_) (fun g2 => ?_)
    · try simp only [sQ1, sQ2, sQ3, sQ4, sQ5, sQ6, sQ7, sQ8, ne_eq] at g2
      refine w_region ?_
      refine xMv ?_
      refine oX (wFA rfl rfl fo31x2 rfl ?_)
      refine oX (w_load1 rfl rfl lk26 rfl (atL 0 rfl rfl rfl) ?_)
      refine xMv ?_
      refine oX (w_ixB rfl rfl Tryz.underlying26 sz40 rfl rfl (by first | omega | (simp; done) | (simp; omega)) (by first | omega | (simp; done) | (simp; omega)) ?_)
      refine oX (wFA rfl rfl fo40x3 rfl ?_)
      refine oX (w_loadN [_, _] rfl rfl lk38 rfl (rowK hc5 3 rfl rfl) ?_)
      refine oX (w_retB rfl rfl en130 rfl (l11Size_c _ _ (⟨m.next, m.mail⟩ : DBox) _ hm5) ?_)
      refine oX (w_add rfl rfl rfl rfl (by first | exact wrI64 (by first | omega | (simp; done) | (simp; omega)) (by first | omega | (simp; done) | (simp; omega)) | rfl) ?_)
      refine xAs ?_
      refine inB_n (thn_n ?_)
      refine w_region ?_
      refine xMv ?_
      refine oX (w_add rfl rfl rfl rfl (by first | exact wrI64 (by first | omega | (simp; done) | (simp; omega)) (by first | omega | (simp; done) | (simp; omega)) | rfl) ?_)
      refine xAs ?_
      exact rndE_n (g.1 + 1, g.2 + sizeMs m.mail) [0] (by first | omega | (simp only []; omega)) ⟨rfl, by simp only []; omega, by rw [usedF_next hm, ← hs, if_pos g2], by simp only []; omega⟩ ⟨rfl, rfl, rfl, rfl, rfl, rfl, trivial⟩ rfl
    · try simp only [sQ1, sQ2, sQ3, sQ4, sQ5, sQ6, sQ7, sQ8, ne_eq] at g2
      refine w_skip ?_
      refine inB_n (thn_n ?_)
      refine w_region ?_
      refine xMv ?_
      refine oX (w_add rfl rfl rfl rfl (by first | exact wrI64 (by first | omega | (simp; done) | (simp; omega)) (by first | omega | (simp; done) | (simp; omega)) | rfl) ?_)
      refine xAs ?_
      exact rndE_n (g.1 + 1, g.2) [0] (by first | omega | (simp only []; omega)) ⟨rfl, by simp only []; omega, by rw [usedF_next hm, ← hs, if_neg g2]; simp only [Nat.add_zero], Nat.le_trans hl (Nat.mul_le_mul_right _ (Nat.le_succ _))⟩ ⟨rfl, rfl, rfl, rfl, rfl, rfl, trivial⟩ rfl
  · try simp only [sQ1, sQ2, sQ3, sQ4, sQ5, sQ6, sQ7, sQ8, ne_eq] at g1
    refine w_exit (thn_x (rndE_x (inB_hit (thn_n ?_))))
    refine wSR ?_
    refine xMv ?_
    refine xAs ?_
    refine wKp [(0, _), (1, _), (2, _), (4, _), (5, _), (6, _), (11, _)] ⟨rfl, rfl, rfl, rfl, rfl, rfl, rfl, trivial⟩ ?_
    refine w_ret ?_
    exact end0 .ret (.inl rfl) [_] ⟨rfl, trivial⟩ ⟨int_eq (by rw [← usedF_end hs (by omega)]), rfl, rfl⟩

set_option maxRecDepth 4000 in
set_option maxHeartbeats 400000 in
theorem l31Folders_c (q1 q2 q3 : Option Addr) (c1 c2 c3 : Nat) (x : DHost) (B : Kn) (hu : SlK B q1 c1 3 UserR x.users) (hf : SlK B q2 c2 5 FolderR x.folders) : RetB (pj J) 67 [.agg #[str x.domain, .slice q1 x.users.length c1, .slice q2 x.folders.length c2, .int .i64 x.queue.next, .slice q3 x.queue.items.length c3]] B (.bool (foldersOk x.users x.folders)) := by
  refine cBB 60 Tryz.func67 rfl rfl rfl (Nat.le_of_ble_eq_true rfl) ?_
  have hfn := hf.len
  have hun := hu.len
  refine wSR ?_
  refine oX (w_box (l := [_, _, _, _, _]) rfl rfl rfl rfl (fun b1 => ?_))
  refine xAs ?_
  refine wTd [(0, _), (1, _), (2, _)] [_] ⟨rfl, rfl, rfl, trivial⟩ rfl ?_
  refine w_seq ?_
  refine wSR ?_
  refine xAs ?_
  refine wKp [(0, _), (1, _), (2, _), (3, _)] ⟨rfl, rfl, rfl, rfl, trivial⟩ ?_
  refine w_block ?_
  refine w_loopE (α := Nat × Option DFolder) [0, 1] (fun g => [(3, .int .i64 g.1)]) [] (fun g => []) (fun g Bx => Bx = B ∧ g.1 ≤ x.folders.length ∧ folderScan x.users (x.folders.take g.1) = (true, g.2) ∧ Prev some none x.folders g.1 g.2) (fun g => x.folders.length - g.1) (0, none) ⟨rfl, trivial⟩ rfl (⟨rfl, Nat.zero_le _, scn_nil, .zero⟩) (fun g B2 hle2 hI => ?_)
  obtain ⟨rfl, hk, hs, hp⟩ := hI
  refine wTd [(0, _), (1, _), (3, _)] [_] ⟨rfl, rfl, rfl, trivial⟩ rfl ?_
  refine w_seq ?_
  refine wSR ?_
  refine xMv ?_
  refine oX (wFA rfl rfl fo31x2 rfl ?_)
  refine oX (w_load1 rfl rfl lk26 rfl (atL 0 rfl rfl rfl) ?_)
  refine oX (w_lenV rfl rfl Tryz.underlying26 rfl ?_)
  refine oX (w_lss rfl rfl rfl rfl ?_)
  refine wKp [(0, _), (1, _), (3, _), (9, _)] ⟨rfl, rfl, rfl, rfl, trivial⟩ ?_
  refine wCd rfl (fun g1 => ?_) (fun g1 => ?_)
  · try simp only [sQ1, sQ2, sQ3, sQ4, sQ5, sQ6, sQ7, sQ8, ne_eq] at g1
    refine w_skip ?_
    refine thn_n ?_
    refine w_seq ?_
    refine w_block ?_
    refine wSR ?_
    refine oX (wFA rfl rfl fo31x2 rfl ?_)
    refine oX (w_load1 rfl rfl lk26 rfl (atL 0 rfl rfl rfl) ?_)
    refine xMv ?_
    obtain ⟨m, hm⟩ := getLt (xs := x.folders) (i := g.1) (by first | omega | (simp; done) | (simp; omega))
    obtain ⟨bb4, oo4, rfl⟩ := hf.base hm
    obtain ⟨_, ⟨qg5, cg5, qm5, cm5, rfl, hg5, hm5, hb5, hb5b⟩, hc5⟩ := hf.elem hm
    have hg5n := hg5.len
    have hm5n := hm5.len
    have hm5s := sizeMs_le hm5
    refine oX (w_ixB rfl rfl Tryz.underlying26 sz40 rfl rfl (by first | omega | (simp; done) | (simp; omega)) (by first | omega | (simp; done) | (simp; omega)) ?_)
    refine oX (w_loadN [_, _, _, _, _] rfl rfl lk40 rfl (rowK hc5 0 rfl rfl) ?_)
    refine oX (w_alloc (l := [_, _, _, _, _]) rfl rfl zo40 rfl (fun b6 => ?_))
    refine oX (w_store [_, _, _, _, _] 1 [_, _, _, _, _] rfl rfl sz40 rfl rfl rfl rfl rfl rfl rfl rfl ?_)
    refine wTd [(0, _), (1, _), (3, _), (4, _), (9, _)] [_, _] ⟨rfl, rfl, rfl, rfl, rfl, trivial⟩ rfl ?_
    refine w_seq ?_
    refine w_draw (same _ _) mo (by kernel_rfl) ⟨rfl, rfl⟩ (fun _ _ => ?_)
    refine aTk 0 rfl (by kernel_rfl) rfl (q_of fun D => wFA rfl rfl fo31x1 rfl ⟨rfl, rfl, rfl, rfl⟩) ?_
    refine aTk 1 rfl (by kernel_rfl) rfl (q_of fun D => w_load1 rfl rfl lk23 rfl (atL 0 rfl rfl rfl) ⟨rfl, rfl, rfl, rfl⟩) ?_
    refine aTk 2 rfl (by kernel_rfl) rfl (q_of fun D => wFA rfl rfl fo40x0 rfl ⟨rfl, rfl, rfl, rfl⟩) ?_
    refine aTk 3 rfl (by kernel_rfl) rfl (q_of fun D => w_load1 rfl rfl lk9 rfl (atL 1 rfl rfl rfl) ⟨rfl, rfl, rfl, rfl⟩) ?_
    refine aTk 4 rfl (by kernel_rfl) rfl (q_of fun D => w_retB rfl rfl en70 rfl (l14Find_c _ _ _ _ _ hu) ⟨rfl, rfl, rfl, rfl⟩) ?_
    refine aTk 5 rfl (by kernel_rfl) rfl (q_of fun D => w_lss rfl rfl rfl rfl ⟨rfl, rfl, rfl, rfl⟩) ?_
    refine aTP 6 rfl (by kernel_rfl) rfl (fun D B L => w_move rfl rfl rfl ⟨rfl, rfl, rfl, rfl⟩) ?_
    refine a_split (d := 23) rfl (fun g2 => ?_) (fun g2 => ?_)
    · try simp only [sQ1, sQ2, sQ3, sQ4, sQ5, sQ6, sQ7, sQ8, ne_eq] at g2
      refine aTk 7 rfl (by kernel_rfl) rfl (q_of fun D => w_pass rfl rfl ⟨rfl, rfl, rfl, rfl⟩) ?_
      refine aTk 8 rfl (by kernel_rfl) rfl (q_of fun D => w_pass rfl rfl ⟨rfl, rfl, rfl, rfl⟩) ?_
      refine aTk 9 rfl (by kernel_rfl) rfl (q_of fun D => w_pass rfl rfl ⟨rfl, rfl, rfl, rfl⟩) ?_
      refine aTk 10 rfl (by kernel_rfl) rfl (q_of fun D => w_pass rfl rfl ⟨rfl, rfl, rfl, rfl⟩) ?_
      refine aTk 11 rfl (by kernel_rfl) rfl (q_of fun D => w_pickT rfl rfl rfl rfl ⟨rfl, rfl, rfl, rfl⟩) ?_
      refine aTP 12 rfl (by kernel_rfl) rfl (fun D B L => w_move rfl rfl rfl ⟨rfl, rfl, rfl, rfl⟩) ?_
      refine aTk 13 rfl (by kernel_rfl) rfl (q_of fun D => w_pass rfl rfl ⟨rfl, rfl, rfl, rfl⟩) ?_
      refine aTk 14 rfl (by kernel_rfl) rfl (q_of fun D => w_pass rfl rfl ⟨rfl, rfl, rfl, rfl⟩) ?_
      refine aTk 15 rfl (by kernel_rfl) rfl (q_of fun D => w_pass rfl rfl ⟨rfl, rfl, rfl, rfl⟩) ?_
      refine aTk 16 rfl (by kernel_rfl) rfl (q_of fun D => w_pass rfl rfl ⟨rfl, rfl, rfl, rfl⟩) ?_
      refine aTk 17 rfl (by kernel_rfl) rfl (q_of fun D => w_pickT rfl rfl rfl rfl ⟨rfl, rfl, rfl, rfl⟩) ?_
      refine aTP 18 rfl (by kernel_rfl) rfl (fun D B L => w_move rfl rfl rfl ⟨rfl, rfl, rfl, rfl⟩) ?_
      refine aTk 19 rfl (by kernel_rfl) rfl (q_of fun D => w_pass rfl rfl ⟨rfl, rfl, rfl, rfl⟩) ?_
      refine aTk 20 rfl (by kernel_rfl) rfl (q_of fun D => w_pass rfl rfl ⟨rfl, rfl, rfl, rfl⟩) ?_
      refine aTk 21 rfl (by kernel_rfl) rfl (q_of fun D => w_pass rfl rfl ⟨rfl, rfl, rfl, rfl⟩) ?_
      refine aTk 22 rfl (by kernel_rfl) rfl (q_of fun D => w_pass rfl rfl ⟨rfl, rfl, rfl, rfl⟩) ?_
      refine aTk 23 rfl (by kernel_rfl) rfl (q_of fun D => w_pickT rfl rfl rfl rfl ⟨rfl, rfl, rfl, rfl⟩) ?_
      refine aTP 24 rfl (by kernel_rfl) rfl (fun D B L => w_move rfl rfl rfl ⟨rfl, rfl, rfl, rfl⟩) ?_
      refine aTP 25 rfl (by kernel_rfl) rfl (fun D B L => w_pass rfl rfl ⟨rfl, rfl, rfl, rfl⟩) ?_
      refine aTk 26 rfl (by kernel_rfl) rfl (q_of fun D => w_pass rfl rfl ⟨rfl, rfl, rfl, rfl⟩) ?_
      refine aTP 27 rfl (by kernel_rfl) rfl (fun D B L => w_pass rfl rfl ⟨rfl, rfl, rfl, rfl⟩) ?_
      refine aTk 28 rfl (by kernel_rfl) rfl (q_of fun D => w_pass rfl rfl ⟨rfl, rfl, rfl, rfl⟩) ?_
      refine aTk 29 rfl (by kernel_rfl) rfl (q_of fun D => w_pass rfl rfl ⟨rfl, rfl, rfl, rfl⟩) ?_
      refine aTP 30 rfl (by kernel_rfl) rfl (fun D B L => w_pass rfl rfl ⟨rfl, rfl, rfl, rfl⟩) ?_
      refine aTk 31 rfl (by kernel_rfl) rfl (q_of fun D => w_pass rfl rfl ⟨rfl, rfl, rfl, rfl⟩) ?_
      refine aTk 32 rfl (by kernel_rfl) rfl (q_of fun D => w_pass rfl rfl ⟨rfl, rfl, rfl, rfl⟩) ?_
      refine aTk 33 rfl (by kernel_rfl) rfl (q_of fun D => w_pass rfl rfl ⟨rfl, rfl, rfl, rfl⟩) ?_
      refine aTk 34 rfl (by kernel_rfl) rfl (q_of fun D => w_pass rfl rfl ⟨rfl, rfl, rfl, rfl⟩) ?_
      refine aTk 35 rfl (by kernel_rfl) rfl (q_of fun D => w_pass rfl rfl ⟨rfl, rfl, rfl, rfl⟩) ?_
      refine aTk 36 rfl (by kernel_rfl) rfl (q_of fun D => w_pass rfl rfl ⟨rfl, rfl, rfl, rfl⟩) ?_
      refine aTk 37 rfl (by kernel_rfl) rfl (q_of fun D => w_pass rfl rfl ⟨rfl, rfl, rfl, rfl⟩) ?_
      refine aTk 38 rfl (by kernel_rfl) rfl (q_of fun D => w_pickT rfl rfl rfl rfl ⟨rfl, rfl, rfl, rfl⟩) ?_
      refine any_done (by kernel_rfl) (by kernel_rfl) ?_
      refine thn_n ?_
      refine wKp [(0, _), (1, _), (3, _), (4, _), (9, _), (55, _)] ⟨rfl, rfl, rfl, rfl, rfl, rfl, trivial⟩ ?_
      refine wCd (t := true) rfl (fun _ => ?_) (fun h => Bool.noConfusion h)
      refine wSR ?_
      refine xAs ?_
      refine wKp [(0, _), (1, _), (2, _), (3, _), (4, _), (9, _), (55, _)] ⟨rfl, rfl, rfl, rfl, rfl, rfl, rfl, trivial⟩ ?_
      refine w_ret (inB_r (thn_r (rndE_r (inB_r (thn_r ?_)))))
      exact end0 .ret (.inl rfl) [_] ⟨rfl, trivial⟩ ⟨bool_eq (foldersOk_hit hm hs (by simp [folderP, folderIn, DFolder.box, g1, g2]; try omega)).symm, rfl, rfl⟩
    · try simp only [sQ1, sQ2, sQ3, sQ4, sQ5, sQ6, sQ7, sQ8, ne_eq] at g2
      refine aTk 7 rfl (by kernel_rfl) rfl (q_of fun D => wFA rfl rfl fo40x1 rfl ⟨rfl, rfl, rfl, rfl⟩) ?_
      refine aTk 8 rfl (by kernel_rfl) rfl (q_of fun D => w_load1 rfl rfl lk9 rfl (atL 1 rfl rfl rfl) ⟨rfl, rfl, rfl, rfl⟩) ?_
      refine aTk 9 rfl (by kernel_rfl) rfl (q_of fun D => w_retB rfl rfl en124 rfl (specName_c _ (by first | assumption | omega | (simp; done) | (simp; omega)) _) ⟨rfl, rfl, rfl, rfl⟩) ?_
      refine aTk 10 rfl (by kernel_rfl) rfl (q_of fun D => w_not rfl rfl rfl ⟨rfl, rfl, rfl, rfl⟩) ?_
      refine aTk 11 rfl (by kernel_rfl) rfl (q_of fun D => w_pickF rfl rfl rfl rfl ⟨rfl, rfl, rfl, rfl⟩) ?_
      refine aTP 12 rfl (by kernel_rfl) rfl (fun D B L => w_move rfl rfl rfl ⟨rfl, rfl, rfl, rfl⟩) ?_
      refine a_split (d := 29) rfl (fun g3 => ?_) (fun g3 => ?_)
      · try simp only [sQ1, sQ2, sQ3, sQ4, sQ5, sQ6, sQ7, sQ8, ne_eq] at g3
        refine aTk 13 rfl (by kernel_rfl) rfl (q_of fun D => w_pass rfl rfl ⟨rfl, rfl, rfl, rfl⟩) ?_
        refine aTk 14 rfl (by kernel_rfl) rfl (q_of fun D => w_pass rfl rfl ⟨rfl, rfl, rfl, rfl⟩) ?_
        refine aTk 15 rfl (by kernel_rfl) rfl (q_of fun D => w_pass rfl rfl ⟨rfl, rfl, rfl, rfl⟩) ?_
        refine aTk 16 rfl (by kernel_rfl) rfl (q_of fun D => w_pass rfl rfl ⟨rfl, rfl, rfl, rfl⟩) ?_
        refine aTk 17 rfl (by kernel_rfl) rfl (q_of fun D => w_pickT rfl rfl rfl rfl ⟨rfl, rfl, rfl, rfl⟩) ?_
        refine aTP 18 rfl (by kernel_rfl) rfl (fun D B L => w_move rfl rfl rfl ⟨rfl, rfl, rfl, rfl⟩) ?_
        refine aTk 19 rfl (by kernel_rfl) rfl (q_of fun D => w_pass rfl rfl ⟨rfl, rfl, rfl, rfl⟩) ?_
        refine aTk 20 rfl (by kernel_rfl) rfl (q_of fun D => w_pass rfl rfl ⟨rfl, rfl, rfl, rfl⟩) ?_
        refine aTk 21 rfl (by kernel_rfl) rfl (q_of fun D => w_pass rfl rfl ⟨rfl, rfl, rfl, rfl⟩) ?_
        refine aTk 22 rfl (by kernel_rfl) rfl (q_of fun D => w_pass rfl rfl ⟨rfl, rfl, rfl, rfl⟩) ?_
        refine aTk 23 rfl (by kernel_rfl) rfl (q_of fun D => w_pickT rfl rfl rfl rfl ⟨rfl, rfl, rfl, rfl⟩) ?_
        refine aTP 24 rfl (by kernel_rfl) rfl (fun D B L => w_move rfl rfl rfl ⟨rfl, rfl, rfl, rfl⟩) ?_
        refine aTP 25 rfl (by kernel_rfl) rfl (fun D B L => w_pass rfl rfl ⟨rfl, rfl, rfl, rfl⟩) ?_
        refine aTk 26 rfl (by kernel_rfl) rfl (q_of fun D => w_pass rfl rfl ⟨rfl, rfl, rfl, rfl⟩) ?_
        refine aTP 27 rfl (by kernel_rfl) rfl (fun D B L => w_pass rfl rfl ⟨rfl, rfl, rfl, rfl⟩) ?_
        refine aTk 28 rfl (by kernel_rfl) rfl (q_of fun D => w_pass rfl rfl ⟨rfl, rfl, rfl, rfl⟩) ?_
        refine aTk 29 rfl (by kernel_rfl) rfl (q_of fun D => w_pass rfl rfl ⟨rfl, rfl, rfl, rfl⟩) ?_
        refine aTP 30 rfl (by kernel_rfl) rfl (fun D B L => w_pass rfl rfl ⟨rfl, rfl, rfl, rfl⟩) ?_
        refine aTk 31 rfl (by kernel_rfl) rfl (q_of fun D => w_pass rfl rfl ⟨rfl, rfl, rfl, rfl⟩) ?_
        refine aTk 32 rfl (by kernel_rfl) rfl (q_of fun D => w_pass rfl rfl ⟨rfl, rfl, rfl, rfl⟩) ?_
        refine aTk 33 rfl (by kernel_rfl) rfl (q_of fun D => w_pass rfl rfl ⟨rfl, rfl, rfl, rfl⟩) ?_
        refine aTk 34 rfl (by kernel_rfl) rfl (q_of fun D => w_pass rfl rfl ⟨rfl, rfl, rfl, rfl⟩) ?_
        refine aTk 35 rfl (by kernel_rfl) rfl (q_of fun D => w_pass rfl rfl ⟨rfl, rfl, rfl, rfl⟩) ?_
        refine aTk 36 rfl (by kernel_rfl) rfl (q_of fun D => w_pass rfl rfl ⟨rfl, rfl, rfl, rfl⟩) ?_
        refine aTk 37 rfl (by kernel_rfl) rfl (q_of fun D => w_pass rfl rfl ⟨rfl, rfl, rfl, rfl⟩) ?_
        refine aTk 38 rfl (by kernel_rfl) rfl (q_of fun D => w_pickT rfl rfl rfl rfl ⟨rfl, rfl, rfl, rfl⟩) ?_
        refine any_done (by kernel_rfl) (by kernel_rfl) ?_
        refine thn_n ?_
        refine wKp [(0, _), (1, _), (3, _), (4, _), (9, _), (55, _)] ⟨rfl, rfl, rfl, rfl, rfl, rfl, trivial⟩ ?_
        refine wCd (t := true) rfl (fun _ => ?_) (fun h => Bool.noConfusion h)
        refine wSR ?_
        refine xAs ?_
        refine wKp [(0, _), (1, _), (2, _), (3, _), (4, _), (9, _), (55, _)] ⟨rfl, rfl, rfl, rfl, rfl, rfl, rfl, trivial⟩ ?_
        refine w_ret (inB_r (thn_r (rndE_r (inB_r (thn_r ?_)))))
        exact end0 .ret (.inl rfl) [_] ⟨rfl, trivial⟩ ⟨bool_eq (foldersOk_hit hm hs (by simp [folderP, folderIn, DFolder.box, g1, g2, g3]; try omega)).symm, rfl, rfl⟩
      · try simp only [sQ1, sQ2, sQ3, sQ4, sQ5, sQ6, sQ7, sQ8, ne_eq] at g3
        refine aTk 13 rfl (by kernel_rfl) rfl (q_of fun D => wFA rfl rfl fo40x2 rfl ⟨rfl, rfl, rfl, rfl⟩) ?_
        refine aTk 14 rfl (by kernel_rfl) rfl (q_of fun D => w_load1 rfl rfl lk35 rfl (atL 1 rfl rfl rfl) ⟨rfl, rfl, rfl, rfl⟩) ?_
        refine aTk 15 rfl (by kernel_rfl) rfl (q_of fun D => w_retB rfl rfl en127 rfl (specAcl_c _ _ _ _ hg5) ⟨rfl, rfl, rfl, rfl⟩) ?_
        refine aTk 16 rfl (by kernel_rfl) rfl (q_of fun D => w_not rfl rfl rfl ⟨rfl, rfl, rfl, rfl⟩) ?_
        refine aTk 17 rfl (by kernel_rfl) rfl (q_of fun D => w_pickF rfl rfl rfl rfl ⟨rfl, rfl, rfl, rfl⟩) ?_
        refine aTP 18 rfl (by kernel_rfl) rfl (fun D B L => w_move rfl rfl rfl ⟨rfl, rfl, rfl, rfl⟩) ?_
        refine a_split (d := 35) rfl (fun g4 => ?_) (fun g4 => ?_)
        · try simp only [sQ1, sQ2, sQ3, sQ4, sQ5, sQ6, sQ7, sQ8, ne_eq] at g4
          refine aTk 19 rfl (by kernel_rfl) rfl (q_of fun D => w_pass rfl rfl ⟨rfl, rfl, rfl, rfl⟩) ?_
          refine aTk 20 rfl (by kernel_rfl) rfl (q_of fun D => w_pass rfl rfl ⟨rfl, rfl, rfl, rfl⟩) ?_
          refine aTk 21 rfl (by kernel_rfl) rfl (q_of fun D => w_pass rfl rfl ⟨rfl, rfl, rfl, rfl⟩) ?_
          refine aTk 22 rfl (by kernel_rfl) rfl (q_of fun D => w_pass rfl rfl ⟨rfl, rfl, rfl, rfl⟩) ?_
          refine aTk 23 rfl (by kernel_rfl) rfl (q_of fun D => w_pickT rfl rfl rfl rfl ⟨rfl, rfl, rfl, rfl⟩) ?_
          refine aTP 24 rfl (by kernel_rfl) rfl (fun D B L => w_move rfl rfl rfl ⟨rfl, rfl, rfl, rfl⟩) ?_
          refine aTP 25 rfl (by kernel_rfl) rfl (fun D B L => w_pass rfl rfl ⟨rfl, rfl, rfl, rfl⟩) ?_
          refine aTk 26 rfl (by kernel_rfl) rfl (q_of fun D => w_pass rfl rfl ⟨rfl, rfl, rfl, rfl⟩) ?_
          refine aTP 27 rfl (by kernel_rfl) rfl (fun D B L => w_pass rfl rfl ⟨rfl, rfl, rfl, rfl⟩) ?_
          refine aTk 28 rfl (by kernel_rfl) rfl (q_of fun D => w_pass rfl rfl ⟨rfl, rfl, rfl, rfl⟩) ?_
          refine aTk 29 rfl (by kernel_rfl) rfl (q_of fun D => w_pass rfl rfl ⟨rfl, rfl, rfl, rfl⟩) ?_
          refine aTP 30 rfl (by kernel_rfl) rfl (fun D B L => w_pass rfl rfl ⟨rfl, rfl, rfl, rfl⟩) ?_
          refine aTk 31 rfl (by kernel_rfl) rfl (q_of fun D => w_pass rfl rfl ⟨rfl, rfl, rfl, rfl⟩) ?_
          refine aTk 32 rfl (by kernel_rfl) rfl (q_of fun D => w_pass rfl rfl ⟨rfl, rfl, rfl, rfl⟩) ?_
          refine aTk 33 rfl (by kernel_rfl) rfl (q_of fun D => w_pass rfl rfl ⟨rfl, rfl, rfl, rfl⟩) ?_
          refine aTk 34 rfl (by kernel_rfl) rfl (q_of fun D => w_pass rfl rfl ⟨rfl, rfl, rfl, rfl⟩) ?_
          refine aTk 35 rfl (by kernel_rfl) rfl (q_of fun D => w_pass rfl rfl ⟨rfl, rfl, rfl, rfl⟩) ?_
          refine aTk 36 rfl (by kernel_rfl) rfl (q_of fun D => w_pass rfl rfl ⟨rfl, rfl, rfl, rfl⟩) ?_
          refine aTk 37 rfl (by kernel_rfl) rfl (q_of fun D => w_pass rfl rfl ⟨rfl, rfl, rfl, rfl⟩) ?_
          refine aTk 38 rfl (by kernel_rfl) rfl (q_of fun D => w_pickT rfl rfl rfl rfl ⟨rfl, rfl, rfl, rfl⟩) ?_
          refine any_done (by kernel_rfl) (by kernel_rfl) ?_
          refine thn_n ?_
          refine wKp [(0, _), (1, _), (3, _), (4, _), (9, _), (55, _)] ⟨rfl, rfl, rfl, rfl, rfl, rfl, trivial⟩ ?_
          refine wCd (t := true) rfl (fun _ => ?_) (fun h => Bool.noConfusion h)
          refine wSR ?_
          refine xAs ?_
          refine wKp [(0, _), (1, _), (2, _), (3, _), (4, _), (9, _), (55, _)] ⟨rfl, rfl, rfl, rfl, rfl, rfl, rfl, trivial⟩ ?_
          refine w_ret (inB_r (thn_r (rndE_r (inB_r (thn_r ?_)))))
          exact end0 .ret (.inl rfl) [_] ⟨rfl, trivial⟩ ⟨bool_eq (foldersOk_hit hm hs (by simp [folderP, folderIn, DFolder.box, g1, g2, g3, g4]; try omega)).symm, rfl, rfl⟩
        · try simp only [sQ1, sQ2, sQ3, sQ4, sQ5, sQ6, sQ7, sQ8, ne_eq] at g4
          refine aTk 19 rfl (by kernel_rfl) rfl (q_of fun D => wFA rfl rfl fo40x3 rfl ⟨rfl, rfl, rfl, rfl⟩) ?_
          refine aTk 20 rfl (by kernel_rfl) rfl (q_of fun D => w_loadN [_, _] rfl rfl lk38 rfl (rowL 1 rfl rfl rfl) ⟨rfl, rfl, rfl, rfl⟩) ?_
          refine aTk 21 rfl (by kernel_rfl) rfl (q_of fun D => w_retB rfl rfl en128 rfl (specBox_c _ _ (⟨m.next, m.mail⟩ : DBox) _ hm5) ⟨rfl, rfl, rfl, rfl⟩) ?_
          refine aTk 22 rfl (by kernel_rfl) rfl (q_of fun D => w_not rfl rfl rfl ⟨rfl, rfl, rfl, rfl⟩) ?_
          refine aTk 23 rfl (by kernel_rfl) rfl (q_of fun D => w_pickF rfl rfl rfl rfl ⟨rfl, rfl, rfl, rfl⟩) ?_
          refine aTP 24 rfl (by kernel_rfl) rfl (fun D B L => w_move rfl rfl rfl ⟨rfl, rfl, rfl, rfl⟩) ?_
          refine a_split (d := 41) rfl (fun g5 => ?_) (fun g5 => ?_)
          · try simp only [sQ1, sQ2, sQ3, sQ4, sQ5, sQ6, sQ7, sQ8, ne_eq] at g5
            refine aTP 25 rfl (by kernel_rfl) rfl (fun D B L => w_pass rfl rfl ⟨rfl, rfl, rfl, rfl⟩) ?_
            refine aTk 26 rfl (by kernel_rfl) rfl (q_of fun D => w_pass rfl rfl ⟨rfl, rfl, rfl, rfl⟩) ?_
            refine aTP 27 rfl (by kernel_rfl) rfl (fun D B L => w_pass rfl rfl ⟨rfl, rfl, rfl, rfl⟩) ?_
            refine aTk 28 rfl (by kernel_rfl) rfl (q_of fun D => w_pass rfl rfl ⟨rfl, rfl, rfl, rfl⟩) ?_
            refine aTk 29 rfl (by kernel_rfl) rfl (q_of fun D => w_pass rfl rfl ⟨rfl, rfl, rfl, rfl⟩) ?_
            refine aTP 30 rfl (by kernel_rfl) rfl (fun D B L => w_pass rfl rfl ⟨rfl, rfl, rfl, rfl⟩) ?_
            refine aTk 31 rfl (by kernel_rfl) rfl (q_of fun D => w_pass rfl rfl ⟨rfl, rfl, rfl, rfl⟩) ?_
            refine aTk 32 rfl (by kernel_rfl) rfl (q_of fun D => w_pass rfl rfl ⟨rfl, rfl, rfl, rfl⟩) ?_
            refine aTk 33 rfl (by kernel_rfl) rfl (q_of fun D => w_pass rfl rfl ⟨rfl, rfl, rfl, rfl⟩) ?_
            refine aTk 34 rfl (by kernel_rfl) rfl (q_of fun D => w_pass rfl rfl ⟨rfl, rfl, rfl, rfl⟩) ?_
            refine aTk 35 rfl (by kernel_rfl) rfl (q_of fun D => w_pass rfl rfl ⟨rfl, rfl, rfl, rfl⟩) ?_
            refine aTk 36 rfl (by kernel_rfl) rfl (q_of fun D => w_pass rfl rfl ⟨rfl, rfl, rfl, rfl⟩) ?_
            refine aTk 37 rfl (by kernel_rfl) rfl (q_of fun D => w_pass rfl rfl ⟨rfl, rfl, rfl, rfl⟩) ?_
            refine aTk 38 rfl (by kernel_rfl) rfl (q_of fun D => w_pickT rfl rfl rfl rfl ⟨rfl, rfl, rfl, rfl⟩) ?_
            refine any_done (by kernel_rfl) (by kernel_rfl) ?_
            refine thn_n ?_
            refine wKp [(0, _), (1, _), (3, _), (4, _), (9, _), (55, _)] ⟨rfl, rfl, rfl, rfl, rfl, rfl, trivial⟩ ?_
            refine wCd (t := true) rfl (fun _ => ?_) (fun h => Bool.noConfusion h)
            refine wSR ?_
            refine xAs ?_
            refine wKp [(0, _), (1, _), (2, _), (3, _), (4, _), (9, _), (55, _)] ⟨rfl, rfl, rfl, rfl, rfl, rfl, rfl, trivial⟩ ?_
            refine w_ret (inB_r (thn_r (rndE_r (inB_r (thn_r ?_)))))
            exact end0 .ret (.inl rfl) [_] ⟨rfl, trivial⟩ ⟨bool_eq (foldersOk_hit hm hs (by simp [folderP, folderIn, DFolder.box, g1, g2, g3, g4, g5]; try omega)).symm, rfl, rfl⟩
          · try simp only [sQ1, sQ2, sQ3, sQ4, sQ5, sQ6, sQ7, sQ8, ne_eq] at g5
            refine aTP 25 rfl (by kernel_rfl) rfl (fun D B L => w_move rfl rfl rfl ⟨rfl, rfl, rfl, rfl⟩) ?_
            refine aTk 26 rfl (by kernel_rfl) rfl (q_of fun D => w_gtr rfl rfl rfl rfl ⟨rfl, rfl, rfl, rfl⟩) ?_
            refine aTP 27 rfl (by kernel_rfl) rfl (fun D B L => w_move rfl rfl rfl ⟨rfl, rfl, rfl, rfl⟩) ?_
            refine a_split (d := 44) rfl (fun g6 => ?_) (fun g6 => ?_)
            · try simp only [sQ1, sQ2, sQ3, sQ4, sQ5, sQ6, sQ7, sQ8, ne_eq] at g6
              refine aTk 28 rfl (by kernel_rfl) rfl (q_of fun D => wFA rfl rfl fo31x2 rfl ⟨rfl, rfl, rfl, rfl⟩) ?_
              refine aTk 29 rfl (by kernel_rfl) rfl (q_of fun D => w_load1 rfl rfl lk26 rfl (atL 0 rfl rfl rfl) ⟨rfl, rfl, rfl, rfl⟩) ?_
              refine aTP 30 rfl (by kernel_rfl) rfl (fun D B L => w_move rfl rfl rfl ⟨rfl, rfl, rfl, rfl⟩) ?_
              refine aTk 31 rfl (by kernel_rfl) rfl (q_of fun D => w_sub rfl rfl rfl rfl (by first | exact wrI64 (by first | omega | (simp; done) | (simp; omega)) (by first | omega | (simp; done) | (simp; omega)) | rfl) ⟨rfl, rfl, rfl, rfl⟩) ?_
              obtain ⟨y, hy⟩ := getI (xs := x.folders) (i := (↑g.1 - 1)) (by first | omega | (simp; done) | (simp; omega)) (by first | omega | (simp; done) | (simp; omega))
              obtain ⟨_, ⟨qg12, cg12, qm12, cm12, rfl, hg12, hm12, hb12, hb12b⟩, hc12⟩ := hf.elem hy
              have hg12n := hg12.len
              have hm12n := hm12.len
              have hm12s := sizeMs_le hm12
              refine aTk 32 rfl (by kernel_rfl) rfl (q_of fun D => w_ixB rfl rfl Tryz.underlying26 sz40 rfl rfl (by first | omega | (simp; done) | (simp; omega)) (by first | omega | (simp; done) | (simp; omega)) ⟨rfl, rfl, rfl, rfl⟩) ?_
              have hpe := hp.at hy (by omega)
              refine aTk 33 rfl (by kernel_rfl) rfl (q_of fun D => w_loadN [_, _, _, _, _] rfl rfl lk40 rfl (rowK hc12 0 rfl rfl) ⟨rfl, rfl, rfl, rfl⟩) ?_
              refine aTk 34 rfl (by kernel_rfl) rfl (q_of fun D => w_loadN [_, _, _, _, _] rfl rfl lk40 rfl (rowL 1 rfl rfl rfl) ⟨rfl, rfl, rfl, rfl⟩) ?_
              refine aTk 35 rfl (by kernel_rfl) rfl (q_of fun D => w_retB rfl rfl en129 rfl (l31Less_c y m _ _ _ _ _ _ _ _ _) ⟨rfl, rfl, rfl, rfl⟩) ?_
              refine aTk 36 rfl (by kernel_rfl) rfl (q_of fun D => w_not rfl rfl rfl ⟨rfl, rfl, rfl, rfl⟩) ?_
              refine aTk 37 rfl (by kernel_rfl) rfl (q_of fun D => w_pickT rfl rfl rfl rfl ⟨rfl, rfl, rfl, rfl⟩) ?_
              refine aTk 38 rfl (by kernel_rfl) rfl (q_of fun D => w_pickF rfl rfl rfl rfl ⟨rfl, rfl, rfl, rfl⟩) ?_
              refine any_done (by kernel_rfl) (by kernel_rfl) ?_
              refine thn_n ?_
              refine wKp [(0, _), (1, _), (3, _), (4, _), (9, _), (55, _)] ⟨rfl, rfl, rfl, rfl, rfl, rfl, trivial⟩ ?_
              refine wCd rfl (fun g7 => ?_) (fun g7 => ?_)
              · try simp only [sQ1, sQ2, sQ3, sQ4, sQ5, sQ6, sQ7, sQ8, ne_eq] at g7
                refine wSR ?_
                refine xAs ?_
                refine wKp [(0, _), (1, _), (2, _), (3, _), (4, _), (9, _), (55, _)] ⟨rfl, rfl, rfl, rfl, rfl, rfl, rfl, trivial⟩ ?_
                refine w_ret (inB_r (thn_r (rndE_r (inB_r (thn_r ?_)))))
                exact end0 .ret (.inl rfl) [_] ⟨rfl, trivial⟩ ⟨bool_eq (foldersOk_hit hm hs (by simp [folderP, folderIn, DFolder.box, g1, g2, g3, g4, g5, g6, g7, hpe]; try omega)).symm, rfl, rfl⟩
              · try simp only [sQ1, sQ2, sQ3, sQ4, sQ5, sQ6, sQ7, sQ8, ne_eq] at g7
                refine w_skip ?_
                refine inB_n (thn_n ?_)
                refine w_region ?_
                refine xMv ?_
                refine oX (w_add rfl rfl rfl rfl (by first | exact wrI64 (by first | omega | (simp; done) | (simp; omega)) (by first | omega | (simp; done) | (simp; omega)) | rfl) ?_)
                refine xAs ?_
                exact rndE_n (g.1 + 1, some m) [0] (by first | omega | (simp only []; omega)) ⟨rfl, by omega, scn_step hm hs (by rw [hpe]; simp [folderP, folderIn, DFolder.box, g3, g4, g5, g7]; omega), .succ hm⟩ ⟨rfl, rfl, rfl, trivial⟩ rfl
            · try simp only [sQ1, sQ2, sQ3, sQ4, sQ5, sQ6, sQ7, sQ8, ne_eq] at g6
              refine aTk 28 rfl (by kernel_rfl) rfl (q_of fun D => w_pass rfl rfl ⟨rfl, rfl, rfl, rfl⟩) ?_
              refine aTk 29 rfl (by kernel_rfl) rfl (q_of fun D => w_pass rfl rfl ⟨rfl, rfl, rfl, rfl⟩) ?_
              refine aTP 30 rfl (by kernel_rfl) rfl (fun D B L => w_pass rfl rfl ⟨rfl, rfl, rfl, rfl⟩) ?_
              refine aTk 31 rfl (by kernel_rfl) rfl (q_of fun D => w_pass rfl rfl ⟨rfl, rfl, rfl, rfl⟩) ?_
              refine aTk 32 rfl (by kernel_rfl) rfl (q_of fun D => w_pass rfl rfl ⟨rfl, rfl, rfl, rfl⟩) ?_
              refine aTk 33 rfl (by kernel_rfl) rfl (q_of fun D => w_pass rfl rfl ⟨rfl, rfl, rfl, rfl⟩) ?_
              refine aTk 34 rfl (by kernel_rfl) rfl (q_of fun D => w_pass rfl rfl ⟨rfl, rfl, rfl, rfl⟩) ?_
              refine aTk 35 rfl (by kernel_rfl) rfl (q_of fun D => w_pass rfl rfl ⟨rfl, rfl, rfl, rfl⟩) ?_
              refine aTk 36 rfl (by kernel_rfl) rfl (q_of fun D => w_pass rfl rfl ⟨rfl, rfl, rfl, rfl⟩) ?_
              refine aTk 37 rfl (by kernel_rfl) rfl (q_of fun D => w_pickF rfl rfl rfl rfl ⟨rfl, rfl, rfl, rfl⟩) ?_
              refine aTk 38 rfl (by kernel_rfl) rfl (q_of fun D => w_pickF rfl rfl rfl rfl ⟨rfl, rfl, rfl, rfl⟩) ?_
              refine any_done (by kernel_rfl) (by kernel_rfl) ?_
              refine thn_n ?_
              refine wKp [(0, _), (1, _), (3, _), (4, _), (9, _), (55, _)] ⟨rfl, rfl, rfl, rfl, rfl, rfl, trivial⟩ ?_
              refine wCd (t := false) rfl (fun h => Bool.noConfusion h) (fun _ => ?_)
              refine w_skip ?_
              refine inB_n (thn_n ?_)
              refine w_region ?_
              refine xMv ?_
              refine oX (w_add rfl rfl rfl rfl (by first | exact wrI64 (by first | omega | (simp; done) | (simp; omega)) (by first | omega | (simp; done) | (simp; omega)) | rfl) ?_)
              refine xAs ?_
              exact rndE_n (g.1 + 1, some m) [0] (by first | omega | (simp only []; omega)) ⟨rfl, by omega, scn_step hm hs (by rw [hp.at0 (by omega)]; simp [folderP, folderIn, DFolder.box, g3, g4, g5]; omega), .succ hm⟩ ⟨rfl, rfl, rfl, trivial⟩ rfl
  · try simp only [sQ1, sQ2, sQ3, sQ4, sQ5, sQ6, sQ7, sQ8, ne_eq] at g1
    refine w_exit (thn_x (rndE_x (inB_hit (thn_n ?_))))
    refine wSR ?_
    refine oX (wFA rfl rfl fo31x2 rfl ?_)
    refine oX (w_load1 rfl rfl lk26 rfl (atL 0 rfl rfl rfl) ?_)
    refine oX (w_lenV rfl rfl Tryz.underlying26 rfl ?_)
    refine oX (w_leq rfl rfl rfl rfl ?_)
    refine xAs ?_
    refine wKp [(0, _), (1, _), (2, _), (3, _), (9, _)] ⟨rfl, rfl, rfl, rfl, rfl, trivial⟩ ?_
    refine w_ret ?_
    exact end0 .ret (.inl rfl) [_] ⟨rfl, trivial⟩ ⟨bool_eq (by rw [foldersOk_end (scn_end hs (by omega)), Bool.eq_iff_iff]; simp; try omega), rfl, rfl⟩

set_option maxRecDepth 4000 in
set_option maxHeartbeats 400000 in
theorem specHost_c (q1 q2 q3 : Option Addr) (c1 c2 c3 : Nat) (x : DHost) (hd : x.domain.length ≤ 2000000) (B : Kn) (hu : SlK B q1 c1 3 UserR x.users) (hf : SlK B q2 c2 5 FolderR x.folders) (hi : SlK B q3 c3 4 ItemR x.queue.items) : RetB (pj J) 23 [.agg #[str x.domain, .slice q1 x.users.length c1, .slice q2 x.folders.length c2, .int .i64 x.queue.next, .slice q3 x.queue.items.length c3]] B (.bool (hostOk x)) := by
  refine cBB 87 Tryz.func23 rfl rfl rfl (Nat.le_of_ble_eq_true rfl) ?_
  have hfn := hf.len
  have hun := hu.len
  have hin := hi.len
  refine wSR ?_
  refine oX (w_box (l := [_, _, _, _, _]) rfl rfl rfl rfl (fun b1 => ?_))
  refine xAs ?_
  refine wTd [(0, _), (1, _), (2, _)] [_] ⟨rfl, rfl, rfl, trivial⟩ rfl ?_
  refine w_seq ?_
  refine wSR ?_
  refine oX (wFA rfl rfl fo31x0 rfl ?_)
  refine oX (w_load1 rfl rfl lk9 rfl (atL 0 rfl rfl rfl) ?_)
  refine oX (w_retB rfl rfl en64 rfl (specDomain_c _ (by first | assumption | omega | (simp; done) | (simp; omega)) _) ?_)
  refine oX (w_not rfl rfl rfl ?_)
  refine xMv ?_
  refine r_split (d := 10) rfl (fun g1 => ?_) (fun g1 => ?_)
  · try simp only [sQ1, sQ2, sQ3, sQ4, sQ5, sQ6, sQ7, sQ8, ne_eq] at g1
    refine oX (w_pass rfl rfl ?_)
    refine oX (w_pass rfl rfl ?_)
    refine oX (w_pass rfl rfl ?_)
    refine oX (w_pass rfl rfl ?_)
    refine oX (w_pickT rfl rfl rfl rfl ?_)
    refine xMv ?_
    refine oX (w_pass rfl rfl ?_)
    refine oX (w_pass rfl rfl ?_)
    refine oX (w_pass rfl rfl ?_)
    refine oX (w_pass rfl rfl ?_)
    refine oX (w_pickT rfl rfl rfl rfl ?_)
    refine xMv ?_
    refine oX (w_pass rfl rfl ?_)
    refine oX (w_pass rfl rfl ?_)
    refine oX (w_pass rfl rfl ?_)
    refine oX (w_pickT rfl rfl rfl rfl ?_)
    refine wKp [(0, _), (1, _), (2, _), (26, _)] ⟨rfl, rfl, rfl, rfl, trivial⟩ ?_
    refine wCd (t := true) rfl (fun _ => ?_) (fun h => Bool.noConfusion h)
    refine wSR ?_
    refine xAs ?_
    refine wKp [(0, _), (1, _), (2, _), (26, _)] ⟨rfl, rfl, rfl, rfl, trivial⟩ ?_
    refine w_ret (thn_r ?_)
    exact end0 .ret (.inl rfl) [_] ⟨rfl, trivial⟩ ⟨bool_eq (by simp [hostOk, g1]), rfl, rfl⟩
  · try simp only [sQ1, sQ2, sQ3, sQ4, sQ5, sQ6, sQ7, sQ8, ne_eq] at g1
    refine oX (wFA rfl rfl fo31x1 rfl ?_)
    refine oX (w_load1 rfl rfl lk23 rfl (atL 0 rfl rfl rfl) ?_)
    refine oX (w_retB rfl rfl en65 rfl (specUsers_c _ _ _ _ hu) ?_)
    refine oX (w_not rfl rfl rfl ?_)
    refine oX (w_pickF rfl rfl rfl rfl ?_)
    refine xMv ?_
    refine r_split (d := 16) rfl (fun g2 => ?_) (fun g2 => ?_)
    · try simp only [sQ1, sQ2, sQ3, sQ4, sQ5, sQ6, sQ7, sQ8, ne_eq] at g2
      refine oX (w_pass rfl rfl ?_)
      refine oX (w_pass rfl rfl ?_)
      refine oX (w_pass rfl rfl ?_)
      refine oX (w_pass rfl rfl ?_)
      refine oX (w_pickT rfl rfl rfl rfl ?_)
      refine xMv ?_
      refine oX (w_pass rfl rfl ?_)
      refine oX (w_pass rfl rfl ?_)
      refine oX (w_pass rfl rfl ?_)
      refine oX (w_pickT rfl rfl rfl rfl ?_)
      refine wKp [(0, _), (1, _), (2, _), (26, _)] ⟨rfl, rfl, rfl, rfl, trivial⟩ ?_
      refine wCd (t := true) rfl (fun _ => ?_) (fun h => Bool.noConfusion h)
      refine wSR ?_
      refine xAs ?_
      refine wKp [(0, _), (1, _), (2, _), (26, _)] ⟨rfl, rfl, rfl, rfl, trivial⟩ ?_
      refine w_ret (thn_r ?_)
      exact end0 .ret (.inl rfl) [_] ⟨rfl, trivial⟩ ⟨bool_eq (by simp [hostOk, g1, g2]), rfl, rfl⟩
    · try simp only [sQ1, sQ2, sQ3, sQ4, sQ5, sQ6, sQ7, sQ8, ne_eq] at g2
      refine oX (wFA rfl rfl fo31x3 rfl ?_)
      refine oX (w_loadN [_, _] rfl rfl lk29 rfl (rowL 0 rfl rfl rfl) ?_)
      refine oX (w_retB rfl rfl en66 rfl (specQueue_c _ _ x.queue _ hi) ?_)
      refine oX (w_not rfl rfl rfl ?_)
      refine oX (w_pickF rfl rfl rfl rfl ?_)
      refine xMv ?_
      refine r_split (d := 22) rfl (fun g3 => ?_) (fun g3 => ?_)
      · try simp only [sQ1, sQ2, sQ3, sQ4, sQ5, sQ6, sQ7, sQ8, ne_eq] at g3
        refine oX (w_pass rfl rfl ?_)
        refine oX (w_pass rfl rfl ?_)
        refine oX (w_pass rfl rfl ?_)
        refine oX (w_pickT rfl rfl rfl rfl ?_)
        refine wKp [(0, _), (1, _), (2, _), (26, _)] ⟨rfl, rfl, rfl, rfl, trivial⟩ ?_
        refine wCd (t := true) rfl (fun _ => ?_) (fun h => Bool.noConfusion h)
        refine wSR ?_
        refine xAs ?_
        refine wKp [(0, _), (1, _), (2, _), (26, _)] ⟨rfl, rfl, rfl, rfl, trivial⟩ ?_
        refine w_ret (thn_r ?_)
        exact end0 .ret (.inl rfl) [_] ⟨rfl, trivial⟩ ⟨bool_eq (by simp [hostOk, g1, g2, g3]), rfl, rfl⟩
      · try simp only [sQ1, sQ2, sQ3, sQ4, sQ5, sQ6, sQ7, sQ8, ne_eq] at g3
        refine oX (w_loadN [_, _, _, _, _] rfl rfl lk31 rfl (rowL 0 rfl rfl rfl) ?_)
        refine oX (w_retB rfl rfl en67 rfl (l31Folders_c _ _ _ _ _ _ x _ hu hf) ?_)
        refine oX (w_not rfl rfl rfl ?_)
        refine oX (w_pickF rfl rfl rfl rfl ?_)
        refine wKp [(0, _), (1, _), (2, _), (26, _)] ⟨rfl, rfl, rfl, rfl, trivial⟩ ?_
        refine wCd rfl (fun g4 => ?_) (fun g4 => ?_)
        · try simp only [sQ1, sQ2, sQ3, sQ4, sQ5, sQ6, sQ7, sQ8, ne_eq] at g4
          refine wSR ?_
          refine xAs ?_
          refine wKp [(0, _), (1, _), (2, _), (26, _)] ⟨rfl, rfl, rfl, rfl, trivial⟩ ?_
          refine w_ret (thn_r ?_)
          exact end0 .ret (.inl rfl) [_] ⟨rfl, trivial⟩ ⟨bool_eq (by simp [hostOk, g1, g2, g3, g4]), rfl, rfl⟩
        · try simp only [sQ1, sQ2, sQ3, sQ4, sQ5, sQ6, sQ7, sQ8, ne_eq] at g4
          refine w_skip ?_
          refine thn_n ?_
          refine w_seq ?_
          refine wSR ?_
          refine xAs ?_
          refine wKp [(0, _), (1, _), (2, _), (3, _), (26, _)] ⟨rfl, rfl, rfl, rfl, rfl, trivial⟩ ?_
          refine w_block ?_
          refine w_loopE (α := Nat) [0, 1, 26] (fun k => [(3, .int .i64 k)]) [] (fun k => []) (fun k Bx => Bx = B ∧ k ≤ x.users.length ∧ ∀ z, z ∈ x.users.take k → userFits x.folders z = true) (fun k => x.users.length - k) 0 ⟨rfl, trivial⟩ rfl (⟨rfl, Nat.zero_le _, by simp⟩) (fun k B6 hle6 hI => ?_)
          obtain ⟨rfl, hk, ha⟩ := hI
          refine wTd [(0, _), (1, _), (3, _), (26, _)] [_] ⟨rfl, rfl, rfl, rfl, trivial⟩ rfl ?_
          refine w_seq ?_
          refine wSR ?_
          refine xMv ?_
          refine oX (wFA rfl rfl fo31x1 rfl ?_)
          refine oX (w_load1 rfl rfl lk23 rfl (atL 0 rfl rfl rfl) ?_)
          refine oX (w_lenV rfl rfl Tryz.underlying23 rfl ?_)
          refine oX (w_lss rfl rfl rfl rfl ?_)
          refine wKp [(0, _), (1, _), (3, _), (26, _), (31, _)] ⟨rfl, rfl, rfl, rfl, rfl, trivial⟩ ?_
          refine wCd rfl (fun g5 => ?_) (fun g5 => ?_)
          · try simp only [sQ1, sQ2, sQ3, sQ4, sQ5, sQ6, sQ7, sQ8, ne_eq] at g5
            refine w_skip ?_
            refine thn_n ?_
            refine w_seq ?_
            refine w_block ?_
            refine w_seq ?_
            refine w_draw (same _ _) mo (by kernel_rfl) ⟨rfl, rfl⟩ (fun _ _ => ?_)
            refine aTk 0 rfl (by kernel_rfl) rfl (q_of fun D => w_loadN [_, _, _, _, _] rfl rfl lk31 rfl (rowL 0 rfl rfl rfl) ⟨rfl, rfl, rfl, rfl⟩) ?_
            refine aTk 1 rfl (by kernel_rfl) rfl (q_of fun D => wFA rfl rfl fo31x1 rfl ⟨rfl, rfl, rfl, rfl⟩) ?_
            refine aTk 2 rfl (by kernel_rfl) rfl (q_of fun D => w_load1 rfl rfl lk23 rfl (atL 0 rfl rfl rfl) ⟨rfl, rfl, rfl, rfl⟩) ?_
            refine aTP 3 rfl (by kernel_rfl) rfl (fun D B L => w_move rfl rfl rfl ⟨rfl, rfl, rfl, rfl⟩) ?_
            obtain ⟨w, hw⟩ := getLt (xs := x.users) (i := k) (by first | omega | (simp; done) | (simp; omega))
            obtain ⟨bb8, oo8, rfl⟩ := hu.base hw
            obtain ⟨_, ⟨rfl, hb9, hb9b⟩, hc9⟩ := hu.elem hw
            refine aTk 4 rfl (by kernel_rfl) rfl (q_of fun D => w_ixB rfl rfl Tryz.underlying23 sz44 rfl rfl (by first | omega | (simp; done) | (simp; omega)) (by first | omega | (simp; done) | (simp; omega)) ⟨rfl, rfl, rfl, rfl⟩) ?_
            refine aTk 5 rfl (by kernel_rfl) rfl (q_of fun D => wFA rfl rfl fo44x0 rfl ⟨rfl, rfl, rfl, rfl⟩) ?_
            refine aTk 6 rfl (by kernel_rfl) rfl (q_of fun D => w_load1 rfl rfl lk9 rfl (hc9 _ 0 _ rfl) ⟨rfl, rfl, rfl, rfl⟩) ?_
            refine aTk 7 rfl (by kernel_rfl) rfl (q_of fun D => w_retB rfl rfl en68 rfl (l31Find_c _ _ _ _ _ _ x w.name [105, 110, 98, 111, 120] (by first | assumption | omega | (simp; done) | (simp; omega)) (by first | assumption | omega | (simp; done) | (simp; omega)) _ hf) ⟨rfl, rfl, rfl, rfl⟩) ?_
            refine aTk 8 rfl (by kernel_rfl) rfl (q_of fun D => w_lss rfl rfl rfl rfl ⟨rfl, rfl, rfl, rfl⟩) ?_
            refine aTP 9 rfl (by kernel_rfl) rfl (fun D B L => w_move rfl rfl rfl ⟨rfl, rfl, rfl, rfl⟩) ?_
            refine a_split (d := 43) rfl (fun g6 => ?_) (fun g6 => ?_)
            · try simp only [sQ1, sQ2, sQ3, sQ4, sQ5, sQ6, sQ7, sQ8, ne_eq] at g6
              refine aTk 10 rfl (by kernel_rfl) rfl (q_of fun D => w_pass rfl rfl ⟨rfl, rfl, rfl, rfl⟩) ?_
              refine aTk 11 rfl (by kernel_rfl) rfl (q_of fun D => w_pass rfl rfl ⟨rfl, rfl, rfl, rfl⟩) ?_
              refine aTk 12 rfl (by kernel_rfl) rfl (q_of fun D => w_pass rfl rfl ⟨rfl, rfl, rfl, rfl⟩) ?_
              refine aTP 13 rfl (by kernel_rfl) rfl (fun D B L => w_pass rfl rfl ⟨rfl, rfl, rfl, rfl⟩) ?_
              refine aTk 14 rfl (by kernel_rfl) rfl (q_of fun D => w_pass rfl rfl ⟨rfl, rfl, rfl, rfl⟩) ?_
              refine aTk 15 rfl (by kernel_rfl) rfl (q_of fun D => w_pass rfl rfl ⟨rfl, rfl, rfl, rfl⟩) ?_
              refine aTk 16 rfl (by kernel_rfl) rfl (q_of fun D => w_pass rfl rfl ⟨rfl, rfl, rfl, rfl⟩) ?_
              refine aTk 17 rfl (by kernel_rfl) rfl (q_of fun D => w_pass rfl rfl ⟨rfl, rfl, rfl, rfl⟩) ?_
              refine aTk 18 rfl (by kernel_rfl) rfl (q_of fun D => w_pass rfl rfl ⟨rfl, rfl, rfl, rfl⟩) ?_
              refine aTk 19 rfl (by kernel_rfl) rfl (q_of fun D => w_pass rfl rfl ⟨rfl, rfl, rfl, rfl⟩) ?_
              refine aTP 20 rfl (by kernel_rfl) rfl (fun D B L => w_pass rfl rfl ⟨rfl, rfl, rfl, rfl⟩) ?_
              refine aTk 21 rfl (by kernel_rfl) rfl (q_of fun D => w_pass rfl rfl ⟨rfl, rfl, rfl, rfl⟩) ?_
              refine aTk 22 rfl (by kernel_rfl) rfl (q_of fun D => w_pass rfl rfl ⟨rfl, rfl, rfl, rfl⟩) ?_
              refine aTk 23 rfl (by kernel_rfl) rfl (q_of fun D => w_pass rfl rfl ⟨rfl, rfl, rfl, rfl⟩) ?_
              refine aTk 24 rfl (by kernel_rfl) rfl (q_of fun D => w_pass rfl rfl ⟨rfl, rfl, rfl, rfl⟩) ?_
              refine aTk 25 rfl (by kernel_rfl) rfl (q_of fun D => w_pickT rfl rfl rfl rfl ⟨rfl, rfl, rfl, rfl⟩) ?_
              refine any_done (by kernel_rfl) (by kernel_rfl) ?_
              refine thn_n ?_
              refine wKp [(0, _), (1, _), (3, _), (26, _), (31, _), (59, _)] ⟨rfl, rfl, rfl, rfl, rfl, rfl, trivial⟩ ?_
              refine wCd (t := true) rfl (fun _ => ?_) (fun h => Bool.noConfusion h)
              refine wSR ?_
              refine xAs ?_
              refine wKp [(0, _), (1, _), (2, _), (3, _), (26, _), (31, _), (59, _)] ⟨rfl, rfl, rfl, rfl, rfl, rfl, rfl, trivial⟩ ?_
              refine w_ret (inB_r (thn_r (rndE_r (inB_r (thn_r ?_)))))
              exact end0 .ret (.inl rfl) [_] ⟨rfl, trivial⟩ ⟨bool_eq (hostOk_user hw (userFits_no1 g6)).symm, rfl, rfl⟩
            · try simp only [sQ1, sQ2, sQ3, sQ4, sQ5, sQ6, sQ7, sQ8, ne_eq] at g6
              refine aTk 10 rfl (by kernel_rfl) rfl (q_of fun D => w_loadN [_, _, _, _, _] rfl rfl lk31 rfl (rowL 0 rfl rfl rfl) ⟨rfl, rfl, rfl, rfl⟩) ?_
              refine aTk 11 rfl (by kernel_rfl) rfl (q_of fun D => wFA rfl rfl fo31x1 rfl ⟨rfl, rfl, rfl, rfl⟩) ?_
              refine aTk 12 rfl (by kernel_rfl) rfl (q_of fun D => w_load1 rfl rfl lk23 rfl (atL 0 rfl rfl rfl) ⟨rfl, rfl, rfl, rfl⟩) ?_
              refine aTP 13 rfl (by kernel_rfl) rfl (fun D B L => w_move rfl rfl rfl ⟨rfl, rfl, rfl, rfl⟩) ?_
              refine aTk 14 rfl (by kernel_rfl) rfl (q_of fun D => w_ixB rfl rfl Tryz.underlying23 sz44 rfl rfl (by first | omega | (simp; done) | (simp; omega)) (by first | omega | (simp; done) | (simp; omega)) ⟨rfl, rfl, rfl, rfl⟩) ?_
              refine aTk 15 rfl (by kernel_rfl) rfl (q_of fun D => wFA rfl rfl fo44x0 rfl ⟨rfl, rfl, rfl, rfl⟩) ?_
              refine aTk 16 rfl (by kernel_rfl) rfl (q_of fun D => w_load1 rfl rfl lk9 rfl (hc9 _ 0 _ rfl) ⟨rfl, rfl, rfl, rfl⟩) ?_
              refine aTk 17 rfl (by kernel_rfl) rfl (q_of fun D => w_retB rfl rfl en69 rfl (l31Used_c _ _ _ _ _ _ x _ _ hf) ⟨rfl, rfl, rfl, rfl⟩) ?_
              refine aTk 18 rfl (by kernel_rfl) rfl (q_of fun D => wFA rfl rfl fo31x1 rfl ⟨rfl, rfl, rfl, rfl⟩) ?_
              refine aTk 19 rfl (by kernel_rfl) rfl (q_of fun D => w_load1 rfl rfl lk23 rfl (atL 0 rfl rfl rfl) ⟨rfl, rfl, rfl, rfl⟩) ?_
              refine aTP 20 rfl (by kernel_rfl) rfl (fun D B L => w_move rfl rfl rfl ⟨rfl, rfl, rfl, rfl⟩) ?_
              refine aTk 21 rfl (by kernel_rfl) rfl (q_of fun D => w_ixB rfl rfl Tryz.underlying23 sz44 rfl rfl (by first | omega | (simp; done) | (simp; omega)) (by first | omega | (simp; done) | (simp; omega)) ⟨rfl, rfl, rfl, rfl⟩) ?_
              refine aTk 22 rfl (by kernel_rfl) rfl (q_of fun D => wFA rfl rfl fo44x2 rfl ⟨rfl, rfl, rfl, rfl⟩) ?_
              refine aTk 23 rfl (by kernel_rfl) rfl (q_of fun D => w_load1 rfl rfl lk3 rfl (hc9 _ 2 _ rfl) ⟨rfl, rfl, rfl, rfl⟩) ?_
              refine aTk 24 rfl (by kernel_rfl) rfl (q_of fun D => w_gtr rfl rfl rfl rfl ⟨rfl, rfl, rfl, rfl⟩) ?_
              refine aTk 25 rfl (by kernel_rfl) rfl (q_of fun D => w_pickF rfl rfl rfl rfl ⟨rfl, rfl, rfl, rfl⟩) ?_
              refine any_done (by kernel_rfl) (by kernel_rfl) ?_
              refine thn_n ?_
              refine wKp [(0, _), (1, _), (3, _), (26, _), (31, _), (59, _)] ⟨rfl, rfl, rfl, rfl, rfl, rfl, trivial⟩ ?_
              refine wCd rfl (fun g7 => ?_) (fun g7 => ?_)
              · try simp only [sQ1, sQ2, sQ3, sQ4, sQ5, sQ6, sQ7, sQ8, ne_eq] at g7
                refine wSR ?_
                refine xAs ?_
                refine wKp [(0, _), (1, _), (2, _), (3, _), (26, _), (31, _), (59, _)] ⟨rfl, rfl, rfl, rfl, rfl, rfl, rfl, trivial⟩ ?_
                refine w_ret (inB_r (thn_r (rndE_r (inB_r (thn_r ?_)))))
                exact end0 .ret (.inl rfl) [_] ⟨rfl, trivial⟩ ⟨bool_eq (hostOk_user hw (userFits_no2 g7)).symm, rfl, rfl⟩
              · try simp only [sQ1, sQ2, sQ3, sQ4, sQ5, sQ6, sQ7, sQ8, ne_eq] at g7
                refine w_skip ?_
                refine inB_n (thn_n ?_)
                refine w_region ?_
                refine xMv ?_
                refine oX (w_add rfl rfl rfl rfl (by first | exact wrI64 (by first | omega | (simp; done) | (simp; omega)) (by first | omega | (simp; done) | (simp; omega)) | rfl) ?_)
                refine xAs ?_
                exact rndE_n (k + 1) [0] (by first | omega | (simp only []; omega)) ⟨rfl, by omega, all_next hw ha (userFits_yes g6 g7)⟩ ⟨rfl, rfl, rfl, rfl, trivial⟩ rfl
          · try simp only [sQ1, sQ2, sQ3, sQ4, sQ5, sQ6, sQ7, sQ8, ne_eq] at g5
            refine w_exit (thn_x (rndE_x (inB_hit (thn_n ?_))))
            refine w_seq ?_
            refine wSR ?_
            refine xAs ?_
            refine wKp [(0, _), (1, _), (3, _), (4, _), (26, _), (31, _)] ⟨rfl, rfl, rfl, rfl, rfl, rfl, trivial⟩ ?_
            refine w_block ?_
            refine w_loopE (α := Nat) [0, 1, 3, 26, 31] (fun j => [(4, .int .i64 j)]) [] (fun j => []) (fun j Bx => Bx = B6 ∧ j ≤ x.queue.items.length ∧ ∀ z, z ∈ x.queue.items.take j → itemKnown x.users z = true) (fun j => x.queue.items.length - j) 0 ⟨rfl, trivial⟩ rfl (⟨rfl, Nat.zero_le _, by simp⟩) (fun j B12 hle12 hI => ?_)
            obtain ⟨rfl, hj, hb⟩ := hI
            refine wTd [(0, _), (1, _), (3, _), (4, _), (26, _), (31, _)] [_] ⟨rfl, rfl, rfl, rfl, rfl, rfl, trivial⟩ rfl ?_
            refine w_seq ?_
            refine wSR ?_
            refine xMv ?_
            refine oX (wFA rfl rfl fo31x3 rfl ?_)
            refine oX (wFA rfl rfl fo29x1 rfl ?_)
            refine oX (w_load1 rfl rfl lk27 rfl (atL 0 rfl rfl rfl) ?_)
            refine oX (w_lenV rfl rfl Tryz.underlying27 rfl ?_)
            refine oX (w_lss rfl rfl rfl rfl ?_)
            refine wKp [(0, _), (1, _), (3, _), (4, _), (26, _), (31, _), (65, _)] ⟨rfl, rfl, rfl, rfl, rfl, rfl, rfl, trivial⟩ ?_
            refine wCd rfl (fun g8 => ?_) (fun g8 => ?_)
            · try simp only [sQ1, sQ2, sQ3, sQ4, sQ5, sQ6, sQ7, sQ8, ne_eq] at g8
              refine w_skip ?_
              refine thn_n ?_
              refine w_seq ?_
              refine w_block ?_
              refine wSR ?_
              refine oX (wFA rfl rfl fo31x3 rfl ?_)
              refine oX (wFA rfl rfl fo29x1 rfl ?_)
              refine oX (w_load1 rfl rfl lk27 rfl (atL 0 rfl rfl rfl) ?_)
              refine xMv ?_
              obtain ⟨y, hy⟩ := getLt (xs := x.queue.items) (i := j) (by first | omega | (simp; done) | (simp; omega))
              obtain ⟨bb14, oo14, rfl⟩ := hi.base hy
              obtain ⟨_, ⟨qi15, ci15, rfl, hi15, hb15, hb15b⟩, hc15⟩ := hi.elem hy
              have hi15n := hi15.len
              refine oX (w_ixB rfl rfl Tryz.underlying27 sz100 rfl rfl (by first | omega | (simp; done) | (simp; omega)) (by first | omega | (simp; done) | (simp; omega)) ?_)
              refine oX (w_loadN [_, _, _, _] rfl rfl lk100 rfl (rowK hc15 0 rfl rfl) ?_)
              refine oX (w_alloc (l := [_, _, _, _]) rfl rfl zo100 rfl (fun b16 => ?_))
              refine oX (w_store [_, _, _, _] 1 [_, _, _, _] rfl rfl sz100 rfl rfl rfl rfl rfl rfl rfl rfl ?_)
              refine wTd [(0, _), (1, _), (3, _), (4, _), (5, _), (26, _), (31, _), (65, _)] [_, _] ⟨rfl, rfl, rfl, rfl, rfl, rfl, rfl, rfl, trivial⟩ rfl ?_
              refine wSR ?_
              refine oX (wFA rfl rfl fo31x1 rfl ?_)
              refine oX (w_load1 rfl rfl lk23 rfl (atL 0 rfl rfl rfl) ?_)
              refine oX (wFA rfl rfl fo100x1 rfl ?_)
              refine oX (w_load1 rfl rfl lk9 rfl (atL 1 rfl rfl rfl) ?_)
              refine oX (w_retB rfl rfl en70 rfl (l14Find_c _ _ _ _ _ hu) ?_)
              refine oX (w_lss rfl rfl rfl rfl ?_)
              refine xMv ?_
              refine r_split (d := 80) rfl (fun g9 => ?_) (fun g9 => ?_)
              · try simp only [sQ1, sQ2, sQ3, sQ4, sQ5, sQ6, sQ7, sQ8, ne_eq] at g9
                refine oX (w_pass rfl rfl ?_)
                refine oX (w_pass rfl rfl ?_)
                refine oX (w_pass rfl rfl ?_)
                refine oX (w_pass rfl rfl ?_)
                refine oX (w_pass rfl rfl ?_)
                refine oX (w_pickT rfl rfl rfl rfl ?_)
                refine wKp [(0, _), (1, _), (3, _), (4, _), (5, _), (26, _), (31, _), (65, _), (86, _)] ⟨rfl, rfl, rfl, rfl, rfl, rfl, rfl, rfl, rfl, trivial⟩ ?_
                refine wCd (t := true) rfl (fun _ => ?_) (fun h => Bool.noConfusion h)
                refine wSR ?_
                refine xAs ?_
                refine wKp [(0, _), (1, _), (2, _), (3, _), (4, _), (5, _), (26, _), (31, _), (65, _), (86, _)] ⟨rfl, rfl, rfl, rfl, rfl, rfl, rfl, rfl, rfl, rfl, trivial⟩ ?_
                refine w_ret (inB_r (thn_r (rndE_r (inB_r (thn_r ?_)))))
                exact end0 .ret (.inl rfl) [_] ⟨rfl, trivial⟩ ⟨bool_eq (hostOk_item hy (itemKnown_no1 g9)).symm, rfl, rfl⟩
              · try simp only [sQ1, sQ2, sQ3, sQ4, sQ5, sQ6, sQ7, sQ8, ne_eq] at g9
                refine oX (w_loadN [_, _, _, _, _] rfl rfl lk31 rfl (rowL 0 rfl rfl rfl) ?_)
                refine oX (wFA rfl rfl fo100x3 rfl ?_)
                refine oX (w_load1 rfl rfl lk98 rfl (atL 1 rfl rfl rfl) ?_)
                refine oX (w_retB rfl rfl en71 rfl (l31Known_c _ _ _ _ _ _ x _ _ y.left _ hu hi15) ?_)
                refine oX (w_not rfl rfl rfl ?_)
                refine oX (w_pickF rfl rfl rfl rfl ?_)
                refine wKp [(0, _), (1, _), (3, _), (4, _), (5, _), (26, _), (31, _), (65, _), (86, _)] ⟨rfl, rfl, rfl, rfl, rfl, rfl, rfl, rfl, rfl, trivial⟩ ?_
                refine wCd rfl (fun ga => ?_) (fun ga => ?_)
                · try simp only [sQ1, sQ2, sQ3, sQ4, sQ5, sQ6, sQ7, sQ8, ne_eq] at ga
                  refine wSR ?_
                  refine xAs ?_
                  refine wKp [(0, _), (1, _), (2, _), (3, _), (4, _), (5, _), (26, _), (31, _), (65, _), (86, _)] ⟨rfl, rfl, rfl, rfl, rfl, rfl, rfl, rfl, rfl, rfl, trivial⟩ ?_
                  refine w_ret (inB_r (thn_r (rndE_r (inB_r (thn_r ?_)))))
                  exact end0 .ret (.inl rfl) [_] ⟨rfl, trivial⟩ ⟨bool_eq (hostOk_item hy (itemKnown_no2 ga)).symm, rfl, rfl⟩
                · try simp only [sQ1, sQ2, sQ3, sQ4, sQ5, sQ6, sQ7, sQ8, ne_eq] at ga
                  refine w_skip ?_
                  refine inB_n (thn_n ?_)
                  refine w_region ?_
                  refine xMv ?_
                  refine oX (w_add rfl rfl rfl rfl (by first | exact wrI64 (by first | omega | (simp; done) | (simp; omega)) (by first | omega | (simp; done) | (simp; omega)) | rfl) ?_)
                  refine xAs ?_
                  exact rndE_n (j + 1) [0] (by first | omega | (simp only []; omega)) ⟨rfl, by omega, all_next hy hb (itemKnown_yes g9 ga)⟩ ⟨rfl, rfl, rfl, rfl, rfl, rfl, trivial⟩ rfl
            · try simp only [sQ1, sQ2, sQ3, sQ4, sQ5, sQ6, sQ7, sQ8, ne_eq] at g8
              refine w_exit (thn_x (rndE_x (inB_hit (thn_n ?_))))
              refine wSR ?_
              refine xAs ?_
              refine wKp [(0, _), (1, _), (2, _), (3, _), (4, _), (26, _), (31, _), (65, _)] ⟨rfl, rfl, rfl, rfl, rfl, rfl, rfl, rfl, trivial⟩ ?_
              refine w_ret ?_
              exact end0 .ret (.inl rfl) [_] ⟨rfl, trivial⟩ ⟨bool_eq (hostOk_end g1 g2 g3 g4 (allB_end (take_end (by omega) ha)) (allB_end (take_end (by omega) hb))).symm, rfl, rfl⟩

set_option maxRecDepth 4000 in
set_option maxHeartbeats 400000 in
theorem aclMap_c (q : Option Addr) (cp : Nat) (gs : List DGrant) (B : Kn) (hg : SlK B q cp 2 GrantR gs) : CallsB (pj J) 170 [.slice q gs.length cp] B [] (MapPost gs B) := by
  refine cBB 46 Tryz.func170 rfl rfl rfl (Nat.le_of_ble_eq_true rfl) ?_
  have hgn := hg.len
  refine wSR ?_
  refine xAs ?_
  refine xAs ?_
  refine wKp [(0, _), (2, _), (3, _)] ⟨rfl, rfl, rfl, trivial⟩ ?_
  refine w_seq ?_
  refine wSR ?_
  refine xMv ?_
  refine oX (w_lenV rfl rfl Tryz.underlying35 rfl ?_)
  refine oX (w_gtr rfl rfl rfl rfl ?_)
  refine wKp [(0, _), (2, _), (3, _), (10, _)] ⟨rfl, rfl, rfl, rfl, trivial⟩ ?_
  refine wCd rfl (fun g0 => ?_) (fun g0 => ?_)
  · try simp only [sQ1, sQ2, sQ3, sQ4, sQ5, sQ6, sQ7, sQ8, ne_eq] at g0
    refine wSR ?_
    refine xAs ?_
    refine xAs ?_
    refine wKp [(0, _), (2, _), (3, _), (10, _)] ⟨rfl, rfl, rfl, rfl, trivial⟩ ?_
    refine w_ret (thn_r ?_)
    exact endMap0 .ret (.inl rfl) [_, _] ⟨rfl, rfl, trivial⟩ (by simp [aclOk]; omega)
  · try simp only [sQ1, sQ2, sQ3, sQ4, sQ5, sQ6, sQ7, sQ8, ne_eq] at g0
    refine w_skip ?_
    refine thn_n ?_
    refine wSR ?_
    refine oX (w_makeMap rfl rfl (fun b1 l1 hl1 => ?_))
    refine xAs ?_
    refine wTd [(0, _), (2, _), (3, _), (4, _), (10, _)] [_] ⟨rfl, rfl, rfl, rfl, rfl, trivial⟩ rfl ?_
    refine wSR ?_
    refine xAs ?_
    refine wKp [(0, _), (2, _), (3, _), (4, _), (5, _), (10, _)] ⟨rfl, rfl, rfl, rfl, rfl, rfl, trivial⟩ ?_
    refine w_seq ?_
    refine wSR ?_
    refine xMv ?_
    refine oX (w_lenV rfl rfl Tryz.underlying35 rfl ?_)
    refine xMv ?_
    refine wKp [(0, _), (2, _), (3, _), (4, _), (5, _), (10, _), (12, _), (13, _), (14, _)] ⟨rfl, rfl, rfl, rfl, rfl, rfl, rfl, rfl, rfl, trivial⟩ ?_
    refine w_block ?_
    refine w_loopE (α := Nat × Str × Cells) [0, 4, 10, 12, 13] (fun g => [(5, str g.2.1), (14, .int .i64 g.1)]) [0] (fun g => [g.2.2]) (fun g Bx => Bx = B ∧ g.1 ≤ gs.length ∧ grantScan (gs.take g.1) = (true, g.2.1) ∧ g.2.1.length ≤ 2000000 ∧ MapL g.2.2 b1 (kvOf (gs.take g.1))) (fun g => gs.length - g.1) (0, [], _) ⟨rfl, rfl, trivial⟩ rfl (⟨rfl, Nat.zero_le _, scn_nil, by simp, hl1⟩) (fun g B2 hle2 hI => ?_)
    obtain ⟨rfl, hk, hs, hnm, hml⟩ := hI
    refine wTd [(0, _), (4, _), (5, _), (10, _), (12, _), (13, _), (14, _)] [_] ⟨rfl, rfl, rfl, rfl, rfl, rfl, rfl, trivial⟩ rfl ?_
    refine wSR ?_
    refine oX (w_lss rfl rfl rfl rfl ?_)
    refine wKp [(0, _), (4, _), (5, _), (10, _), (12, _), (13, _), (14, _), (15, _)] ⟨rfl, rfl, rfl, rfl, rfl, rfl, rfl, rfl, trivial⟩ ?_
    refine w_seq ?_
    refine wCd rfl (fun g1 => ?_) (fun g1 => ?_)
    · try simp only [sQ1, sQ2, sQ3, sQ4, sQ5, sQ6, sQ7, sQ8, ne_eq] at g1
      refine w_skip ?_
      refine thn_n ?_
      refine w_seq ?_
      refine w_block ?_
      refine wSR ?_
      obtain ⟨m, hm⟩ := getLt (xs := gs) (i := g.1) (by first | omega | (simp; done) | (simp; omega))
      obtain ⟨bb4, oo4, rfl⟩ := hg.base hm
      obtain ⟨_, ⟨rfl, hb5⟩, hc5⟩ := hg.elem hm
      refine oX (w_ixB rfl rfl Tryz.underlying35 sz174 rfl rfl (by first | omega | (simp; done) | (simp; omega)) (by first | omega | (simp; done) | (simp; omega)) ?_)
      refine oX (w_loadN [_, _] rfl rfl lk174 rfl (rowK hc5 0 rfl rfl) ?_)
      refine oX (w_alloc (l := [_, _]) rfl rfl zo174 rfl (fun b6 => ?_))
      refine oX (w_store [_, _] 1 [_, _] rfl rfl sz174 rfl rfl rfl rfl rfl rfl rfl rfl ?_)
      refine wTd [(0, _), (4, _), (5, _), (7, _), (10, _), (12, _), (13, _), (14, _), (15, _)] [_, _] ⟨rfl, rfl, rfl, rfl, rfl, rfl, rfl, rfl, rfl, trivial⟩ rfl ?_
      refine w_seq ?_
      refine wSR ?_
      refine oX (wFA rfl rfl fo174x0 rfl ?_)
      refine oX (w_load1 rfl rfl lk9 rfl (atL 1 rfl rfl rfl) ?_)
      refine oX (w_retB rfl rfl en115 rfl (implName_c _ (by first | assumption | omega | (simp; done) | (simp; omega)) _) ?_)
      refine oX (w_not rfl rfl rfl ?_)
      refine xMv ?_
      refine r_split (d := 22) rfl (fun g2 => ?_) (fun g2 => ?_)
      · try simp only [sQ1, sQ2, sQ3, sQ4, sQ5, sQ6, sQ7, sQ8, ne_eq] at g2
        refine oX (w_pass rfl rfl ?_)
        refine oX (w_pass rfl rfl ?_)
        refine oX (w_pass rfl rfl ?_)
        refine oX (w_pass rfl rfl ?_)
        refine oX (w_pickT rfl rfl rfl rfl ?_)
        refine wKp [(0, _), (4, _), (5, _), (7, _), (10, _), (12, _), (13, _), (14, _), (15, _), (27, _)] ⟨rfl, rfl, rfl, rfl, rfl, rfl, rfl, rfl, rfl, rfl, trivial⟩ ?_
        refine wCd (t := true) rfl (fun _ => ?_) (fun h => Bool.noConfusion h)
        refine wSR ?_
        refine xAs ?_
        refine xAs ?_
        refine wKp [(0, _), (2, _), (3, _), (4, _), (5, _), (7, _), (10, _), (12, _), (13, _), (14, _), (15, _), (27, _)] ⟨rfl, rfl, rfl, rfl, rfl, rfl, rfl, rfl, rfl, rfl, rfl, rfl, trivial⟩ ?_
        refine w_ret (thn_r (inB_r (thn_r (rndE_r (inB_r (thn_r ?_))))))
        exact endMap0 .ret (.inl rfl) [_, _] ⟨rfl, rfl, trivial⟩ (aclOk_hit hm hs (by rw [grantP, less_total g.2.1 m.user]; simp [g2]; try omega))
      · try simp only [sQ1, sQ2, sQ3, sQ4, sQ5, sQ6, sQ7, sQ8, ne_eq] at g2
        refine oX (wFA rfl rfl fo174x0 rfl ?_)
        refine oX (w_load1 rfl rfl lk9 rfl (atL 1 rfl rfl rfl) ?_)
        refine xMv ?_
        refine oX (w_leqS rfl rfl rfl rfl ?_)
        refine oX (w_pickF rfl rfl rfl rfl ?_)
        refine wKp [(0, _), (4, _), (5, _), (7, _), (10, _), (12, _), (13, _), (14, _), (15, _), (27, _)] ⟨rfl, rfl, rfl, rfl, rfl, rfl, rfl, rfl, rfl, rfl, trivial⟩ ?_
        refine wCd rfl (fun g3 => ?_) (fun g3 => ?_)
        · try simp only [sQ1, sQ2, sQ3, sQ4, sQ5, sQ6, sQ7, sQ8, ne_eq] at g3
          refine wSR ?_
          refine xAs ?_
          refine xAs ?_
          refine wKp [(0, _), (2, _), (3, _), (4, _), (5, _), (7, _), (10, _), (12, _), (13, _), (14, _), (15, _), (27, _)] ⟨rfl, rfl, rfl, rfl, rfl, rfl, rfl, rfl, rfl, rfl, rfl, rfl, trivial⟩ ?_
          refine w_ret (thn_r (inB_r (thn_r (rndE_r (inB_r (thn_r ?_))))))
          exact endMap0 .ret (.inl rfl) [_, _] ⟨rfl, rfl, trivial⟩ (aclOk_hit hm hs (by rw [grantP, less_total g.2.1 m.user]; simp [g3]; try omega))
        · try simp only [sQ1, sQ2, sQ3, sQ4, sQ5, sQ6, sQ7, sQ8, ne_eq] at g3
          refine w_skip ?_
          refine thn_n ?_
          refine w_seq ?_
          refine wSR ?_
          refine oX (wFA rfl rfl fo174x1 rfl ?_)
          refine oX (w_load1 rfl rfl lk3 rfl (atL 1 rfl rfl rfl) ?_)
          refine oX (w_lss rfl rfl rfl rfl ?_)
          refine xMv ?_
          refine r_split (d := 31) rfl (fun g4 => ?_) (fun g4 => ?_)
          · try simp only [sQ1, sQ2, sQ3, sQ4, sQ5, sQ6, sQ7, sQ8, ne_eq] at g4
            refine oX (w_pass rfl rfl ?_)
            refine oX (w_pass rfl rfl ?_)
            refine oX (w_pass rfl rfl ?_)
            refine oX (w_pass rfl rfl ?_)
            refine oX (w_pickT rfl rfl rfl rfl ?_)
            refine wKp [(0, _), (4, _), (5, _), (7, _), (10, _), (12, _), (13, _), (14, _), (15, _), (27, _), (36, _)] ⟨rfl, rfl, rfl, rfl, rfl, rfl, rfl, rfl, rfl, rfl, rfl, trivial⟩ ?_
            refine wCd (t := true) rfl (fun _ => ?_) (fun h => Bool.noConfusion h)
            refine wSR ?_
            refine xAs ?_
            refine xAs ?_
            refine wKp [(0, _), (2, _), (3, _), (4, _), (5, _), (7, _), (10, _), (12, _), (13, _), (14, _), (15, _), (27, _), (36, _)] ⟨rfl, rfl, rfl, rfl, rfl, rfl, rfl, rfl, rfl, rfl, rfl, rfl, rfl, trivial⟩ ?_
            refine w_ret (thn_r (inB_r (thn_r (rndE_r (inB_r (thn_r ?_))))))
            exact endMap0 .ret (.inl rfl) [_, _] ⟨rfl, rfl, trivial⟩ (aclOk_hit hm hs (by rw [grantP, less_total g.2.1 m.user]; simp [g4]; try omega))
          · try simp only [sQ1, sQ2, sQ3, sQ4, sQ5, sQ6, sQ7, sQ8, ne_eq] at g4
            refine oX (wFA rfl rfl fo174x1 rfl ?_)
            refine oX (w_load1 rfl rfl lk3 rfl (atL 1 rfl rfl rfl) ?_)
            refine oX (w_retB rfl rfl en208 rfl (rights_c _ _) ?_)
            refine oX (w_not rfl rfl rfl ?_)
            refine oX (w_pickF rfl rfl rfl rfl ?_)
            refine wKp [(0, _), (4, _), (5, _), (7, _), (10, _), (12, _), (13, _), (14, _), (15, _), (27, _), (36, _)] ⟨rfl, rfl, rfl, rfl, rfl, rfl, rfl, rfl, rfl, rfl, rfl, trivial⟩ ?_
            refine wCd rfl (fun g5 => ?_) (fun g5 => ?_)
            · try simp only [sQ1, sQ2, sQ3, sQ4, sQ5, sQ6, sQ7, sQ8, ne_eq] at g5
              refine wSR ?_
              refine xAs ?_
              refine xAs ?_
              refine wKp [(0, _), (2, _), (3, _), (4, _), (5, _), (7, _), (10, _), (12, _), (13, _), (14, _), (15, _), (27, _), (36, _)] ⟨rfl, rfl, rfl, rfl, rfl, rfl, rfl, rfl, rfl, rfl, rfl, rfl, rfl, trivial⟩ ?_
              refine w_ret (thn_r (inB_r (thn_r (rndE_r (inB_r (thn_r ?_))))))
              exact endMap0 .ret (.inl rfl) [_, _] ⟨rfl, rfl, trivial⟩ (aclOk_hit hm hs (Bool.eq_false_iff.2 fun hc => by simp only [grantP, Bool.and_eq_true, decide_eq_true_eq] at hc; simp only [Bool.and_eq_false_iff, decide_eq_false_iff_not] at g5; omega))
            · try simp only [sQ1, sQ2, sQ3, sQ4, sQ5, sQ6, sQ7, sQ8, ne_eq] at g5
              refine w_skip ?_
              refine thn_n ?_
              refine wSR ?_
              refine xMv ?_
              refine oX (wFA rfl rfl fo174x0 rfl ?_)
              refine oX (w_load1 rfl rfl lk9 rfl (atL 1 rfl rfl rfl) ?_)
              refine oX (wFA rfl rfl fo174x1 rfl ?_)
              refine oX (w_load1 rfl rfl lk3 rfl (atL 1 rfl rfl rfl) ?_)
              refine oX (w_mapUpdate (k := m.user) (v := m.rights) 0 rfl hml rfl rfl Tryz.underlying204 Tryz.underlying9 rfl rfl rfl (fun l9 hl9 => ?_))
              refine wTd [(0, _), (4, _), (5, _), (7, _), (10, _), (12, _), (13, _), (14, _), (15, _), (27, _), (36, _)] [_, _] ⟨rfl, rfl, rfl, rfl, rfl, rfl, rfl, rfl, rfl, rfl, rfl, trivial⟩ rfl ?_
              refine w_region ?_
              refine oX (wFA rfl rfl fo174x0 rfl ?_)
              refine oX (w_load1 rfl rfl lk9 rfl (atL 1 rfl rfl rfl) ?_)
              refine xAs ?_
              refine inB_n (thn_n ?_)
              refine w_region ?_
              refine oX (w_add rfl rfl rfl rfl (by first | exact wrI64 (by first | omega | (simp; done) | (simp; omega)) (by first | omega | (simp; done) | (simp; omega)) | rfl) ?_)
              refine xMv ?_
              exact rndE_n (g.1 + 1, m.user, l9) [0] (by first | omega | (simp only []; omega)) ⟨rfl, by simp only []; omega, scn_step hm hs (by rw [grantP, less_total g.2.1 m.user, g2, g3]; simp at g5 ⊢; omega), by assumption, by rw [← kv_next hm hs (by rw [less_total g.2.1 m.user, g3]; rfl)]; exact hl9⟩ ⟨rfl, rfl, rfl, rfl, rfl, rfl, rfl, trivial⟩ rfl
    · try simp only [sQ1, sQ2, sQ3, sQ4, sQ5, sQ6, sQ7, sQ8, ne_eq] at g1
      refine w_exit (thn_x (rndE_x (inB_hit (thn_n ?_))))
      refine wSR ?_
      refine xMv ?_
      refine xAs ?_
      refine xAs ?_
      refine wKp [(0, _), (2, _), (3, _), (4, _), (5, _), (10, _), (12, _), (13, _), (14, _), (15, _)] ⟨rfl, rfl, rfl, rfl, rfl, rfl, rfl, rfl, rfl, rfl, trivial⟩ ?_
      refine w_ret ?_
      exact endMap1 .ret (.inl rfl) [_, _] rfl ⟨rfl, rfl, trivial⟩ (by rw [aclOk_end (scn_end hs (by omega))]; simp; omega) (by have e := hml; rw [List.take_of_length_le (by omega)] at e; exact e)

set_option maxRecDepth 4000 in
set_option maxHeartbeats 400000 in
theorem implAcl_c (q : Option Addr) (cp : Nat) (gs : List DGrant) (B : Kn) (hg : SlK B q cp 2 GrantR gs) : RetB (pj J) 116 [.slice q gs.length cp] B (.bool (aclOk gs)) := by
  refine cBB 11 Tryz.func116 rfl rfl rfl (Nat.le_of_ble_eq_true rfl) ?_
  refine wSR ?_
  refine xAs ?_
  refine wKp [(0, _), (2, _)] ⟨rfl, rfl, trivial⟩ ?_
  refine wSR ?_
  refine xMv ?_
  refine oX (w_call rfl rfl en170 rfl (aclMap_c _ _ _ _ hg) ?_)
  rintro _ _ _ hle1 ⟨m1, l1, rfl, rfl, rfl, hl1⟩
  refine xMv ?_
  refine oX (w_extract rfl rfl rfl rfl ?_)
  refine oX (w_extract rfl rfl rfl rfl ?_)
  refine xAs ?_
  refine xAs ?_
  refine wTd [(0, _), (2, _), (4, _)] [_] ⟨rfl, rfl, rfl, trivial⟩ rfl ?_
  refine wSR ?_
  refine xMv ?_
  refine xAs ?_
  refine wKp [(0, _), (2, _), (4, _)] ⟨rfl, rfl, rfl, trivial⟩ ?_
  refine w_ret ?_
  exact end0 .ret (.inl rfl) [_] ⟨rfl, trivial⟩ ⟨rfl, rfl, rfl⟩

set_option maxRecDepth 4000 in
set_option maxHeartbeats 400000 in
theorem cmpA_c (a b : Str) (B : Kn) : RetB (pj J) 156 [str a, str b] B (.int .i64 (Lib.compareBytes a b)) := by
  refine cBB 8 Tryz.func156 rfl rfl rfl (Nat.le_of_ble_eq_true rfl) ?_
  refine wSR ?_
  refine xAs ?_
  refine wKp [(0, _), (1, _), (4, _)] ⟨rfl, rfl, rfl, trivial⟩ ?_
  refine wSR ?_
  refine xMv ?_
  refine xMv ?_
  refine oX (w_cmp (fn := Tryz.f203) rfl rfl Tryz.func203 rfl rfl exn203 exf203 rfl rfl ?_)
  refine xAs ?_
  refine wKp [(0, _), (1, _), (4, _)] ⟨rfl, rfl, rfl, trivial⟩ ?_
  refine w_ret ?_
  exact end0 .ret (.inl rfl) [_] ⟨rfl, trivial⟩ ⟨rfl, rfl, rfl⟩

set_option maxRecDepth 4000 in
set_option maxHeartbeats 400000 in
theorem cmpS_c (a b : Str) (B : Kn) : RetB (pj J) 111 [str a, str b] B (.int .i64 (Lib.compareBytes a b)) := by
  refine cBB 8 Tryz.func111 rfl rfl rfl (Nat.le_of_ble_eq_true rfl) ?_
  refine wSR ?_
  refine xAs ?_
  refine wKp [(0, _), (1, _), (4, _)] ⟨rfl, rfl, rfl, trivial⟩ ?_
  refine wSR ?_
  refine xMv ?_
  refine xMv ?_
  refine oX (w_retB rfl rfl en156 rfl (cmpA_c a b _) ?_)
  refine xAs ?_
  refine wKp [(0, _), (1, _), (4, _)] ⟨rfl, rfl, rfl, trivial⟩ ?_
  refine w_ret ?_
  exact end0 .ret (.inl rfl) [_] ⟨rfl, trivial⟩ ⟨rfl, rfl, rfl⟩

set_option maxRecDepth 4000 in
set_option maxHeartbeats 400000 in
theorem folderCmp_c (f : DFolder) (qa qb : Option Addr) (ca cb : Nat) (ow nm : Str) (B : Kn) : RetB (pj J) 57 [.agg #[str f.owner, str f.name, .slice qa f.grants.length ca, .int .i64 f.next, .slice qb f.mail.length cb], str ow, str nm] B (.int .i64 (cmpF f ow nm)) := by
  refine cBB 19 Tryz.func57 rfl rfl rfl (Nat.le_of_ble_eq_true rfl) ?_
  refine wSR ?_
  refine oX (w_box (l := [_, _, _, _, _]) rfl rfl rfl rfl (fun b1 => ?_))
  refine xAs ?_
  refine wTd [(0, _), (1, _), (2, _), (3, _), (6, _)] [_] ⟨rfl, rfl, rfl, rfl, rfl, trivial⟩ rfl ?_
  refine w_seq ?_
  refine wSR ?_
  refine oX (wFA rfl rfl fo40x0 rfl ?_)
  refine oX (w_load1 rfl rfl lk9 rfl (atL 0 rfl rfl rfl) ?_)
  refine xMv ?_
  refine oX (w_retB rfl rfl en111 rfl (cmpS_c f.owner ow _) ?_)
  refine xAs ?_
  refine wKp [(0, _), (1, _), (2, _), (3, _), (6, _), (7, _)] ⟨rfl, rfl, rfl, rfl, rfl, rfl, trivial⟩ ?_
  refine wSR ?_
  refine xMv ?_
  refine oX (w_neqI rfl rfl rfl rfl ?_)
  refine wKp [(0, _), (1, _), (2, _), (3, _), (6, _), (7, _), (13, _)] ⟨rfl, rfl, rfl, rfl, rfl, rfl, rfl, trivial⟩ ?_
  refine wCd rfl (fun g1 => ?_) (fun g1 => ?_)
  · try simp only [sQ1, sQ2, sQ3, sQ4, sQ5, sQ6, sQ7, sQ8, ne_eq] at g1
    refine wSR ?_
    refine xMv ?_
    refine xAs ?_
    refine wKp [(0, _), (1, _), (2, _), (3, _), (6, _), (7, _), (13, _)] ⟨rfl, rfl, rfl, rfl, rfl, rfl, rfl, trivial⟩ ?_
    refine w_ret (thn_r ?_)
    exact end0 .ret (.inl rfl) [_] ⟨rfl, trivial⟩ ⟨int_eq (by rw [cmpF, if_pos g1]), rfl, rfl⟩
  · try simp only [sQ1, sQ2, sQ3, sQ4, sQ5, sQ6, sQ7, sQ8, ne_eq] at g1
    refine w_skip ?_
    refine thn_n ?_
    refine wSR ?_
    refine oX (wFA rfl rfl fo40x1 rfl ?_)
    refine oX (w_load1 rfl rfl lk9 rfl (atL 0 rfl rfl rfl) ?_)
    refine xMv ?_
    refine oX (w_retB rfl rfl en111 rfl (cmpS_c f.name nm _) ?_)
    refine xAs ?_
    refine wKp [(0, _), (1, _), (2, _), (3, _), (6, _), (7, _), (13, _)] ⟨rfl, rfl, rfl, rfl, rfl, rfl, rfl, trivial⟩ ?_
    refine w_ret ?_
    exact end0 .ret (.inl rfl) [_] ⟨rfl, trivial⟩ ⟨int_eq (by rw [cmpF, if_neg (fun h => h g1)]), rfl, rfl⟩

set_option maxRecDepth 4000 in
set_option maxHeartbeats 400000 in
theorem used_c (b o : Nat) (q1 q2 q3 : Option Addr) (c1 c2 c3 : Nat) (x : DHost) (u : Str) (B : Kn) (hh : RowAt' B b o [str x.domain, .slice q1 x.users.length c1, .slice q2 x.folders.length c2, .int .i64 x.queue.next, .slice q3 x.queue.items.length c3]) (hf : SlK B q2 c2 5 FolderR x.folders) : RetB (pj J) 55 [ptr ⟨b, o, none⟩, str u] B (.int .i64 (usedI x.folders u)) := by
  refine cBB 28 Tryz.func55 rfl rfl rfl (Nat.le_of_ble_eq_true rfl) ?_
  have hfn := hf.len
  refine wSR ?_
  refine xAs ?_
  refine wKp [(0, _), (1, _), (4, _)] ⟨rfl, rfl, rfl, trivial⟩ ?_
  refine wSR ?_
  refine xAs ?_
  refine wKp [(0, _), (1, _), (4, _), (5, _)] ⟨rfl, rfl, rfl, rfl, trivial⟩ ?_
  refine w_seq ?_
  refine wSR ?_
  refine xMv ?_
  refine oX (w_nilCheck rfl rfl rfl ?_)
  refine oX (wFA rfl rfl fo31x2 rfl ?_)
  refine oX (w_load1 rfl rfl lk26 rfl (hh _ 2 _ rfl) ?_)
  refine oX (w_lenV rfl rfl Tryz.underlying26 rfl ?_)
  refine xMv ?_
  refine wKp [(0, _), (1, _), (4, _), (5, _), (11, _), (12, _), (13, _)] ⟨rfl, rfl, rfl, rfl, rfl, rfl, rfl, trivial⟩ ?_
  refine w_block ?_
  refine w_loopE (α := Nat × Int) [0, 1, 4, 11, 12] (fun g => [(5, .int .i64 g.2), (13, .int .i64 g.1)]) [] (fun g => []) (fun g Bx => Bx = B ∧ g.1 ≤ x.folders.length ∧ g.2 = usedI (x.folders.take g.1) u ∧ -1 * g.1 ≤ g.2 ∧ g.2 ≤ g.1 * 200) (fun g => x.folders.length - g.1) (0, 0) ⟨rfl, rfl, trivial⟩ rfl (⟨rfl, Nat.zero_le _, by simp [usedI], by simp, by simp⟩) (fun g B1 hle1 hI => ?_)
  obtain ⟨rfl, hk, hs, hl0, hl1⟩ := hI
  refine wTd [(0, _), (1, _), (4, _), (5, _), (11, _), (12, _), (13, _)] [] ⟨rfl, rfl, rfl, rfl, rfl, rfl, rfl, trivial⟩ rfl ?_
  refine wSR ?_
  refine oX (w_lss rfl rfl rfl rfl ?_)
  refine wKp [(0, _), (1, _), (4, _), (5, _), (11, _), (12, _), (13, _), (14, _)] ⟨rfl, rfl, rfl, rfl, rfl, rfl, rfl, rfl, trivial⟩ ?_
  refine w_seq ?_
  refine wCd rfl (fun g1 => ?_) (fun g1 => ?_)
  · try simp only [sQ1, sQ2, sQ3, sQ4, sQ5, sQ6, sQ7, sQ8, ne_eq] at g1
    refine w_skip ?_
    refine thn_n ?_
    refine w_seq ?_
    refine w_block ?_
    refine wSR ?_
    obtain ⟨m, hm⟩ := getLt (xs := x.folders) (i := g.1) (by first | omega | (simp; done) | (simp; omega))
    obtain ⟨bb3, oo3, rfl⟩ := hf.base hm
    obtain ⟨_, ⟨qg4, cg4, qm4, cm4, rfl, hg4, hm4, hb4, hb4b⟩, hc4⟩ := hf.elem hm
    have hg4n := hg4.len
    have hm4n := hm4.len
    have hm4s := sizeMs_le hm4
    refine oX (w_ixB rfl rfl Tryz.underlying26 sz40 rfl rfl (by first | omega | (simp; done) | (simp; omega)) (by first | omega | (simp; done) | (simp; omega)) ?_)
    refine oX (w_loadN [_, _, _, _, _] rfl rfl lk40 rfl (rowK hc4 0 rfl rfl) ?_)
    refine oX (w_alloc (l := [_, _, _, _, _]) rfl rfl zo40 rfl (fun b5 => ?_))
    refine oX (w_store [_, _, _, _, _] 0 [_, _, _, _, _] rfl rfl sz40 rfl rfl rfl rfl rfl rfl rfl rfl ?_)
    refine wTd [(0, _), (1, _), (4, _), (5, _), (7, _), (11, _), (12, _), (13, _), (14, _)] [_] ⟨rfl, rfl, rfl, rfl, rfl, rfl, rfl, rfl, rfl, trivial⟩ rfl ?_
    refine wSR ?_
    refine oX (wFA rfl rfl fo40x0 rfl ?_)
    refine oX (w_load1 rfl rfl lk9 rfl (atL 0 rfl rfl rfl) ?_)
    refine xMv ?_
    refine oX (w_eqlS rfl rfl rfl rfl ?_)
    refine wKp [(0, _), (1, _), (4, _), (5, _), (7, _), (11, _), (12, _), (13, _), (14, _), (20, _)] ⟨rfl, rfl, rfl, rfl, rfl, rfl, rfl, rfl, rfl, rfl, trivial⟩ ?_
    refine wCd rfl (fun g2 => ?_) (fun g2 => ?_)
    · try simp only [sQ1, sQ2, sQ3, sQ4, sQ5, sQ6, sQ7, sQ8, ne_eq] at g2
      have hbs := boxSize_bd (⟨m.next, m.mail⟩ : DBox)
      refine w_region ?_
      refine xMv ?_
      refine oX (wFA rfl rfl fo40x3 rfl ?_)
      refine oX (w_loadN [_, _] rfl rfl lk38 rfl (rowL 0 rfl rfl rfl) ?_)
      refine oX (w_retB rfl rfl en36 rfl (boxSize_c _ _ (⟨m.next, m.mail⟩ : DBox) _ hm4) ?_)
      refine oX (w_add rfl rfl rfl rfl (by first | exact wrI64 (by first | omega | (simp; done) | (simp; omega)) (by first | omega | (simp; done) | (simp; omega)) | rfl) ?_)
      refine xAs ?_
      refine inB_n (thn_n ?_)
      refine w_region ?_
      refine oX (w_add rfl rfl rfl rfl (by first | exact wrI64 (by first | omega | (simp; done) | (simp; omega)) (by first | omega | (simp; done) | (simp; omega)) | rfl) ?_)
      refine xMv ?_
      exact rndE_n (g.1 + 1, g.2 + boxSize ⟨m.next, m.mail⟩) [] (by first | omega | (simp only []; omega)) ⟨rfl, by simp only []; omega, by rw [usedI_next hm, ← hs, if_pos g2], by simp only []; omega, by simp only []; omega⟩ ⟨rfl, rfl, rfl, rfl, rfl, rfl, rfl, trivial⟩ rfl
    · try simp only [sQ1, sQ2, sQ3, sQ4, sQ5, sQ6, sQ7, sQ8, ne_eq] at g2
      refine w_skip ?_
      refine inB_n (thn_n ?_)
      refine w_region ?_
      refine oX (w_add rfl rfl rfl rfl (by first | exact wrI64 (by first | omega | (simp; done) | (simp; omega)) (by first | omega | (simp; done) | (simp; omega)) | rfl) ?_)
      refine xMv ?_
      exact rndE_n (g.1 + 1, g.2) [] (by first | omega | (simp only []; omega)) ⟨rfl, by simp only []; omega, by rw [usedI_next hm, ← hs, if_neg g2, Int.add_zero], by simp only []; omega, by simp only []; omega⟩ ⟨rfl, rfl, rfl, rfl, rfl, rfl, rfl, trivial⟩ rfl
  · try simp only [sQ1, sQ2, sQ3, sQ4, sQ5, sQ6, sQ7, sQ8, ne_eq] at g1
    refine w_exit (thn_x (rndE_x (inB_hit (thn_n ?_))))
    refine wSR ?_
    refine xMv ?_
    refine xAs ?_
    refine wKp [(0, _), (1, _), (4, _), (5, _), (11, _), (12, _), (13, _), (14, _)] ⟨rfl, rfl, rfl, rfl, rfl, rfl, rfl, rfl, trivial⟩ ?_
    refine w_ret ?_
    exact end0 .ret (.inl rfl) [_] ⟨rfl, trivial⟩ ⟨int_eq (by rw [← usedI_end hs (by omega)]), rfl, rfl⟩

set_option maxRecDepth 4000 in
set_option maxHeartbeats 400000 in
theorem exceeds_c (b o : Nat) (q1 q2 q3 : Option Addr) (c1 c2 c3 : Nat) (x : DHost) (u : Str) (more : Int) (hn : u.length ≤ 2000000) (hm0 : 0 ≤ more) (hm1 : more ≤ 2000000) (B : Kn) (hh : RowAt' B b o [str x.domain, .slice q1 x.users.length c1, .slice q2 x.folders.length c2, .int .i64 x.queue.next, .slice q3 x.queue.items.length c3]) (hu : SlK B q1 c1 3 UserR x.users) (hf : SlK B q2 c2 5 FolderR x.folders) : RetB (pj J) 119 [ptr ⟨b, o, none⟩, str u, .int .i64 more] B (.bool (exceedsB x u more)) := by
  refine cBB 30 Tryz.func119 rfl rfl rfl (Nat.le_of_ble_eq_true rfl) ?_
  have hfn := hf.len
  have hub := usedI_bd x.folders u
  refine wSR ?_
  refine xAs ?_
  refine wKp [(0, _), (1, _), (2, _), (6, _)] ⟨rfl, rfl, rfl, rfl, trivial⟩ ?_
  refine wSR ?_
  refine xMv ?_
  refine oX (w_nilCheck rfl rfl rfl ?_)
  refine oX (wFA rfl rfl fo31x1 rfl ?_)
  refine oX (w_load1 rfl rfl lk23 rfl (hh _ 1 _ rfl) ?_)
  refine xMv ?_
  refine oX (w_retB rfl rfl en37 rfl (usersFind_c _ _ _ u (by first | assumption | omega | (simp; done) | (simp; omega)) _ hu) ?_)
  refine xMv ?_
  refine oX (w_extract rfl rfl rfl rfl ?_)
  refine oX (w_extract rfl rfl rfl rfl ?_)
  refine oX (w_alloc (l := [_, _, _]) rfl rfl zo44 rfl (fun b2 => ?_))
  refine oX (w_store [_, _, _] 0 [_, _, _] rfl rfl sz44 rfl rfl rfl rfl rfl rfl rfl rfl ?_)
  refine xAs ?_
  refine wTd [(0, _), (1, _), (2, _), (6, _), (7, _), (8, _)] [_] ⟨rfl, rfl, rfl, rfl, rfl, rfl, trivial⟩ rfl ?_
  refine w_seq ?_
  refine w_draw (same _ _) mo (by kernel_rfl) ⟨rfl, rfl⟩ (fun _ _ => ?_)
  refine aTP 0 rfl (by kernel_rfl) rfl (fun D B L => w_move rfl rfl rfl ⟨rfl, rfl, rfl, rfl⟩) ?_
  refine aTk 1 rfl (by kernel_rfl) rfl (q_of fun D => w_not rfl rfl rfl ⟨rfl, rfl, rfl, rfl⟩) ?_
  refine aTP 2 rfl (by kernel_rfl) rfl (fun D B L => w_move rfl rfl rfl ⟨rfl, rfl, rfl, rfl⟩) ?_
  refine a_split (d := 20) rfl (fun g1 => ?_) (fun g1 => ?_)
  · try simp only [sQ1, sQ2, sQ3, sQ4, sQ5, sQ6, sQ7, sQ8, ne_eq] at g1
    refine aTP 3 rfl (by kernel_rfl) rfl (fun D B L => w_pass rfl rfl ⟨rfl, rfl, rfl, rfl⟩) ?_
    refine aTP 4 rfl (by kernel_rfl) rfl (fun D B L => w_pass rfl rfl ⟨rfl, rfl, rfl, rfl⟩) ?_
    refine aTk 5 rfl (by kernel_rfl) rfl (q_of fun D => w_pass rfl rfl ⟨rfl, rfl, rfl, rfl⟩) ?_
    refine aTP 6 rfl (by kernel_rfl) rfl (fun D B L => w_pass rfl rfl ⟨rfl, rfl, rfl, rfl⟩) ?_
    refine aTk 7 rfl (by kernel_rfl) rfl (q_of fun D => w_pass rfl rfl ⟨rfl, rfl, rfl, rfl⟩) ?_
    refine aTk 8 rfl (by kernel_rfl) rfl (q_of fun D => w_pass rfl rfl ⟨rfl, rfl, rfl, rfl⟩) ?_
    refine aTk 9 rfl (by kernel_rfl) rfl (q_of fun D => w_pass rfl rfl ⟨rfl, rfl, rfl, rfl⟩) ?_
    refine aTk 10 rfl (by kernel_rfl) rfl (q_of fun D => w_pass rfl rfl ⟨rfl, rfl, rfl, rfl⟩) ?_
    refine aTk 11 rfl (by kernel_rfl) rfl (q_of fun D => w_pickT rfl rfl rfl rfl ⟨rfl, rfl, rfl, rfl⟩) ?_
    refine aTP 12 rfl (by kernel_rfl) rfl (fun D B L => w_assign rfl rfl rfl ⟨rfl, rfl, rfl, rfl⟩) ?_
    refine any_done (by kernel_rfl) (by kernel_rfl) ?_
    refine thn_n ?_
    refine wKp [(0, _), (1, _), (2, _), (6, _), (7, _), (8, _)] ⟨rfl, rfl, rfl, rfl, rfl, rfl, trivial⟩ ?_
    refine w_ret ?_
    exact end0 .ret (.inl rfl) [_] ⟨rfl, trivial⟩ ⟨bool_eq (by rw [exceedsB, g1]; rfl), rfl, rfl⟩
  · try simp only [sQ1, sQ2, sQ3, sQ4, sQ5, sQ6, sQ7, sQ8, ne_eq] at g1
    refine aTP 3 rfl (by kernel_rfl) rfl (fun D B L => w_move rfl rfl rfl ⟨rfl, rfl, rfl, rfl⟩) ?_
    refine aTP 4 rfl (by kernel_rfl) rfl (fun D B L => w_move rfl rfl rfl ⟨rfl, rfl, rfl, rfl⟩) ?_
    refine aTk 5 rfl (by kernel_rfl) rfl (q_of fun D => w_retB rfl rfl en55 rfl (used_c _ _ _ _ _ _ _ _ x u _ hh hf) ⟨rfl, rfl, rfl, rfl⟩) ?_
    refine aTP 6 rfl (by kernel_rfl) rfl (fun D B L => w_move rfl rfl rfl ⟨rfl, rfl, rfl, rfl⟩) ?_
    refine aTk 7 rfl (by kernel_rfl) rfl (q_of fun D => w_add rfl rfl rfl rfl (by first | exact wrI64 (by first | omega | (simp; done) | (simp; omega)) (by first | omega | (simp; done) | (simp; omega)) | rfl) ⟨rfl, rfl, rfl, rfl⟩) ?_
    refine aTk 8 rfl (by kernel_rfl) rfl (q_of fun D => wFA rfl rfl fo44x2 rfl ⟨rfl, rfl, rfl, rfl⟩) ?_
    refine aTk 9 rfl (by kernel_rfl) rfl (q_of fun D => w_load1 rfl rfl lk3 rfl (atL 0 rfl rfl rfl) ⟨rfl, rfl, rfl, rfl⟩) ?_
    refine aTk 10 rfl (by kernel_rfl) rfl (q_of fun D => w_gtr rfl rfl rfl rfl ⟨rfl, rfl, rfl, rfl⟩) ?_
    refine aTk 11 rfl (by kernel_rfl) rfl (q_of fun D => w_pickF rfl rfl rfl rfl ⟨rfl, rfl, rfl, rfl⟩) ?_
    refine aTP 12 rfl (by kernel_rfl) rfl (fun D B L => w_assign rfl rfl rfl ⟨rfl, rfl, rfl, rfl⟩) ?_
    refine any_done (by kernel_rfl) (by kernel_rfl) ?_
    refine thn_n ?_
    refine wKp [(0, _), (1, _), (2, _), (6, _), (7, _), (8, _)] ⟨rfl, rfl, rfl, rfl, rfl, rfl, trivial⟩ ?_
    refine w_ret ?_
    exact end0 .ret (.inl rfl) [_] ⟨rfl, trivial⟩ ⟨bool_eq (by rw [exceedsB, g1]; rfl), rfl, rfl⟩

set_option maxRecDepth 4000 in
set_option maxHeartbeats 400000 in
theorem usersFit_c (b o : Nat) (q1 q2 q3 : Option Addr) (c1 c2 c3 : Nat) (x : DHost) (B : Kn) (hh : RowAt' B b o [str x.domain, .slice q1 x.users.length c1, .slice q2 x.folders.length c2, .int .i64 x.queue.next, .slice q3 x.queue.items.length c3]) (hu : SlK B q1 c1 3 UserR x.users) (hf : SlK B q2 c2 5 FolderR x.folders) : RetB (pj J) 59 [ptr ⟨b, o, none⟩] B (.bool (usersFitB x)) := by
  refine cBB 26 Tryz.func59 rfl rfl rfl (Nat.le_of_ble_eq_true rfl) ?_
  have hfn := hf.len
  have hun := hu.len
  refine wSR ?_
  refine xAs ?_
  refine wKp [(0, _), (2, _)] ⟨rfl, rfl, trivial⟩ ?_
  refine w_seq ?_
  refine wSR ?_
  refine xMv ?_
  refine oX (w_nilCheck rfl rfl rfl ?_)
  refine oX (wFA rfl rfl fo31x1 rfl ?_)
  refine oX (w_load1 rfl rfl lk23 rfl (hh _ 1 _ rfl) ?_)
  refine oX (w_lenV rfl rfl Tryz.underlying23 rfl ?_)
  refine xMv ?_
  refine wKp [(0, _), (2, _), (8, _), (9, _), (10, _)] ⟨rfl, rfl, rfl, rfl, rfl, trivial⟩ ?_
  refine w_block ?_
  refine w_loopE (α := Nat) [0, 8, 9] (fun k => [(10, .int .i64 k)]) [] (fun k => []) (fun k Bx => Bx = B ∧ k ≤ x.users.length ∧ ∀ z, z ∈ x.users.take k → userFitB x z = true) (fun k => x.users.length - k) 0 ⟨rfl, trivial⟩ rfl (⟨rfl, Nat.zero_le _, by simp⟩) (fun k B1 hle1 hI => ?_)
  obtain ⟨rfl, hk, ha⟩ := hI
  refine wTd [(0, _), (8, _), (9, _), (10, _)] [] ⟨rfl, rfl, rfl, rfl, trivial⟩ rfl ?_
  refine wSR ?_
  refine oX (w_lss rfl rfl rfl rfl ?_)
  refine wKp [(0, _), (8, _), (9, _), (10, _), (11, _)] ⟨rfl, rfl, rfl, rfl, rfl, trivial⟩ ?_
  refine w_seq ?_
  refine wCd rfl (fun g1 => ?_) (fun g1 => ?_)
  · try simp only [sQ1, sQ2, sQ3, sQ4, sQ5, sQ6, sQ7, sQ8, ne_eq] at g1
    refine w_skip ?_
    refine thn_n ?_
    refine w_seq ?_
    refine w_block ?_
    refine wSR ?_
    obtain ⟨w, hw⟩ := getLt (xs := x.users) (i := k) (by first | omega | (simp; done) | (simp; omega))
    obtain ⟨bb3, oo3, rfl⟩ := hu.base hw
    obtain ⟨_, ⟨rfl, hb4, hb4b⟩, hc4⟩ := hu.elem hw
    refine oX (w_ixB rfl rfl Tryz.underlying23 sz44 rfl rfl (by first | omega | (simp; done) | (simp; omega)) (by first | omega | (simp; done) | (simp; omega)) ?_)
    refine oX (w_loadN [_, _, _] rfl rfl lk44 rfl (rowK hc4 0 rfl rfl) ?_)
    refine oX (w_alloc (l := [_, _, _]) rfl rfl zo44 rfl (fun b5 => ?_))
    refine oX (w_store [_, _, _] 0 [_, _, _] rfl rfl sz44 rfl rfl rfl rfl rfl rfl rfl rfl ?_)
    refine wTd [(0, _), (4, _), (8, _), (9, _), (10, _), (11, _)] [_] ⟨rfl, rfl, rfl, rfl, rfl, rfl, trivial⟩ rfl ?_
    refine wSR ?_
    refine xMv ?_
    refine oX (wFA rfl rfl fo44x0 rfl ?_)
    refine oX (w_load1 rfl rfl lk9 rfl (atL 0 rfl rfl rfl) ?_)
    refine oX (w_retB rfl rfl en52 rfl (find_c _ _ _ _ _ _ _ _ x w.name [105, 110, 98, 111, 120] (by first | assumption | omega | (simp; done) | (simp; omega)) (by first | assumption | omega | (simp; done) | (simp; omega)) _ hh hf) ?_)
    refine oX (w_lss rfl rfl rfl rfl ?_)
    refine xMv ?_
    refine r_split (d := 19) rfl (fun g2 => ?_) (fun g2 => ?_)
    · try simp only [sQ1, sQ2, sQ3, sQ4, sQ5, sQ6, sQ7, sQ8, ne_eq] at g2
      refine oX (w_pass rfl rfl ?_)
      refine oX (w_pass rfl rfl ?_)
      refine oX (w_pass rfl rfl ?_)
      refine oX (w_pass rfl rfl ?_)
      refine oX (w_pickT rfl rfl rfl rfl ?_)
      refine wKp [(0, _), (4, _), (8, _), (9, _), (10, _), (11, _), (24, _)] ⟨rfl, rfl, rfl, rfl, rfl, rfl, rfl, trivial⟩ ?_
      refine wCd (t := true) rfl (fun _ => ?_) (fun h => Bool.noConfusion h)
      refine wSR ?_
      refine xAs ?_
      refine wKp [(0, _), (2, _), (4, _), (8, _), (9, _), (10, _), (11, _), (24, _)] ⟨rfl, rfl, rfl, rfl, rfl, rfl, rfl, rfl, trivial⟩ ?_
      refine w_ret (inB_r (thn_r (rndE_r (inB_r (thn_r ?_)))))
      exact end0 .ret (.inl rfl) [_] ⟨rfl, trivial⟩ ⟨bool_eq (allB_bad hw (userFitB_no1 g2)).symm, rfl, rfl⟩
    · try simp only [sQ1, sQ2, sQ3, sQ4, sQ5, sQ6, sQ7, sQ8, ne_eq] at g2
      refine xMv ?_
      refine oX (wFA rfl rfl fo44x0 rfl ?_)
      refine oX (w_load1 rfl rfl lk9 rfl (atL 0 rfl rfl rfl) ?_)
      refine oX (w_retB rfl rfl en119 rfl (exceeds_c _ _ _ _ _ _ _ _ x w.name 0 (by first | assumption | omega | (simp; done) | (simp; omega)) (by first | assumption | omega | (simp; done) | (simp; omega)) (by first | assumption | omega | (simp; done) | (simp; omega)) _ hh hu hf) ?_)
      refine oX (w_pickF rfl rfl rfl rfl ?_)
      refine wKp [(0, _), (4, _), (8, _), (9, _), (10, _), (11, _), (24, _)] ⟨rfl, rfl, rfl, rfl, rfl, rfl, rfl, trivial⟩ ?_
      refine wCd rfl (fun g3 => ?_) (fun g3 => ?_)
      · try simp only [sQ1, sQ2, sQ3, sQ4, sQ5, sQ6, sQ7, sQ8, ne_eq] at g3
        refine wSR ?_
        refine xAs ?_
        refine wKp [(0, _), (2, _), (4, _), (8, _), (9, _), (10, _), (11, _), (24, _)] ⟨rfl, rfl, rfl, rfl, rfl, rfl, rfl, rfl, trivial⟩ ?_
        refine w_ret (inB_r (thn_r (rndE_r (inB_r (thn_r ?_)))))
        exact end0 .ret (.inl rfl) [_] ⟨rfl, trivial⟩ ⟨bool_eq (allB_bad hw (userFitB_no2 g3)).symm, rfl, rfl⟩
      · try simp only [sQ1, sQ2, sQ3, sQ4, sQ5, sQ6, sQ7, sQ8, ne_eq] at g3
        refine w_skip ?_
        refine inB_n (thn_n ?_)
        refine w_region ?_
        refine oX (w_add rfl rfl rfl rfl (by first | exact wrI64 (by first | omega | (simp; done) | (simp; omega)) (by first | omega | (simp; done) | (simp; omega)) | rfl) ?_)
        refine xMv ?_
        exact rndE_n (k + 1) [] (by first | omega | (simp only []; omega)) ⟨rfl, by omega, all_next hw ha (userFitB_yes g2 g3)⟩ ⟨rfl, rfl, rfl, rfl, trivial⟩ rfl
  · try simp only [sQ1, sQ2, sQ3, sQ4, sQ5, sQ6, sQ7, sQ8, ne_eq] at g1
    refine w_exit (thn_x (rndE_x (inB_hit (thn_n ?_))))
    refine wSR ?_
    refine xAs ?_
    refine wKp [(0, _), (2, _), (8, _), (9, _), (10, _), (11, _)] ⟨rfl, rfl, rfl, rfl, rfl, rfl, trivial⟩ ?_
    refine w_ret ?_
    exact end0 .ret (.inl rfl) [_] ⟨rfl, trivial⟩ ⟨bool_eq (allB_end (take_end (by omega) ha)).symm, rfl, rfl⟩

set_option maxRecDepth 4000 in
set_option maxHeartbeats 400000 in
theorem indexB_c (q : Option Addr) (cp : Nat) (bs : List Bool) (v : Bool) (B : Kn) (hb : SlK B q cp 1 BoolR bs) : RetB (pj J) 176 [.slice q bs.length cp, .bool v] B (.int .i64 (idxP (fun y => decide (v = y)) bs)) := by
  refine cBB 19 Tryz.func176 rfl rfl rfl (Nat.le_of_ble_eq_true rfl) ?_
  have hbn := hb.len
  refine wSR ?_
  refine xAs ?_
  refine wKp [(0, _), (1, _), (4, _)] ⟨rfl, rfl, rfl, trivial⟩ ?_
  refine w_seq ?_
  refine wSR ?_
  refine xMv ?_
  refine oX (w_lenV rfl rfl Tryz.underlying140 rfl ?_)
  refine xMv ?_
  refine wKp [(0, _), (1, _), (4, _), (7, _), (8, _)] ⟨rfl, rfl, rfl, rfl, rfl, trivial⟩ ?_
  refine w_block ?_
  refine w_loopE (α := Nat) [0, 1, 7] (fun k => [(8, .int .i64 k)]) [] (fun k => []) (fun k Bx => Bx = B ∧ k ≤ bs.length ∧ ∀ y, y ∈ bs.take k → decide (v = y) = false) (fun k => bs.length - k) 0 ⟨rfl, trivial⟩ rfl (⟨rfl, Nat.zero_le _, by simp⟩) (fun k B1 hle1 hI => ?_)
  obtain ⟨rfl, hk, ha⟩ := hI
  refine wTd [(0, _), (1, _), (7, _), (8, _)] [] ⟨rfl, rfl, rfl, rfl, trivial⟩ rfl ?_
  refine wSR ?_
  refine oX (w_lss rfl rfl rfl rfl ?_)
  refine wKp [(0, _), (1, _), (7, _), (8, _), (9, _)] ⟨rfl, rfl, rfl, rfl, rfl, trivial⟩ ?_
  refine w_seq ?_
  refine wCd rfl (fun g1 => ?_) (fun g1 => ?_)
  · try simp only [sQ1, sQ2, sQ3, sQ4, sQ5, sQ6, sQ7, sQ8, ne_eq] at g1
    refine w_skip ?_
    refine thn_n ?_
    refine w_seq ?_
    refine w_block ?_
    refine wSR ?_
    refine xMv ?_
    refine xAs ?_
    refine wKp [(0, _), (1, _), (5, _), (7, _), (8, _), (9, _)] ⟨rfl, rfl, rfl, rfl, rfl, rfl, trivial⟩ ?_
    refine wSR ?_
    refine xMv ?_
    refine xMv ?_
    refine xMv ?_
    obtain ⟨y, hy⟩ := getLt (xs := bs) (i := k) (by first | omega | (simp; done) | (simp; omega))
    obtain ⟨bb3, oo3, rfl⟩ := hb.base hy
    obtain ⟨_, rfl, hc4⟩ := hb.elem hy
    refine oX (w_ixB rfl rfl Tryz.underlying140 sz4 rfl rfl (by first | omega | (simp; done) | (simp; omega)) (by first | omega | (simp; done) | (simp; omega)) ?_)
    refine oX (w_load1 rfl rfl lk4 rfl (hc4 _ 0 _ rfl) ?_)
    refine oX (w_eqlE rfl rfl rfl rfl rfl (eqBool Tryz.underlying4) ?_)
    refine wKp [(0, _), (1, _), (5, _), (7, _), (8, _), (9, _), (16, _)] ⟨rfl, rfl, rfl, rfl, rfl, rfl, rfl, trivial⟩ ?_
    refine wCd rfl (fun g2 => ?_) (fun g2 => ?_)
    · try simp only [sQ1, sQ2, sQ3, sQ4, sQ5, sQ6, sQ7, sQ8, ne_eq] at g2
      refine wSR ?_
      refine xMv ?_
      refine xAs ?_
      refine wKp [(0, _), (1, _), (4, _), (5, _), (7, _), (8, _), (9, _), (16, _)] ⟨rfl, rfl, rfl, rfl, rfl, rfl, rfl, rfl, trivial⟩ ?_
      refine w_ret (inB_r (thn_r (rndE_r (inB_r (thn_r ?_)))))
      exact end0 .ret (.inl rfl) [_] ⟨rfl, trivial⟩ ⟨int_eq (idxP_hit hy (decide_eq_true g2) ha).symm, rfl, rfl⟩
    · try simp only [sQ1, sQ2, sQ3, sQ4, sQ5, sQ6, sQ7, sQ8, ne_eq] at g2
      refine w_skip ?_
      refine inB_n (thn_n ?_)
      refine w_region ?_
      refine oX (w_add rfl rfl rfl rfl (by first | exact wrI64 (by first | omega | (simp; done) | (simp; omega)) (by first | omega | (simp; done) | (simp; omega)) | rfl) ?_)
      refine xMv ?_
      exact rndE_n (k + 1) [] (by first | omega | (simp only []; omega)) ⟨rfl, by omega, all_next hy ha (decide_eq_false g2)⟩ ⟨rfl, rfl, rfl, rfl, trivial⟩ rfl
  · try simp only [sQ1, sQ2, sQ3, sQ4, sQ5, sQ6, sQ7, sQ8, ne_eq] at g1
    refine w_exit (thn_x (rndE_x (inB_hit (thn_n ?_))))
    refine wSR ?_
    refine xAs ?_
    refine wKp [(0, _), (1, _), (4, _), (7, _), (8, _), (9, _)] ⟨rfl, rfl, rfl, rfl, rfl, rfl, trivial⟩ ?_
    refine w_ret ?_
    exact end0 .ret (.inl rfl) [_] ⟨rfl, trivial⟩ ⟨int_eq (idxP_none (take_end (by omega) ha)).symm, rfl, rfl⟩

set_option maxRecDepth 4000 in
set_option maxHeartbeats 400000 in
theorem containsB_c (q : Option Addr) (cp : Nat) (bs : List Bool) (v : Bool) (B : Kn) (hb : SlK B q cp 1 BoolR bs) : RetB (pj J) 118 [.slice q bs.length cp, .bool v] B (.bool (decide (0 ≤ idxP (fun y => decide (v = y)) bs))) := by
  refine cBB 9 Tryz.func118 rfl rfl rfl (Nat.le_of_ble_eq_true rfl) ?_
  refine wSR ?_
  refine xAs ?_
  refine wKp [(0, _), (1, _), (4, _)] ⟨rfl, rfl, rfl, trivial⟩ ?_
  refine wSR ?_
  refine xMv ?_
  refine xMv ?_
  refine oX (w_retB rfl rfl en176 rfl (indexB_c _ _ _ _ _ hb) ?_)
  refine oX (w_geq rfl rfl rfl rfl ?_)
  refine xAs ?_
  refine wKp [(0, _), (1, _), (4, _)] ⟨rfl, rfl, rfl, trivial⟩ ?_
  refine w_ret ?_
  exact end0 .ret (.inl rfl) [_] ⟨rfl, trivial⟩ ⟨rfl, rfl, rfl⟩

set_option maxRecDepth 4000 in
set_option maxHeartbeats 400000 in
theorem implDomain_c (l : Str) (hl : l.length ≤ 2000000) (B : Kn) : RetB (pj J) 46 [str l] B (.bool (specDom l)) := by
  refine cBB 16 Tryz.func46 rfl rfl rfl (Nat.le_of_ble_eq_true rfl) ?_
  refine wSR ?_
  refine xAs ?_
  refine wKp [(0, _), (2, _)] ⟨rfl, rfl, trivial⟩ ?_
  refine wSR ?_
  refine xMv ?_
  refine oX (w_build (parts := [(0, _)]) [_, _] [_, _] rfl rfl pl128 zo128 rfl rfl rfl ?_)
  refine oX (w_alloc (l := [_, _]) rfl rfl zo128 rfl (fun b1 => ?_))
  refine oX (w_store [_, _] 0 [_, _] rfl rfl sz128 rfl rfl rfl rfl rfl rfl rfl rfl ?_)
  refine wTd [(0, _), (2, _), (3, _)] [_] ⟨rfl, rfl, rfl, trivial⟩ rfl ?_
  refine wSR ?_
  refine oX (w_upd1 0 rfl rfl rfl en102 rfl (domain_c _ _ 0 (by omega) (by omega) _) ?_)
  refine xMv ?_
  refine oX (w_extract rfl rfl rfl rfl ?_)
  refine oX (w_extract rfl rfl rfl rfl ?_)
  refine xAs ?_
  refine xAs ?_
  refine wKp [(0, _), (2, _), (3, _), (5, _)] ⟨rfl, rfl, rfl, rfl, trivial⟩ ?_
  refine wSR ?_
  refine xMv ?_
  refine xMv ?_
  refine r_split (d := 13) rfl (fun g1 => ?_) (fun g1 => ?_)
  · try simp only [sQ1, sQ2, sQ3, sQ4, sQ5, sQ6, sQ7, sQ8, ne_eq] at g1
    refine oX (w_ret1 0 rfl rfl rfl en103 rfl (done_c _ _ (dom l 0).2 (dom_le (Nat.zero_le _)) (by omega) _) ?_)
    refine oX (w_pickT rfl rfl rfl rfl ?_)
    refine xAs ?_
    refine wKp [(0, _), (2, _), (3, _), (5, _)] ⟨rfl, rfl, rfl, rfl, trivial⟩ ?_
    refine w_ret ?_
    exact end0 .ret (.inl rfl) [_] ⟨rfl, trivial⟩ ⟨bool_eq (by rw [Bool.eq_iff_iff, ← domOk_iff]; simp [domOk] at g1; simp [g1]; try omega), rfl, rfl⟩
  · try simp only [sQ1, sQ2, sQ3, sQ4, sQ5, sQ6, sQ7, sQ8, ne_eq] at g1
    refine oX (w_pass rfl rfl ?_)
    refine oX (w_pickF rfl rfl rfl rfl ?_)
    refine xAs ?_
    refine wKp [(0, _), (2, _), (3, _), (5, _)] ⟨rfl, rfl, rfl, rfl, trivial⟩ ?_
    refine w_ret ?_
    exact end0 .ret (.inl rfl) [_] ⟨rfl, trivial⟩ ⟨bool_eq (by symm; rw [Bool.eq_false_iff, ne_eq, ← domOk_iff]; intro hc; simp [domOk, hc.1] at g1; omega), rfl, rfl⟩

set_option maxRecDepth 4000 in
set_option maxHeartbeats 800000 in
theorem foldersWork_c (Wg C n i b o b1 b3 b5 b6 : Nat) (q1 q2 q3 : Option Addr) (c1 c2 c3 : Nat) (x : DHost) (m : DFolder) (qg qm : Option Addr) (cg cm : Nat) (hin : i < n) (B : Kn) (hc900 : RowAt' B b o [str x.domain, .slice q1 x.users.length c1, .slice q2 x.folders.length c2, .int .i64 x.queue.next, .slice q3 x.queue.items.length c3]) (hu : SlK B q1 c1 3 UserR x.users) (hc901 : RowAt' B b1 0 [ptr ⟨b, o, none⟩]) (hc903 : RowAt' B b3 0 [.slice (some ⟨C, 0, none⟩) n n]) (hc905 : RowAt' B b5 0 [.int .i64 i]) (hc906 : RowAt' B b6 0 [str m.owner, str m.name, .slice qg m.grants.length cg, .int .i64 m.next, .slice qm m.mail.length cm]) (hg : SlK B qg cg 2 GrantR m.grants) (hm : SlK B qm cm 3 MailR m.mail) (ho : m.owner.length ≤ 2000000) (hnm : m.name.length ≤ 2000000) : @WorkR ⟨4⟩ Tryz.prog wgL.tWg Wg C n i (.bool (folderI x.users m)) (Go.Conc.G (Frame.enter Tryz.prog 113 #[ptr ⟨Wg, 0, none⟩, ptr ⟨b1, 0, none⟩, ptr ⟨b6, 0, none⟩, ptr ⟨b3, 0, none⟩, ptr ⟨b5, 0, none⟩] .deferred) [bornF Tryz.prog]) B [] := by
  letI : Go.ConcR.Payload := ⟨4⟩
  refine work_of (Lk := wgL) (P := Tryz.prog) (caps := [ptr ⟨Wg, 0, none⟩, ptr ⟨b1, 0, none⟩, ptr ⟨b6, 0, none⟩, ptr ⟨b3, 0, none⟩, ptr ⟨b5, 0, none⟩]) (nt := 27) (I := keeps B [] []) (K := fun _ _ _ _ => False) wgLib Tryz.func113 rfl rfl (Nat.le_of_ble_eq_true rfl) rfl mo (by kernel_rfl) ⟨Kn.le.refl _, keepsL.refl _ _⟩ (fun _ _ _ _ h => h) ?_
  refine aTk 0 rfl (by kernel_rfl) rfl (q_ofI fun D B L hI => w_load1 rfl rfl lk140 rfl ((hc903.mono hI.1) _ 0 _ rfl) ⟨rfl, rfl, rfl, rfl⟩) ?_
  refine aTk 1 rfl (by kernel_rfl) rfl (q_ofI fun D B L hI => w_load1 rfl rfl lk3 rfl ((hc905.mono hI.1) _ 0 _ rfl) ⟨rfl, rfl, rfl, rfl⟩) ?_
  refine aTk 2 rfl (by kernel_rfl) rfl (q_ofI fun D B L hI => w_load1 rfl rfl lk132 rfl ((hc901.mono hI.1) _ 0 _ rfl) ⟨rfl, rfl, rfl, rfl⟩) ?_
  refine aTk 3 rfl (by kernel_rfl) rfl (q_ofI fun D B L hI => wFA rfl rfl fo40x0 rfl ⟨rfl, rfl, rfl, rfl⟩) ?_
  refine aTk 4 rfl (by kernel_rfl) rfl (q_ofI fun D B L hI => w_load1 rfl rfl lk9 rfl ((hc906.mono hI.1) _ 0 _ rfl) ⟨rfl, rfl, rfl, rfl⟩) ?_
  refine aTk 5 rfl (by kernel_rfl) rfl (q_ofI fun D B L hI => w_retB rfl rfl en54 rfl (isUser_c _ _ _ _ _ _ _ _ x m.owner (by first | assumption | omega | (simp; done) | (simp; omega)) _ (hc900.mono hI.1) (hu.mono UserR.mono hI.1)) ⟨rfl, rfl, rfl, rfl⟩) ?_
  refine aTP 6 rfl (by kernel_rfl) rfl (fun D B L => w_move rfl rfl rfl ⟨rfl, rfl, rfl, rfl⟩) ?_
  refine a_split (d := 11) rfl (fun g1 => ?_) (fun g1 => ?_)
  · try simp only [sQ1, sQ2, sQ3, sQ4, sQ5, sQ6, sQ7, sQ8, ne_eq] at g1
    refine aTk 7 rfl (by kernel_rfl) rfl (q_ofI fun D B L hI => wFA rfl rfl fo40x1 rfl ⟨rfl, rfl, rfl, rfl⟩) ?_
    refine aTk 8 rfl (by kernel_rfl) rfl (q_ofI fun D B L hI => w_load1 rfl rfl lk9 rfl ((hc906.mono hI.1) _ 1 _ rfl) ⟨rfl, rfl, rfl, rfl⟩) ?_
    refine aTk 9 rfl (by kernel_rfl) rfl (q_ofI fun D B L hI => w_retB rfl rfl en115 rfl (implName_c _ (by first | assumption | omega | (simp; done) | (simp; omega)) _) ⟨rfl, rfl, rfl, rfl⟩) ?_
    refine aTk 10 rfl (by kernel_rfl) rfl (q_ofI fun D B L hI => w_pickT rfl rfl rfl rfl ⟨rfl, rfl, rfl, rfl⟩) ?_
    refine aTP 11 rfl (by kernel_rfl) rfl (fun D B L => w_move rfl rfl rfl ⟨rfl, rfl, rfl, rfl⟩) ?_
    refine a_split (d := 16) rfl (fun g2 => ?_) (fun g2 => ?_)
    · try simp only [sQ1, sQ2, sQ3, sQ4, sQ5, sQ6, sQ7, sQ8, ne_eq] at g2
      refine aTk 12 rfl (by kernel_rfl) rfl (q_ofI fun D B L hI => wFA rfl rfl fo40x2 rfl ⟨rfl, rfl, rfl, rfl⟩) ?_
      refine aTk 13 rfl (by kernel_rfl) rfl (q_ofI fun D B L hI => w_load1 rfl rfl lk35 rfl ((hc906.mono hI.1) _ 2 _ rfl) ⟨rfl, rfl, rfl, rfl⟩) ?_
      refine aTk 14 rfl (by kernel_rfl) rfl (q_ofI fun D B L hI => w_retB rfl rfl en116 rfl (implAcl_c _ _ _ _ (hg.mono GrantR.mono hI.1)) ⟨rfl, rfl, rfl, rfl⟩) ?_
      refine aTk 15 rfl (by kernel_rfl) rfl (q_ofI fun D B L hI => w_pickT rfl rfl rfl rfl ⟨rfl, rfl, rfl, rfl⟩) ?_
      refine aTP 16 rfl (by kernel_rfl) rfl (fun D B L => w_move rfl rfl rfl ⟨rfl, rfl, rfl, rfl⟩) ?_
      refine a_split (d := 21) rfl (fun g3 => ?_) (fun g3 => ?_)
      · try simp only [sQ1, sQ2, sQ3, sQ4, sQ5, sQ6, sQ7, sQ8, ne_eq] at g3
        refine aTk 17 rfl (by kernel_rfl) rfl (q_ofI fun D B L hI => wFA rfl rfl fo40x3 rfl ⟨rfl, rfl, rfl, rfl⟩) ?_
        refine aTk 18 rfl (by kernel_rfl) rfl (q_ofI fun D B L hI => w_loadN [_, _] rfl rfl lk38 rfl (rowK (hc906.mono hI.1) 3 rfl rfl) ⟨rfl, rfl, rfl, rfl⟩) ?_
        refine aTk 19 rfl (by kernel_rfl) rfl (q_ofI fun D B L hI => w_retB rfl rfl en91 rfl (implBox_c _ _ (⟨m.next, m.mail⟩ : DBox) _ (hm.mono MailR.mono hI.1)) ⟨rfl, rfl, rfl, rfl⟩) ?_
        refine aTk 20 rfl (by kernel_rfl) rfl (q_ofI fun D B L hI => w_pickT rfl rfl rfl rfl ⟨rfl, rfl, rfl, rfl⟩) ?_
        refine aTk 21 rfl (by kernel_rfl) rfl (q_ofI fun D B L hI => w_indexAddr rfl rfl Tryz.underlying140 sz4 rfl rfl (by omega) (by omega) ⟨rfl, rfl, rfl, rfl⟩) ?_
        refine any_stop 22 (by kernel_rfl) rfl (by kernel_rfl) (by kernel_rfl) (by kernel_rfl) (fun T hn hT => ?_)
        refine work_leaf (L := []) hT wgLib (by simp [folderI, DFolder.box, g1, g2, g3]) rfl hin rfl Tryz.sizeOf4 (sizeOf_events sz4) (by exact ptr_addC C i) rfl (by kernel_rfl) Tryz.func113 rfl
      · try simp only [sQ1, sQ2, sQ3, sQ4, sQ5, sQ6, sQ7, sQ8, ne_eq] at g3
        refine aTk 17 rfl (by kernel_rfl) rfl (q_ofI fun D B L hI => w_pass rfl rfl ⟨rfl, rfl, rfl, rfl⟩) ?_
        refine aTk 18 rfl (by kernel_rfl) rfl (q_ofI fun D B L hI => w_pass rfl rfl ⟨rfl, rfl, rfl, rfl⟩) ?_
        refine aTk 19 rfl (by kernel_rfl) rfl (q_ofI fun D B L hI => w_pass rfl rfl ⟨rfl, rfl, rfl, rfl⟩) ?_
        refine aTk 20 rfl (by kernel_rfl) rfl (q_ofI fun D B L hI => w_pickF rfl rfl rfl rfl ⟨rfl, rfl, rfl, rfl⟩) ?_
        refine aTk 21 rfl (by kernel_rfl) rfl (q_ofI fun D B L hI => w_indexAddr rfl rfl Tryz.underlying140 sz4 rfl rfl (by omega) (by omega) ⟨rfl, rfl, rfl, rfl⟩) ?_
        refine any_stop 22 (by kernel_rfl) rfl (by kernel_rfl) (by kernel_rfl) (by kernel_rfl) (fun T hn hT => ?_)
        refine work_leaf (L := []) hT wgLib (by simp [folderI, DFolder.box, g1, g2, g3]) rfl hin rfl Tryz.sizeOf4 (sizeOf_events sz4) (by exact ptr_addC C i) rfl (by kernel_rfl) Tryz.func113 rfl
    · try simp only [sQ1, sQ2, sQ3, sQ4, sQ5, sQ6, sQ7, sQ8, ne_eq] at g2
      refine aTk 12 rfl (by kernel_rfl) rfl (q_ofI fun D B L hI => w_pass rfl rfl ⟨rfl, rfl, rfl, rfl⟩) ?_
      refine aTk 13 rfl (by kernel_rfl) rfl (q_ofI fun D B L hI => w_pass rfl rfl ⟨rfl, rfl, rfl, rfl⟩) ?_
      refine aTk 14 rfl (by kernel_rfl) rfl (q_ofI fun D B L hI => w_pass rfl rfl ⟨rfl, rfl, rfl, rfl⟩) ?_
      refine aTk 15 rfl (by kernel_rfl) rfl (q_ofI fun D B L hI => w_pickF rfl rfl rfl rfl ⟨rfl, rfl, rfl, rfl⟩) ?_
      refine aTP 16 rfl (by kernel_rfl) rfl (fun D B L => w_move rfl rfl rfl ⟨rfl, rfl, rfl, rfl⟩) ?_
      refine aTk 17 rfl (by kernel_rfl) rfl (q_ofI fun D B L hI => w_pass rfl rfl ⟨rfl, rfl, rfl, rfl⟩) ?_
      refine aTk 18 rfl (by kernel_rfl) rfl (q_ofI fun D B L hI => w_pass rfl rfl ⟨rfl, rfl, rfl, rfl⟩) ?_
      refine aTk 19 rfl (by kernel_rfl) rfl (q_ofI fun D B L hI => w_pass rfl rfl ⟨rfl, rfl, rfl, rfl⟩) ?_
      refine aTk 20 rfl (by kernel_rfl) rfl (q_ofI fun D B L hI => w_pickF rfl rfl rfl rfl ⟨rfl, rfl, rfl, rfl⟩) ?_
      refine aTk 21 rfl (by kernel_rfl) rfl (q_ofI fun D B L hI => w_indexAddr rfl rfl Tryz.underlying140 sz4 rfl rfl (by omega) (by omega) ⟨rfl, rfl, rfl, rfl⟩) ?_
      refine any_stop 22 (by kernel_rfl) rfl (by kernel_rfl) (by kernel_rfl) (by kernel_rfl) (fun T hn hT => ?_)
      refine work_leaf (L := []) hT wgLib (by simp [folderI, DFolder.box, g1, g2]) rfl hin rfl Tryz.sizeOf4 (sizeOf_events sz4) (by exact ptr_addC C i) rfl (by kernel_rfl) Tryz.func113 rfl
  · try simp only [sQ1, sQ2, sQ3, sQ4, sQ5, sQ6, sQ7, sQ8, ne_eq] at g1
    refine aTk 7 rfl (by kernel_rfl) rfl (q_ofI fun D B L hI => w_pass rfl rfl ⟨rfl, rfl, rfl, rfl⟩) ?_
    refine aTk 8 rfl (by kernel_rfl) rfl (q_ofI fun D B L hI => w_pass rfl rfl ⟨rfl, rfl, rfl, rfl⟩) ?_
    refine aTk 9 rfl (by kernel_rfl) rfl (q_ofI fun D B L hI => w_pass rfl rfl ⟨rfl, rfl, rfl, rfl⟩) ?_
    refine aTk 10 rfl (by kernel_rfl) rfl (q_ofI fun D B L hI => w_pickF rfl rfl rfl rfl ⟨rfl, rfl, rfl, rfl⟩) ?_
    refine aTP 11 rfl (by kernel_rfl) rfl (fun D B L => w_move rfl rfl rfl ⟨rfl, rfl, rfl, rfl⟩) ?_
    refine aTk 12 rfl (by kernel_rfl) rfl (q_ofI fun D B L hI => w_pass rfl rfl ⟨rfl, rfl, rfl, rfl⟩) ?_
    refine aTk 13 rfl (by kernel_rfl) rfl (q_ofI fun D B L hI => w_pass rfl rfl ⟨rfl, rfl, rfl, rfl⟩) ?_
    refine aTk 14 rfl (by kernel_rfl) rfl (q_ofI fun D B L hI => w_pass rfl rfl ⟨rfl, rfl, rfl, rfl⟩) ?_
    refine aTk 15 rfl (by kernel_rfl) rfl (q_ofI fun D B L hI => w_pickF rfl rfl rfl rfl ⟨rfl, rfl, rfl, rfl⟩) ?_
    refine aTP 16 rfl (by kernel_rfl) rfl (fun D B L => w_move rfl rfl rfl ⟨rfl, rfl, rfl, rfl⟩) ?_
    refine aTk 17 rfl (by kernel_rfl) rfl (q_ofI fun D B L hI => w_pass rfl rfl ⟨rfl, rfl, rfl, rfl⟩) ?_
    refine aTk 18 rfl (by kernel_rfl) rfl (q_ofI fun D B L hI => w_pass rfl rfl ⟨rfl, rfl, rfl, rfl⟩) ?_
    refine aTk 19 rfl (by kernel_rfl) rfl (q_ofI fun D B L hI => w_pass rfl rfl ⟨rfl, rfl, rfl, rfl⟩) ?_
    refine aTk 20 rfl (by kernel_rfl) rfl (q_ofI fun D B L hI => w_pickF rfl rfl rfl rfl ⟨rfl, rfl, rfl, rfl⟩) ?_
    refine aTk 21 rfl (by kernel_rfl) rfl (q_ofI fun D B L hI => w_indexAddr rfl rfl Tryz.underlying140 sz4 rfl rfl (by omega) (by omega) ⟨rfl, rfl, rfl, rfl⟩) ?_
    refine any_stop 22 (by kernel_rfl) rfl (by kernel_rfl) (by kernel_rfl) (by kernel_rfl) (fun T hn hT => ?_)
    refine work_leaf (L := []) hT wgLib (by simp [folderI, DFolder.box, g1]) rfl hin rfl Tryz.sizeOf4 (sizeOf_events sz4) (by exact ptr_addC C i) rfl (by kernel_rfl) Tryz.func113 rfl

set_option maxRecDepth 4000 in
set_option maxHeartbeats 1600000 in
theorem foldersValid_c (hJ : Joins Tryz.prog J) (b o : Nat) (q1 q2 q3 : Option Addr) (c1 c2 c3 : Nat) (x : DHost) (B : Kn) (hc900 : RowAt' B b o [str x.domain, .slice q1 x.users.length c1, .slice q2 x.folders.length c2, .int .i64 x.queue.next, .slice q3 x.queue.items.length c3]) (hu : SlK B q1 c1 3 UserR x.users) (hf : SlK B q2 c2 5 FolderR x.folders) : CallsB (pj J) 58 [ptr ⟨b, o, none⟩] B [] (fun v B' Ls => Ls = [] ∧ v = .bool (x.folders.all (folderI x.users))) := by
  have hfn := hf.len
  letI : Go.ConcR.Payload := ⟨4⟩
  refine calls_fb 30 Tryz.func58 rfl rfl (Nat.le_of_ble_eq_true rfl) fun X kind c cs F T0 hk hke hA hn0 hT0 => ?_
  let C0 : Cx (pj J) := ⟨X, fb 58 kind, c :: cs, F, hke⟩
  refine cx_seq (C := C0) (L := []) ?_
  refine cx_reg (C := C0) (L := []) hn0 hT0 ?_
  refine oX (w_box (l := [_]) rfl rfl rfl rfl (fun b1 => ?_))
  refine xAs ?_
  intro T1 hn1 hT1
  refine cx_pub (C := C0) rfl 0 rfl fun B1 hle1 hm1 => ?_
  have hc901 := rowAt_box hm1
  replace hc900 := hc900.mono hle1
  replace hu := hu.mono UserR.mono hle1
  replace hf := hf.mono FolderR.mono hle1
  replace hA := fun v B' Ls' h => hA v B' Ls' (hle1.trans h)
  refine cx_seq (C := C0) (L := [[]]) ?_
  refine cx_reg (C := C0) (L := [[]]) hn1 hT1 ?_
  refine oX (w_load1 rfl rfl lk132 rfl (hc901 _ 0 _ rfl) ?_)
  refine oX (w_nilCheck rfl rfl rfl ?_)
  refine oX (wFA rfl rfl fo31x2 rfl ?_)
  refine oX (w_load1 rfl rfl lk26 rfl (hc900 _ 2 _ rfl) ?_)
  refine oX (w_lenV rfl rfl Tryz.underlying26 rfl ?_)
  refine oX (w_makeSlice (m := x.folders.length) (c := x.folders.length) (by_ := 1) [.bool false] rfl rfl eo140 zo4 rfl rfl ⟨_, _, rfl, rfl⟩ ⟨_, _, rfl, rfl⟩ (Nat.le_refl _) (by omega) (fun Cb => ?_))
  refine oX (w_alloc (l := [_]) rfl rfl zo140 rfl (fun b2 => ?_))
  refine oX (w_store [_] 2 [_] rfl rfl sz140 rfl rfl rfl rfl rfl rfl rfl rfl ?_)
  intro T2 hn2 hT2
  refine cx_pub (C := C0) rfl 2 rfl fun B2 hle2 hm2 => ?_
  have hc903 := rowAt_box hm2
  replace hc900 := hc900.mono hle2
  replace hu := hu.mono UserR.mono hle2
  replace hf := hf.mono FolderR.mono hle2
  replace hc901 := hc901.mono hle2
  replace hA := fun v B' Ls' h => hA v B' Ls' (hle2.trans h)
  refine cx_seq (C := C0) (L := [[], box1 Cb (zrow [.bool false] x.folders.length) 4, []]) ?_
  refine cx_region (C := C0) (L := [[], box1 Cb (zrow [.bool false] x.folders.length) 4, []]) ?_
  refine ph_begin (C := Cb) (n := x.folders.length) (val := valF x) (L₁ := F) (cells := (zrow [.bool false] x.folders.length).toArray) (i := 0) (todo := []) hJ rfl hke zo150 rfl (by omega) (by simp [zrow_len]) (.refl _) (fun hmain Wg hW1 hW2 => ?_)
  let C1 : Cx (.lone Tryz.prog) := ⟨phL Tryz.prog 150 Wg Cb x.folders.length (valF x) X.R .a5 (0), fb 58 kind, c :: cs, F, hke⟩
  have hT3 := hT2.putT (n := 30) (dst := some 4) hn2 rfl (ptr ⟨Wg, 0, none⟩)
  have hn3 : (putT T2 (some 4) (ptr ⟨Wg, 0, none⟩)).size = 30 := by rw [putT_size, hn2]
  refine cx_region_end (C := C1) (L := []) ?_
  refine cx_seq (C := C1) (L := []) ?_
  refine cx_seq (C := C1) (L := []) ?_
  refine cx_reg (C := C1) (L := []) hn3 hT3 ?_
  refine oX (w_load1 rfl rfl lk132 rfl (hc901 _ 0 _ rfl) ?_)
  refine oX (w_nilCheck rfl rfl rfl ?_)
  refine oX (wFA rfl rfl fo31x2 rfl ?_)
  refine oX (w_load1 rfl rfl lk26 rfl (hc900 _ 2 _ rfl) ?_)
  refine oX (w_lenV rfl rfl Tryz.underlying26 rfl ?_)
  refine xMv ?_
  intro T4 hn4 hT4
  refine cx_block (C := C1) (L := []) ?_
  refine ph_loop (nt := 30) (fun j => [(1, ptr ⟨b1, 0, none⟩), (3, ptr ⟨b2, 0, none⟩), (4, ptr ⟨Wg, 0, none⟩), (16, .slice q2 x.folders.length c2), (17, .int .i64 x.folders.length), (18, .int .i64 ((j : Nat) : Int))]) (fun j hj B3 T5 hle3 hn5 hT5 hnext => ?_) hn4 (hT4.sub' ⟨rfl, rfl, rfl, rfl, rfl, rfl, trivial⟩)
  replace hc900 := hc900.mono hle3
  replace hu := hu.mono UserR.mono hle3
  replace hf := hf.mono FolderR.mono hle3
  replace hc901 := hc901.mono hle3
  replace hc903 := hc903.mono hle3
  replace hA := fun v B' Ls' h => hA v B' Ls' (hle3.trans h)
  let C2 : Cx (.lone Tryz.prog) := ⟨phL Tryz.prog 150 Wg Cb x.folders.length (valF x) X.R .a5 (j), fb 58 kind, c :: cs, F, hke⟩
  refine cx_seq (C := C2) (L := []) ?_
  refine cx_reg (C := C2) (L := []) hn5 hT5 ?_
  refine oX (w_lss rfl rfl rfl rfl ?_)
  intro T6 hn6 hT6
  refine cx_seq (C := C2) (L := []) ?_
  rcases Nat.lt_or_ge j x.folders.length with hlt | hge
  · skip
    refine cx_cond (C := C2) (L := []) (t := true) (by exact congrArg (fun t => some (Value.bool t)) (decide_eq_true (by omega))) hT6 ?_
    refine cx_skip (C := C2) (L := []) ?_
    refine cx_seq (C := C2) (L := []) ?_
    refine cx_block (C := C2) (L := []) ?_
    refine cx_seq (C := C2) (L := []) ?_
    refine cx_reg (C := C2) (L := []) hn6 hT6 ?_
    refine xMv ?_
    obtain ⟨m, hm⟩ := getLt (xs := x.folders) (i := j) (by first | omega | (simp; done) | (simp; omega))
    obtain ⟨bb4, oo4, rfl⟩ := hf.base hm
    obtain ⟨_, ⟨qg5, cg5, qm5, cm5, rfl, hg5, hm5, hb5, hb5b⟩, hc5⟩ := hf.elem hm
    have hg5n := hg5.len
    have hm5n := hm5.len
    have hm5s := sizeMs_le hm5
    refine oX (w_ixB rfl rfl Tryz.underlying26 sz40 rfl rfl (by first | omega | (simp; done) | (simp; omega)) (by first | omega | (simp; done) | (simp; omega)) ?_)
    refine oX (w_loadN [_, _, _, _, _] rfl rfl lk40 rfl (rowK hc5 0 rfl rfl) ?_)
    refine oX (w_alloc (l := [_]) rfl rfl zo3 rfl (fun b6 => ?_))
    refine oX (w_alloc (l := [_, _, _, _, _]) rfl rfl zo40 rfl (fun b7 => ?_))
    refine oX (w_store [_] 0 [_] rfl rfl sz3 rfl rfl rfl rfl rfl rfl rfl rfl ?_)
    refine oX (w_store [_, _, _, _, _] 1 [_, _, _, _, _] rfl rfl sz40 rfl rfl rfl rfl rfl rfl rfl rfl ?_)
    intro T7 hn7 hT7
    refine cx_pub (C := C2) rfl 0 rfl fun B4 hle4 hpm4 => ?_
    have hc905 := rowAt_box hpm4
    refine cx_pub (C := C2) rfl 1 rfl fun B5 hle5 hpm5 => ?_
    have hc906 := rowAt_box hpm5
    replace hc905 := hc905.mono hle5
    replace hc900 := hc900.mono (hle4.trans hle5)
    replace hu := hu.mono UserR.mono (hle4.trans hle5)
    replace hf := hf.mono FolderR.mono (hle4.trans hle5)
    replace hc901 := hc901.mono (hle4.trans hle5)
    replace hc903 := hc903.mono (hle4.trans hle5)
    replace hg5 := hg5.mono GrantR.mono (hle4.trans hle5)
    replace hm5 := hm5.mono MailR.mono (hle4.trans hle5)
    refine cx_seq (C := C2) (L := [[], []]) ?_
    refine cx_region (C := C2) (L := [[], []]) ?_
    refine ph_add (Lk := wgL) (i := 0) (todo := []) wgLib hlt rfl en112 rfl rfl hT7 hke ?_
    let C3 : Cx (.lone Tryz.prog) := ⟨phL Tryz.prog 150 Wg Cb x.folders.length (valF x) X.R .a2 (j), fb 58 kind, c :: cs, F, hke⟩
    have hT8 := hT7.putT (n := 30) (dst := (some 23)) hn7 rfl (.tuple #[])
    have hn8 : (putT T7 (some 23) (.tuple #[])).size = 30 := by rw [putT_size, hn7]
    refine cx_region_end (C := C3) (L := []) ?_
    refine cx_region (C := C3) (L := []) ?_
    refine cx_op (C := C3) (L := []) (i := 0) (todo := [1]) rfl hn8 hT8 (oX (w_makeFunc (xs := []) (ys := [.tmp 4, .tmp 1, .tmp 6, .tmp 3, .tmp 5]) rfl rfl rfl rfl ?_))
    intro T9 hn9 hT9
    refine ph_go (i := 1) (todo := []) rfl rfl hT9 hke Tryz.func113 rfl rfl (by rw [valF_get hm]; exact foldersWork_c Wg Cb x.folders.length j b o b1 b2 b6 b7 _ _ _ _ _ _ x m _ _ _ _ hlt B5 hc900 hu hc901 hc903 hc905 hc906 hg5 hm5 hb5 hb5b) ?_
    let C4 : Cx (.lone Tryz.prog) := ⟨phL Tryz.prog 150 Wg Cb x.folders.length (valF x) X.R .a5 (j + 1), fb 58 kind, c :: cs, F, hke⟩
    refine cx_region_end (C := C4) (L := []) ?_
    refine cx_inBlock (C := C4) (L := []) ?_
    have hn10 := hn9
    have hT10 := hT9
    refine cx_reg (C := C4) (L := []) hn10 hT10 ?_
    refine oX (w_add rfl rfl rfl rfl (by first | exact wrI64 (by first | omega | (simp; done) | (simp; omega)) (by first | omega | (simp; done) | (simp; omega)) | rfl) ?_)
    refine xMv ?_
    intro T11 hn11 hT11
    exact hnext hlt _ _ (hle4.trans hle5) hn11 (hT11.sub' ⟨rfl, rfl, rfl, rfl, rfl, rfl, trivial⟩)
  · skip
    obtain rfl : j = x.folders.length := by omega
    refine cx_cond (C := C2) (L := []) (t := false) (by exact congrArg (fun t => some (Value.bool t)) (decide_eq_false (by omega))) hT6 ?_
    refine cx_exit (C := C2) (L := []) (by rfl) ?_
    refine cx_seq (C := C2) (L := []) ?_
    refine cx_region (C := C2) (L := []) ?_
    refine ph_wait (Lk := wgL) (X := X) (i := 0) (todo := []) wgLib (by omega) rfl en117 rfl hT6 hke (fun _ _ _ h => h) ?_
    have hT7 := hT6.putT (n := 30) (dst := (some 26)) hn6 rfl (.tuple #[])
    have hn7 : (putT T6 (some 26) (.tuple #[])).size = 30 := by rw [putT_size, hn6]
    refine cx_region_end (C := C0) (L := [[(Cb, Obj.cells ((List.range x.folders.length).map (valF x)).toArray 4 (0, 0))]]) ?_
    refine cx_pub (C := C0) (L := [[(Cb, Obj.cells ((List.range x.folders.length).map (valF x)).toArray 4 (0, 0))]]) rfl 0 rfl fun B4 hle4 hm4 => ?_
    have hvb := valF_rows hm4 hfn
    replace hc900 := hc900.mono hle4
    replace hu := hu.mono UserR.mono hle4
    replace hf := hf.mono FolderR.mono hle4
    replace hc901 := hc901.mono hle4
    replace hc903 := hc903.mono hle4
    replace hA := fun v B' Ls' h => hA v B' Ls' (hle4.trans h)
    refine fb_last Tryz.func58 rfl hk hke hn7 hT7 hA ?_
    rw [show (x.folders.length : Nat) = (x.folders.map (folderI x.users)).length from (List.length_map ..).symm] at hc903
    refine wSR ?_
    refine oX (w_load1 rfl rfl lk140 rfl (hc903 _ 0 _ rfl) ?_)
    refine oX (w_retB rfl rfl en118 rfl (containsB_c _ _ _ _ _ hvb) ?_)
    refine oX (w_not rfl rfl rfl ?_)
    refine xAs ?_
    refine wTd [(1, _), (2, _), (3, _), (4, _), (16, _), (17, _), (18, _), (19, _)] [_] ⟨rfl, rfl, rfl, rfl, rfl, rfl, rfl, rfl, trivial⟩ rfl ?_
    refine w_ret ?_
    exact end0 .ret (.inl rfl) [_] ⟨rfl, trivial⟩ ⟨rfl, congrArg Value.bool allB_contains⟩

set_option maxRecDepth 4000 in
set_option maxHeartbeats 400000 in
theorem hostValid_c (hJ : Joins Tryz.prog J) (q1 q2 q3 : Option Addr) (c1 c2 c3 : Nat) (x : DHost) (hd : x.domain.length ≤ 2000000) (B : Kn) (hu : SlK B q1 c1 3 UserR x.users) (hf : SlK B q2 c2 5 FolderR x.folders) (hi : SlK B q3 c3 4 ItemR x.queue.items) : CallsB (pj J) 21 [.agg #[str x.domain, .slice q1 x.users.length c1, .slice q2 x.folders.length c2, .int .i64 x.queue.next, .slice q3 x.queue.items.length c3]] B [] (fun v B' Ls => Ls = [] ∧ v = .bool (hostOk x)) := by
  refine cBB 63 Tryz.func21 rfl rfl rfl (Nat.le_of_ble_eq_true rfl) ?_
  rw [← hostOkI_eq]
  have hfn := hf.len
  have hun := hu.len
  have hin := hi.len
  refine wSR ?_
  refine oX (w_box (l := [_, _, _, _, _]) rfl rfl rfl rfl (fun b1 => ?_))
  refine xAs ?_
  refine wTd [(0, _), (1, _), (2, _)] [_] ⟨rfl, rfl, rfl, trivial⟩ rfl ?_
  refine w_pub 0 rfl (fun B2 hle2 hpm2 => ?_)
  have hc2 := rowAt_box hpm2
  replace hu := hu.mono UserR.mono hle2
  replace hf := hf.mono FolderR.mono hle2
  replace hi := hi.mono ItemR.mono hle2
  refine w_seq ?_
  refine wSR ?_
  refine oX (wFA rfl rfl fo31x0 rfl ?_)
  refine oX (w_load1 rfl rfl lk9 rfl (hc2 _ 0 _ rfl) ?_)
  refine oX (w_retB rfl rfl en46 rfl (implDomain_c _ (by first | assumption | omega | (simp; done) | (simp; omega)) _) ?_)
  refine oX (w_not rfl rfl rfl ?_)
  refine xMv ?_
  refine r_split (d := 10) rfl (fun g1 => ?_) (fun g1 => ?_)
  · try simp only [sQ1, sQ2, sQ3, sQ4, sQ5, sQ6, sQ7, sQ8, ne_eq] at g1
    refine oX (w_pass rfl rfl ?_)
    refine oX (w_pass rfl rfl ?_)
    refine oX (w_pass rfl rfl ?_)
    refine oX (w_pass rfl rfl ?_)
    refine oX (w_pickT rfl rfl rfl rfl ?_)
    refine xMv ?_
    refine oX (w_pass rfl rfl ?_)
    refine oX (w_pass rfl rfl ?_)
    refine oX (w_pass rfl rfl ?_)
    refine oX (w_pass rfl rfl ?_)
    refine oX (w_pickT rfl rfl rfl rfl ?_)
    refine xMv ?_
    refine oX (w_pass rfl rfl ?_)
    refine oX (w_pass rfl rfl ?_)
    refine oX (w_pass rfl rfl ?_)
    refine oX (w_pass rfl rfl ?_)
    refine oX (w_pickT rfl rfl rfl rfl ?_)
    refine wTd [(0, _), (1, _), (2, _), (27, _)] [_] ⟨rfl, rfl, rfl, rfl, trivial⟩ rfl ?_
    refine wCd (t := true) rfl (fun _ => ?_) (fun h => Bool.noConfusion h)
    refine wSR ?_
    refine xAs ?_
    refine wKp [(0, _), (1, _), (2, _), (27, _)] ⟨rfl, rfl, rfl, rfl, trivial⟩ ?_
    refine w_ret (thn_r ?_)
    exact end0 .ret (.inl rfl) [_] ⟨rfl, trivial⟩ ⟨rfl, bool_eq (by simp [hostOkI, g1])⟩
  · try simp only [sQ1, sQ2, sQ3, sQ4, sQ5, sQ6, sQ7, sQ8, ne_eq] at g1
    refine oX (wFA rfl rfl fo31x1 rfl ?_)
    refine oX (w_load1 rfl rfl lk23 rfl (hc2 _ 1 _ rfl) ?_)
    refine oX (w_retB rfl rfl en47 rfl (implUsers_c _ _ _ _ hu) ?_)
    refine oX (w_not rfl rfl rfl ?_)
    refine oX (w_pickF rfl rfl rfl rfl ?_)
    refine xMv ?_
    refine r_split (d := 16) rfl (fun g2 => ?_) (fun g2 => ?_)
    · try simp only [sQ1, sQ2, sQ3, sQ4, sQ5, sQ6, sQ7, sQ8, ne_eq] at g2
      refine oX (w_pass rfl rfl ?_)
      refine oX (w_pass rfl rfl ?_)
      refine oX (w_pass rfl rfl ?_)
      refine oX (w_pass rfl rfl ?_)
      refine oX (w_pickT rfl rfl rfl rfl ?_)
      refine xMv ?_
      refine oX (w_pass rfl rfl ?_)
      refine oX (w_pass rfl rfl ?_)
      refine oX (w_pass rfl rfl ?_)
      refine oX (w_pass rfl rfl ?_)
      refine oX (w_pickT rfl rfl rfl rfl ?_)
      refine wTd [(0, _), (1, _), (2, _), (27, _)] [_] ⟨rfl, rfl, rfl, rfl, trivial⟩ rfl ?_
      refine wCd (t := true) rfl (fun _ => ?_) (fun h => Bool.noConfusion h)
      refine wSR ?_
      refine xAs ?_
      refine wKp [(0, _), (1, _), (2, _), (27, _)] ⟨rfl, rfl, rfl, rfl, trivial⟩ ?_
      refine w_ret (thn_r ?_)
      exact end0 .ret (.inl rfl) [_] ⟨rfl, trivial⟩ ⟨rfl, bool_eq (by simp [hostOkI, g1, g2])⟩
    · try simp only [sQ1, sQ2, sQ3, sQ4, sQ5, sQ6, sQ7, sQ8, ne_eq] at g2
      refine oX (wFA rfl rfl fo31x3 rfl ?_)
      refine oX (w_loadN [_, _] rfl rfl lk29 rfl (rowK hc2 3 rfl rfl) ?_)
      refine oX (w_retB rfl rfl en56 rfl (implQueue_c _ _ x.queue _ hi) ?_)
      refine oX (w_not rfl rfl rfl ?_)
      refine oX (w_pickF rfl rfl rfl rfl ?_)
      refine xMv ?_
      refine r_split (d := 22) rfl (fun g3 => ?_) (fun g3 => ?_)
      · try simp only [sQ1, sQ2, sQ3, sQ4, sQ5, sQ6, sQ7, sQ8, ne_eq] at g3
        refine oX (w_pass rfl rfl ?_)
        refine oX (w_pass rfl rfl ?_)
        refine oX (w_pass rfl rfl ?_)
        refine oX (w_pass rfl rfl ?_)
        refine oX (w_pickT rfl rfl rfl rfl ?_)
        refine wTd [(0, _), (1, _), (2, _), (27, _)] [_] ⟨rfl, rfl, rfl, rfl, trivial⟩ rfl ?_
        refine wCd (t := true) rfl (fun _ => ?_) (fun h => Bool.noConfusion h)
        refine wSR ?_
        refine xAs ?_
        refine wKp [(0, _), (1, _), (2, _), (27, _)] ⟨rfl, rfl, rfl, rfl, trivial⟩ ?_
        refine w_ret (thn_r ?_)
        exact end0 .ret (.inl rfl) [_] ⟨rfl, trivial⟩ ⟨rfl, bool_eq (by simp [hostOkI, g1, g2, g3])⟩
      · try simp only [sQ1, sQ2, sQ3, sQ4, sQ5, sQ6, sQ7, sQ8, ne_eq] at g3
        refine oX (wFA rfl rfl fo31x2 rfl ?_)
        refine oX (w_load1 rfl rfl lk26 rfl (hc2 _ 2 _ rfl) ?_)
        refine oX (w_lenV rfl rfl Tryz.underlying26 rfl ?_)
        refine oX (w_gtr rfl rfl rfl rfl ?_)
        refine oX (w_pickF rfl rfl rfl rfl ?_)
        refine wTd [(0, _), (1, _), (2, _), (27, _)] [_] ⟨rfl, rfl, rfl, rfl, trivial⟩ rfl ?_
        refine wCd rfl (fun g4 => ?_) (fun g4 => ?_)
        · try simp only [sQ1, sQ2, sQ3, sQ4, sQ5, sQ6, sQ7, sQ8, ne_eq] at g4
          refine wSR ?_
          refine xAs ?_
          refine wKp [(0, _), (1, _), (2, _), (27, _)] ⟨rfl, rfl, rfl, rfl, trivial⟩ ?_
          refine w_ret (thn_r ?_)
          exact end0 .ret (.inl rfl) [_] ⟨rfl, trivial⟩ ⟨rfl, bool_eq (by simp [hostOkI]; intros; omega)⟩
        · try simp only [sQ1, sQ2, sQ3, sQ4, sQ5, sQ6, sQ7, sQ8, ne_eq] at g4
          refine w_skip ?_
          refine thn_n ?_
          refine w_seq ?_
          refine wSR ?_
          refine oX (wFA rfl rfl fo31x2 rfl ?_)
          refine oX (w_load1 rfl rfl lk26 rfl (hc2 _ 2 _ rfl) ?_)
          refine oX (wFA rfl rfl fo31x2 rfl ?_)
          refine oX (w_load1 rfl rfl lk26 rfl (hc2 _ 2 _ rfl) ?_)
          refine oX (w_lenV rfl rfl Tryz.underlying26 rfl ?_)
          refine oX (w_sub rfl rfl rfl rfl (by first | exact wrI64 (by first | omega | (simp; done) | (simp; omega)) (by first | omega | (simp; done) | (simp; omega)) | rfl) ?_)
          refine oX (w_max (m := (x.folders.length - 1)) rfl rfl rfl rfl (by first | omega | (simp; done) | (simp; omega)) ?_)
          have hsl : ((x.folders.take (x.folders.length - 1)).drop 0).length = x.folders.length - 1 := by simp
          obtain ⟨hq6, q6, cp6, hv6, hr6⟩ := hf.cutE 0 (x.folders.length - 1) (by first | omega | (simp; done) | (simp; omega)) (by first | omega | (simp; done) | (simp; omega))
          have hr6n := hr6.len
          refine oX (w_cutV (a := 0) (b := (x.folders.length - 1)) hv6 (by first | omega | (simp; done) | (simp; omega)) hq6 rfl rfl Tryz.underlying26 sz40 rfl rfl ⟨_, _, rfl, by first | omega | (simp; done) | (simp; omega)⟩ ?_)
          refine oX (w_lenV rfl rfl Tryz.underlying26 rfl ?_)
          refine xMv ?_
          refine wKp [(0, _), (1, _), (2, _), (27, _), (35, _), (36, _), (37, _)] ⟨rfl, rfl, rfl, rfl, rfl, rfl, rfl, trivial⟩ ?_
          refine w_block ?_
          refine w_loopE (α := Nat) [0, 1, 27, 35, 36] (fun k => [(37, .int .i64 k)]) [] (fun k => []) (fun k Bx => Bx = B2 ∧ k ≤ x.folders.length - 1 ∧ OrdTo x.folders k) (fun k => x.folders.length - k) 0 ⟨rfl, trivial⟩ rfl (⟨rfl, Nat.zero_le _, ordTo_zero⟩) (fun k B7 hle7 hI => ?_)
          obtain ⟨rfl, hk, hord⟩ := hI
          refine wTd [(0, _), (1, _), (27, _), (35, _), (36, _), (37, _)] [_] ⟨rfl, rfl, rfl, rfl, rfl, rfl, trivial⟩ rfl ?_
          refine wSR ?_
          refine oX (w_lss rfl rfl rfl rfl ?_)
          refine wKp [(0, _), (1, _), (27, _), (35, _), (36, _), (37, _), (38, _)] ⟨rfl, rfl, rfl, rfl, rfl, rfl, rfl, trivial⟩ ?_
          refine w_seq ?_
          refine wCd rfl (fun g5 => ?_) (fun g5 => ?_)
          · try simp only [sQ1, sQ2, sQ3, sQ4, sQ5, sQ6, sQ7, sQ8, ne_eq] at g5
            refine w_skip ?_
            refine thn_n ?_
            refine w_seq ?_
            refine w_block ?_
            refine wSR ?_
            refine xMv ?_
            obtain ⟨fa, hfa⟩ := getLt (xs := ((x.folders.take (x.folders.length - 1)).drop 0)) (i := k) (by first | omega | (simp; done) | (simp; omega))
            obtain ⟨bb9, oo9, rfl⟩ := hr6.base hfa
            obtain ⟨_, ⟨qg10, cg10, qm10, cm10, rfl, hg10, hm10, hb10, hb10b⟩, hc10⟩ := hr6.elem hfa
            have hg10n := hg10.len
            have hm10n := hm10.len
            have hm10s := sizeMs_le hm10
            refine oX (w_ixB rfl rfl Tryz.underlying26 sz40 rfl rfl (by first | omega | (simp; done) | (simp; omega)) (by first | omega | (simp; done) | (simp; omega)) ?_)
            have hfa0 : x.folders[k]? = some fa := by rw [List.drop_zero, List.getElem?_take] at hfa; split at hfa <;> simp_all
            refine oX (w_loadN [_, _, _, _, _] rfl rfl lk40 rfl (rowK hc10 0 rfl rfl) ?_)
            refine oX (w_alloc (l := [_, _, _, _, _]) rfl rfl zo40 rfl (fun b11 => ?_))
            refine xAs ?_
            refine oX (w_store [_, _, _, _, _] 1 [_, _, _, _, _] rfl rfl sz40 rfl rfl rfl rfl rfl rfl rfl rfl ?_)
            refine wTd [(0, _), (1, _), (3, _), (4, _), (27, _), (35, _), (36, _), (37, _), (38, _)] [_, _] ⟨rfl, rfl, rfl, rfl, rfl, rfl, rfl, rfl, rfl, trivial⟩ rfl ?_
            refine wSR ?_
            refine oX (wFA rfl rfl fo31x2 rfl ?_)
            refine oX (w_load1 rfl rfl lk26 rfl (hc2 _ 2 _ rfl) ?_)
            refine xMv ?_
            refine oX (w_add rfl rfl rfl rfl (by first | exact wrI64 (by first | omega | (simp; done) | (simp; omega)) (by first | omega | (simp; done) | (simp; omega)) | rfl) ?_)
            obtain ⟨fb, hfb⟩ := getLt (xs := x.folders) (i := (k + 1)) (by first | omega | (simp; done) | (simp; omega))
            obtain ⟨bb13, oo13, rfl⟩ := hf.base hfb
            obtain ⟨_, ⟨qg14, cg14, qm14, cm14, rfl, hg14, hm14, hb14, hb14b⟩, hc14⟩ := hf.elem hfb
            have hg14n := hg14.len
            have hm14n := hm14.len
            have hm14s := sizeMs_le hm14
            refine oX (w_ixB rfl rfl Tryz.underlying26 sz40 rfl rfl (by first | omega | (simp; done) | (simp; omega)) (by first | omega | (simp; done) | (simp; omega)) ?_)
            refine oX (w_loadN [_, _, _, _, _] rfl rfl lk40 rfl (rowK hc14 0 rfl rfl) ?_)
            refine oX (w_alloc (l := [_, _, _, _, _]) rfl rfl zo40 rfl (fun b15 => ?_))
            refine oX (w_store [_, _, _, _, _] 2 [_, _, _, _, _] rfl rfl sz40 rfl rfl rfl rfl rfl rfl rfl rfl ?_)
            refine wTd [(0, _), (1, _), (3, _), (4, _), (5, _), (27, _), (35, _), (36, _), (37, _), (38, _)] [_, _, _] ⟨rfl, rfl, rfl, rfl, rfl, rfl, rfl, rfl, rfl, rfl, trivial⟩ rfl ?_
            refine wSR ?_
            refine oX (w_loadN [_, _, _, _, _] rfl rfl lk40 rfl (rowL 1 rfl rfl rfl) ?_)
            refine oX (wFA rfl rfl fo40x0 rfl ?_)
            refine oX (w_load1 rfl rfl lk9 rfl (atL 2 rfl rfl rfl) ?_)
            refine oX (wFA rfl rfl fo40x1 rfl ?_)
            refine oX (w_load1 rfl rfl lk9 rfl (atL 2 rfl rfl rfl) ?_)
            refine oX (w_retB rfl rfl en57 rfl (folderCmp_c fa _ _ _ _ fb.owner fb.name _) ?_)
            refine oX (w_geq rfl rfl rfl rfl ?_)
            refine wKp [(0, _), (1, _), (3, _), (4, _), (5, _), (27, _), (35, _), (36, _), (37, _), (38, _), (54, _)] ⟨rfl, rfl, rfl, rfl, rfl, rfl, rfl, rfl, rfl, rfl, rfl, trivial⟩ ?_
            refine wCd rfl (fun g6 => ?_) (fun g6 => ?_)
            · try simp only [sQ1, sQ2, sQ3, sQ4, sQ5, sQ6, sQ7, sQ8, ne_eq] at g6
              refine wSR ?_
              refine xAs ?_
              refine wKp [(0, _), (1, _), (2, _), (3, _), (4, _), (5, _), (27, _), (35, _), (36, _), (37, _), (38, _), (54, _)] ⟨rfl, rfl, rfl, rfl, rfl, rfl, rfl, rfl, rfl, rfl, rfl, rfl, trivial⟩ ?_
              refine w_ret (inB_r (thn_r (rndE_r (inB_r (thn_r ?_)))))
              exact end0 .ret (.inl rfl) [_] ⟨rfl, trivial⟩ ⟨rfl, bool_eq (by simp [hostOkI, ordF_bad hfa0 hfb ((cmpF_less fa fb).1 g6)])⟩
            · try simp only [sQ1, sQ2, sQ3, sQ4, sQ5, sQ6, sQ7, sQ8, ne_eq] at g6
              refine w_skip ?_
              refine inB_n (thn_n ?_)
              refine w_region ?_
              refine oX (w_add rfl rfl rfl rfl (by first | exact wrI64 (by first | omega | (simp; done) | (simp; omega)) (by first | omega | (simp; done) | (simp; omega)) | rfl) ?_)
              refine xMv ?_
              exact rndE_n (k + 1) [0] (by first | omega | (simp only []; omega)) ⟨rfl, by omega, ordTo_next hord hfa0 hfb (by rw [← Bool.not_eq_false, ← cmpF_less]; omega)⟩ ⟨rfl, rfl, rfl, rfl, rfl, rfl, trivial⟩ rfl
          · try simp only [sQ1, sQ2, sQ3, sQ4, sQ5, sQ6, sQ7, sQ8, ne_eq] at g5
            have ho := ordF_end (fs := x.folders) (fun i a b h => hord i a b (by omega))
            refine w_exit (thn_x (rndE_x (inB_hit (thn_n ?_))))
            refine wSR ?_
            refine oX (w_callP rfl rfl en58 rfl (foldersValid_c hJ _ _ _ _ _ _ _ _ x _ hc2 hu hf) ?_)
            intro v17 B17 hle17
            rintro rfl
            replace hu := hu.mono UserR.mono hle17
            replace hf := hf.mono FolderR.mono hle17
            replace hi := hi.mono ItemR.mono hle17
            replace hc2 := hc2.mono hle17
            replace hr6 := hr6.mono FolderR.mono hle17
            refine xMv ?_
            refine r_split (d := 57) rfl (fun g7 => ?_) (fun g7 => ?_)
            · try simp only [sQ1, sQ2, sQ3, sQ4, sQ5, sQ6, sQ7, sQ8, ne_eq] at g7
              refine oX (w_retB rfl rfl en59 rfl (usersFit_c _ _ _ _ _ _ _ _ x _ hc2 hu hf) ?_)
              refine oX (w_pickT rfl rfl rfl rfl ?_)
              refine xMv ?_
              refine r_split (d := 60) rfl (fun g8 => ?_) (fun g8 => ?_)
              · try simp only [sQ1, sQ2, sQ3, sQ4, sQ5, sQ6, sQ7, sQ8, ne_eq] at g8
                refine oX (w_retB rfl rfl en60 rfl (queueFits_c _ _ _ _ _ _ _ _ x _ hc2 hu hi) ?_)
                refine oX (w_pickT rfl rfl rfl rfl ?_)
                refine xAs ?_
                refine wKp [(0, _), (1, _), (2, _), (27, _), (35, _), (36, _), (37, _), (38, _)] ⟨rfl, rfl, rfl, rfl, rfl, rfl, rfl, rfl, trivial⟩ ?_
                refine w_ret ?_
                exact end0 .ret (.inl rfl) [_] ⟨rfl, trivial⟩ ⟨rfl, bool_eq (by simp [hostOkI, g1, g2, g3, ho, g7, g8]; try omega)⟩
              · try simp only [sQ1, sQ2, sQ3, sQ4, sQ5, sQ6, sQ7, sQ8, ne_eq] at g8
                refine oX (w_pass rfl rfl ?_)
                refine oX (w_pickF rfl rfl rfl rfl ?_)
                refine xAs ?_
                refine wKp [(0, _), (1, _), (2, _), (27, _), (35, _), (36, _), (37, _), (38, _)] ⟨rfl, rfl, rfl, rfl, rfl, rfl, rfl, rfl, trivial⟩ ?_
                refine w_ret ?_
                exact end0 .ret (.inl rfl) [_] ⟨rfl, trivial⟩ ⟨rfl, bool_eq (by simp [hostOkI, g1, g2, g3, ho, g7, g8]; try omega)⟩
            · try simp only [sQ1, sQ2, sQ3, sQ4, sQ5, sQ6, sQ7, sQ8, ne_eq] at g7
              refine oX (w_pass rfl rfl ?_)
              refine oX (w_pickF rfl rfl rfl rfl ?_)
              refine xMv ?_
              refine oX (w_pass rfl rfl ?_)
              refine oX (w_pickF rfl rfl rfl rfl ?_)
              refine xAs ?_
              refine wKp [(0, _), (1, _), (2, _), (27, _), (35, _), (36, _), (37, _), (38, _)] ⟨rfl, rfl, rfl, rfl, rfl, rfl, rfl, rfl, trivial⟩ ?_
              refine w_ret ?_
              exact end0 .ret (.inl rfl) [_] ⟨rfl, trivial⟩ ⟨rfl, bool_eq (by simp [hostOkI, g7])⟩

set_option maxRecDepth 4000 in
set_option maxHeartbeats 400000 in
theorem hostUsed_c (hJ : Joins Tryz.prog J) (q1 q2 q3 : Option Addr) (c1 c2 c3 : Nat) (x : DHost) (u : Str) (hn : u.length ≤ 2000000) (hd : x.domain.length ≤ 2000000) (B : Kn) (hu : SlK B q1 c1 3 UserR x.users) (hf : SlK B q2 c2 5 FolderR x.folders) (hi : SlK B q3 c3 4 ItemR x.queue.items) : CallsB (pj J) 20 [.agg #[str x.domain, .slice q1 x.users.length c1, .slice q2 x.folders.length c2, .int .i64 x.queue.next, .slice q3 x.queue.items.length c3], str u] B [] (fun v B' Ls => Ls = [] ∧ v = .int .i64 (hostUsed x u)) := by
  refine cBB 15 Tryz.func20 rfl rfl rfl (Nat.le_of_ble_eq_true rfl) ?_
  refine wSR ?_
  refine oX (w_box (l := [_, _, _, _, _]) rfl rfl rfl rfl (fun b1 => ?_))
  refine xAs ?_
  refine wTd [(0, _), (1, _), (2, _), (4, _)] [_] ⟨rfl, rfl, rfl, rfl, trivial⟩ rfl ?_
  refine w_pub 0 rfl (fun B2 hle2 hpm2 => ?_)
  have hc2 := rowAt_box hpm2
  replace hu := hu.mono UserR.mono hle2
  replace hf := hf.mono FolderR.mono hle2
  replace hi := hi.mono ItemR.mono hle2
  refine w_seq ?_
  refine wSR ?_
  refine oX (w_loadN [_, _, _, _, _] rfl rfl lk31 rfl (rowK hc2 0 rfl rfl) ?_)
  refine oX (w_callP rfl rfl en21 rfl (hostValid_c hJ _ _ _ _ _ _ x (by first | assumption | omega | (simp; done) | (simp; omega)) _ hu hf hi) ?_)
  intro v3 B3 hle3
  rintro rfl
  replace hu := hu.mono UserR.mono hle3
  replace hf := hf.mono FolderR.mono hle3
  replace hi := hi.mono ItemR.mono hle3
  replace hc2 := hc2.mono hle3
  refine oX (w_not rfl rfl rfl ?_)
  refine xMv ?_
  refine r_split (d := 8) rfl (fun g1 => ?_) (fun g1 => ?_)
  · try simp only [sQ1, sQ2, sQ3, sQ4, sQ5, sQ6, sQ7, sQ8, ne_eq] at g1
    refine oX (w_pass rfl rfl ?_)
    refine oX (w_pass rfl rfl ?_)
    refine oX (w_pass rfl rfl ?_)
    refine oX (w_pickT rfl rfl rfl rfl ?_)
    refine wTd [(0, _), (1, _), (2, _), (4, _), (12, _)] [_] ⟨rfl, rfl, rfl, rfl, rfl, trivial⟩ rfl ?_
    refine wCd (t := true) rfl (fun _ => ?_) (fun h => Bool.noConfusion h)
    refine wSR ?_
    refine xAs ?_
    refine wKp [(0, _), (1, _), (2, _), (4, _), (12, _)] ⟨rfl, rfl, rfl, rfl, rfl, trivial⟩ ?_
    refine w_ret (thn_r ?_)
    exact end0 .ret (.inl rfl) [_] ⟨rfl, trivial⟩ ⟨rfl, int_eq (by rw [hostUsed_no1 (by simpa using g1)])⟩
  · try simp only [sQ1, sQ2, sQ3, sQ4, sQ5, sQ6, sQ7, sQ8, ne_eq] at g1
    refine xMv ?_
    refine oX (w_retB rfl rfl en54 rfl (isUser_c _ _ _ _ _ _ _ _ x u (by first | assumption | omega | (simp; done) | (simp; omega)) _ hc2 hu) ?_)
    refine oX (w_not rfl rfl rfl ?_)
    refine oX (w_pickF rfl rfl rfl rfl ?_)
    refine wTd [(0, _), (1, _), (2, _), (4, _), (12, _)] [_] ⟨rfl, rfl, rfl, rfl, rfl, trivial⟩ rfl ?_
    refine wCd rfl (fun g2 => ?_) (fun g2 => ?_)
    · try simp only [sQ1, sQ2, sQ3, sQ4, sQ5, sQ6, sQ7, sQ8, ne_eq] at g2
      refine wSR ?_
      refine xAs ?_
      refine wKp [(0, _), (1, _), (2, _), (4, _), (12, _)] ⟨rfl, rfl, rfl, rfl, rfl, trivial⟩ ?_
      refine w_ret (thn_r ?_)
      exact end0 .ret (.inl rfl) [_] ⟨rfl, trivial⟩ ⟨rfl, int_eq (by rw [hostUsed_no2 (by rw [hostOk_know (by simpa using g1)] at g2; simpa using g2)])⟩
    · try simp only [sQ1, sQ2, sQ3, sQ4, sQ5, sQ6, sQ7, sQ8, ne_eq] at g2
      refine w_skip ?_
      refine thn_n ?_
      refine wSR ?_
      refine xMv ?_
      refine oX (w_retB rfl rfl en55 rfl (used_c _ _ _ _ _ _ _ _ x u _ hc2 hf) ?_)
      refine xAs ?_
      refine wKp [(0, _), (1, _), (2, _), (4, _), (12, _)] ⟨rfl, rfl, rfl, rfl, rfl, trivial⟩ ?_
      refine w_ret ?_
      exact end0 .ret (.inl rfl) [_] ⟨rfl, trivial⟩ ⟨rfl, int_eq (by rw [hostUsed_yes (by simpa using g1) (by rw [hostOk_know (by simpa using g1)] at g2; simpa using g2), hostOk_usedI (by simpa using g1)])⟩

set_option maxRecDepth 4000 in
set_option maxHeartbeats 400000 in
theorem sameUsers_c (q q' : Option Addr) (cp cp' : Nat) (xs ys : List DUser) (B : Kn) (ha : SlK B q cp 3 UserR xs) (hb : SlK B q' cp' 3 UserR ys) : RetB (pj J) 49 [.slice q xs.length cp, .slice q' ys.length cp'] B (.bool (decide (xs = ys))) := by
  refine cBB 26 Tryz.func49 rfl rfl rfl (Nat.le_of_ble_eq_true rfl) ?_
  have han := ha.len
  have hbn := hb.len
  refine wSR ?_
  refine xAs ?_
  refine wKp [(0, _), (1, _), (4, _)] ⟨rfl, rfl, rfl, trivial⟩ ?_
  refine w_seq ?_
  refine wSR ?_
  refine xMv ?_
  refine oX (w_lenV rfl rfl Tryz.underlying23 rfl ?_)
  refine xMv ?_
  refine oX (w_lenV rfl rfl Tryz.underlying23 rfl ?_)
  refine oX (w_neqI rfl rfl rfl rfl ?_)
  refine wKp [(0, _), (1, _), (4, _), (10, _)] ⟨rfl, rfl, rfl, rfl, trivial⟩ ?_
  refine wCd rfl (fun g1 => ?_) (fun g1 => ?_)
  · try simp only [sQ1, sQ2, sQ3, sQ4, sQ5, sQ6, sQ7, sQ8, ne_eq] at g1
    refine wSR ?_
    refine xAs ?_
    refine wKp [(0, _), (1, _), (4, _), (10, _)] ⟨rfl, rfl, rfl, rfl, trivial⟩ ?_
    refine w_ret (thn_r ?_)
    exact end0 .ret (.inl rfl) [_] ⟨rfl, trivial⟩ ⟨bool_eq (eqF_len g1), rfl, rfl⟩
  · try simp only [sQ1, sQ2, sQ3, sQ4, sQ5, sQ6, sQ7, sQ8, ne_eq] at g1
    refine w_skip ?_
    refine thn_n ?_
    refine w_seq ?_
    refine wSR ?_
    refine xAs ?_
    refine wKp [(0, _), (1, _), (4, _), (5, _), (10, _)] ⟨rfl, rfl, rfl, rfl, rfl, trivial⟩ ?_
    refine w_block ?_
    refine w_loopE (α := Nat) [0, 1, 10] (fun k => [(5, .int .i64 k)]) [] (fun k => []) (fun k Bx => Bx = B ∧ k ≤ xs.length ∧ xs.take k = ys.take k) (fun k => xs.length - k) 0 ⟨rfl, trivial⟩ rfl (⟨rfl, Nat.zero_le _, by simp⟩) (fun k B1 hle1 hI => ?_)
    obtain ⟨rfl, hk, he⟩ := hI
    refine wTd [(0, _), (1, _), (5, _), (10, _)] [] ⟨rfl, rfl, rfl, rfl, trivial⟩ rfl ?_
    refine w_seq ?_
    refine wSR ?_
    refine xMv ?_
    refine xMv ?_
    refine oX (w_lenV rfl rfl Tryz.underlying23 rfl ?_)
    refine oX (w_lss rfl rfl rfl rfl ?_)
    refine wKp [(0, _), (1, _), (5, _), (10, _), (14, _)] ⟨rfl, rfl, rfl, rfl, rfl, trivial⟩ ?_
    refine wCd rfl (fun g2 => ?_) (fun g2 => ?_)
    · try simp only [sQ1, sQ2, sQ3, sQ4, sQ5, sQ6, sQ7, sQ8, ne_eq] at g2
      refine w_skip ?_
      refine thn_n ?_
      refine w_seq ?_
      refine w_block ?_
      refine w_seq ?_
      refine w_draw (same _ _) mo (by kernel_rfl) ⟨rfl, rfl⟩ (fun _ _ => ?_)
      refine aTP 0 rfl (by kernel_rfl) rfl (fun D B L => w_move rfl rfl rfl ⟨rfl, rfl, rfl, rfl⟩) ?_
      refine aTP 1 rfl (by kernel_rfl) rfl (fun D B L => w_move rfl rfl rfl ⟨rfl, rfl, rfl, rfl⟩) ?_
      obtain ⟨x, hx⟩ := getLt (xs := xs) (i := k) (by first | omega | (simp; done) | (simp; omega))
      obtain ⟨bb3, oo3, rfl⟩ := ha.base hx
      obtain ⟨_, ⟨rfl, hb4, hb4b⟩, hc4⟩ := ha.elem hx
      refine aTk 2 rfl (by kernel_rfl) rfl (q_of fun D => w_ixB rfl rfl Tryz.underlying23 sz44 rfl rfl (by first | omega | (simp; done) | (simp; omega)) (by first | omega | (simp; done) | (simp; omega)) ⟨rfl, rfl, rfl, rfl⟩) ?_
      refine aTk 3 rfl (by kernel_rfl) rfl (q_of fun D => w_loadN [_, _, _] rfl rfl lk44 rfl (rowK hc4 0 rfl rfl) ⟨rfl, rfl, rfl, rfl⟩) ?_
      refine aTP 4 rfl (by kernel_rfl) rfl (fun D B L => w_move rfl rfl rfl ⟨rfl, rfl, rfl, rfl⟩) ?_
      refine aTP 5 rfl (by kernel_rfl) rfl (fun D B L => w_move rfl rfl rfl ⟨rfl, rfl, rfl, rfl⟩) ?_
      obtain ⟨y, hy⟩ := getLt (xs := ys) (i := k) (by first | omega | (simp; done) | (simp; omega))
      obtain ⟨bb6, oo6, rfl⟩ := hb.base hy
      obtain ⟨_, ⟨rfl, hb7, hb7b⟩, hc7⟩ := hb.elem hy
      refine aTk 6 rfl (by kernel_rfl) rfl (q_of fun D => w_ixB rfl rfl Tryz.underlying23 sz44 rfl rfl (by first | omega | (simp; done) | (simp; omega)) (by first | omega | (simp; done) | (simp; omega)) ⟨rfl, rfl, rfl, rfl⟩) ?_
      refine aTk 7 rfl (by kernel_rfl) rfl (q_of fun D => w_loadN [_, _, _] rfl rfl lk44 rfl (rowK hc7 0 rfl rfl) ⟨rfl, rfl, rfl, rfl⟩) ?_
      refine aTk 8 rfl (by kernel_rfl) rfl (q_of fun D => w_neqF (rs := [_, _, _]) rfl rfl rfl rfl flat44 ⟨⟨_, _, rfl, rfl, eqIn_str Tryz.underlying9⟩, ⟨_, _, rfl, rfl, eqIn_str Tryz.underlying9⟩, ⟨_, _, rfl, rfl, eqIn_int Tryz.underlying3⟩, trivial⟩ ⟨rfl, rfl, rfl, rfl⟩) ?_
      refine any_done (by kernel_rfl) (by kernel_rfl) ?_
      refine thn_n ?_
      refine wKp [(0, _), (1, _), (5, _), (10, _), (14, _), (25, _)] ⟨rfl, rfl, rfl, rfl, rfl, rfl, trivial⟩ ?_
      refine wCd rfl (fun g3 => ?_) (fun g3 => ?_)
      · try simp only [sQ1, sQ2, sQ3, sQ4, sQ5, sQ6, sQ7, sQ8, ne_eq] at g3
        refine wSR ?_
        refine xAs ?_
        refine wKp [(0, _), (1, _), (4, _), (5, _), (10, _), (14, _), (25, _)] ⟨rfl, rfl, rfl, rfl, rfl, rfl, rfl, trivial⟩ ?_
        refine w_ret (inB_r (thn_r (rndE_r (inB_r (thn_r ?_)))))
        exact end0 .ret (.inl rfl) [_] ⟨rfl, trivial⟩ ⟨bool_eq (eqF_elem hx hy (by rintro rfl; simp at g3)), rfl, rfl⟩
      · try simp only [sQ1, sQ2, sQ3, sQ4, sQ5, sQ6, sQ7, sQ8, ne_eq] at g3
        refine w_skip ?_
        refine inB_n (thn_n ?_)
        refine w_region ?_
        refine xMv ?_
        refine oX (w_add rfl rfl rfl rfl (by first | exact wrI64 (by first | omega | (simp; done) | (simp; omega)) (by first | omega | (simp; done) | (simp; omega)) | rfl) ?_)
        refine xAs ?_
        exact rndE_n (k + 1) [] (by first | omega | (simp only []; omega)) ⟨rfl, by omega, take_eq_next hx hy (by cases x; cases y; simpa [and_assoc] using g3) he⟩ ⟨rfl, rfl, rfl, rfl, trivial⟩ rfl
    · try simp only [sQ1, sQ2, sQ3, sQ4, sQ5, sQ6, sQ7, sQ8, ne_eq] at g2
      refine w_exit (thn_x (rndE_x (inB_hit (thn_n ?_))))
      refine wSR ?_
      refine xAs ?_
      refine wKp [(0, _), (1, _), (4, _), (5, _), (10, _), (14, _)] ⟨rfl, rfl, rfl, rfl, rfl, rfl, trivial⟩ ?_
      refine w_ret ?_
      exact end0 .ret (.inl rfl) [_] ⟨rfl, trivial⟩ ⟨bool_eq (eqT (by omega) (by omega) he), rfl, rfl⟩

set_option maxRecDepth 4000 in
set_option maxHeartbeats 400000 in
theorem sameGrants_c (q q' : Option Addr) (cp cp' : Nat) (xs ys : List DGrant) (B : Kn) (ha : SlK B q cp 2 GrantR xs) (hb : SlK B q' cp' 2 GrantR ys) : RetB (pj J) 95 [.slice q xs.length cp, .slice q' ys.length cp'] B (.bool (decide (xs = ys))) := by
  refine cBB 26 Tryz.func95 rfl rfl rfl (Nat.le_of_ble_eq_true rfl) ?_
  have han := ha.len
  have hbn := hb.len
  refine wSR ?_
  refine xAs ?_
  refine wKp [(0, _), (1, _), (4, _)] ⟨rfl, rfl, rfl, trivial⟩ ?_
  refine w_seq ?_
  refine wSR ?_
  refine xMv ?_
  refine oX (w_lenV rfl rfl Tryz.underlying35 rfl ?_)
  refine xMv ?_
  refine oX (w_lenV rfl rfl Tryz.underlying35 rfl ?_)
  refine oX (w_neqI rfl rfl rfl rfl ?_)
  refine wKp [(0, _), (1, _), (4, _), (10, _)] ⟨rfl, rfl, rfl, rfl, trivial⟩ ?_
  refine wCd rfl (fun g1 => ?_) (fun g1 => ?_)
  · try simp only [sQ1, sQ2, sQ3, sQ4, sQ5, sQ6, sQ7, sQ8, ne_eq] at g1
    refine wSR ?_
    refine xAs ?_
    refine wKp [(0, _), (1, _), (4, _), (10, _)] ⟨rfl, rfl, rfl, rfl, trivial⟩ ?_
    refine w_ret (thn_r ?_)
    exact end0 .ret (.inl rfl) [_] ⟨rfl, trivial⟩ ⟨bool_eq (eqF_len g1), rfl, rfl⟩
  · try simp only [sQ1, sQ2, sQ3, sQ4, sQ5, sQ6, sQ7, sQ8, ne_eq] at g1
    refine w_skip ?_
    refine thn_n ?_
    refine w_seq ?_
    refine wSR ?_
    refine xAs ?_
    refine wKp [(0, _), (1, _), (4, _), (5, _), (10, _)] ⟨rfl, rfl, rfl, rfl, rfl, trivial⟩ ?_
    refine w_block ?_
    refine w_loopE (α := Nat) [0, 1, 10] (fun k => [(5, .int .i64 k)]) [] (fun k => []) (fun k Bx => Bx = B ∧ k ≤ xs.length ∧ xs.take k = ys.take k) (fun k => xs.length - k) 0 ⟨rfl, trivial⟩ rfl (⟨rfl, Nat.zero_le _, by simp⟩) (fun k B1 hle1 hI => ?_)
    obtain ⟨rfl, hk, he⟩ := hI
    refine wTd [(0, _), (1, _), (5, _), (10, _)] [] ⟨rfl, rfl, rfl, rfl, trivial⟩ rfl ?_
    refine w_seq ?_
    refine wSR ?_
    refine xMv ?_
    refine xMv ?_
    refine oX (w_lenV rfl rfl Tryz.underlying35 rfl ?_)
    refine oX (w_lss rfl rfl rfl rfl ?_)
    refine wKp [(0, _), (1, _), (5, _), (10, _), (14, _)] ⟨rfl, rfl, rfl, rfl, rfl, trivial⟩ ?_
    refine wCd rfl (fun g2 => ?_) (fun g2 => ?_)
    · try simp only [sQ1, sQ2, sQ3, sQ4, sQ5, sQ6, sQ7, sQ8, ne_eq] at g2
      refine w_skip ?_
      refine thn_n ?_
      refine w_seq ?_
      refine w_block ?_
      refine w_seq ?_
      refine w_draw (same _ _) mo (by kernel_rfl) ⟨rfl, rfl⟩ (fun _ _ => ?_)
      refine aTP 0 rfl (by kernel_rfl) rfl (fun D B L => w_move rfl rfl rfl ⟨rfl, rfl, rfl, rfl⟩) ?_
      refine aTP 1 rfl (by kernel_rfl) rfl (fun D B L => w_move rfl rfl rfl ⟨rfl, rfl, rfl, rfl⟩) ?_
      obtain ⟨x, hx⟩ := getLt (xs := xs) (i := k) (by first | omega | (simp; done) | (simp; omega))
      obtain ⟨bb3, oo3, rfl⟩ := ha.base hx
      obtain ⟨_, ⟨rfl, hb4⟩, hc4⟩ := ha.elem hx
      refine aTk 2 rfl (by kernel_rfl) rfl (q_of fun D => w_ixB rfl rfl Tryz.underlying35 sz174 rfl rfl (by first | omega | (simp; done) | (simp; omega)) (by first | omega | (simp; done) | (simp; omega)) ⟨rfl, rfl, rfl, rfl⟩) ?_
      refine aTk 3 rfl (by kernel_rfl) rfl (q_of fun D => w_loadN [_, _] rfl rfl lk174 rfl (rowK hc4 0 rfl rfl) ⟨rfl, rfl, rfl, rfl⟩) ?_
      refine aTP 4 rfl (by kernel_rfl) rfl (fun D B L => w_move rfl rfl rfl ⟨rfl, rfl, rfl, rfl⟩) ?_
      refine aTP 5 rfl (by kernel_rfl) rfl (fun D B L => w_move rfl rfl rfl ⟨rfl, rfl, rfl, rfl⟩) ?_
      obtain ⟨y, hy⟩ := getLt (xs := ys) (i := k) (by first | omega | (simp; done) | (simp; omega))
      obtain ⟨bb6, oo6, rfl⟩ := hb.base hy
      obtain ⟨_, ⟨rfl, hb7⟩, hc7⟩ := hb.elem hy
      refine aTk 6 rfl (by kernel_rfl) rfl (q_of fun D => w_ixB rfl rfl Tryz.underlying35 sz174 rfl rfl (by first | omega | (simp; done) | (simp; omega)) (by first | omega | (simp; done) | (simp; omega)) ⟨rfl, rfl, rfl, rfl⟩) ?_
      refine aTk 7 rfl (by kernel_rfl) rfl (q_of fun D => w_loadN [_, _] rfl rfl lk174 rfl (rowK hc7 0 rfl rfl) ⟨rfl, rfl, rfl, rfl⟩) ?_
      refine aTk 8 rfl (by kernel_rfl) rfl (q_of fun D => w_neqF (rs := [_, _]) rfl rfl rfl rfl flat174 ⟨⟨_, _, rfl, rfl, eqIn_str Tryz.underlying9⟩, ⟨_, _, rfl, rfl, eqIn_int Tryz.underlying3⟩, trivial⟩ ⟨rfl, rfl, rfl, rfl⟩) ?_
      refine any_done (by kernel_rfl) (by kernel_rfl) ?_
      refine thn_n ?_
      refine wKp [(0, _), (1, _), (5, _), (10, _), (14, _), (25, _)] ⟨rfl, rfl, rfl, rfl, rfl, rfl, trivial⟩ ?_
      refine wCd rfl (fun g3 => ?_) (fun g3 => ?_)
      · try simp only [sQ1, sQ2, sQ3, sQ4, sQ5, sQ6, sQ7, sQ8, ne_eq] at g3
        refine wSR ?_
        refine xAs ?_
        refine wKp [(0, _), (1, _), (4, _), (5, _), (10, _), (14, _), (25, _)] ⟨rfl, rfl, rfl, rfl, rfl, rfl, rfl, trivial⟩ ?_
        refine w_ret (inB_r (thn_r (rndE_r (inB_r (thn_r ?_)))))
        exact end0 .ret (.inl rfl) [_] ⟨rfl, trivial⟩ ⟨bool_eq (eqF_elem hx hy (by rintro rfl; simp at g3)), rfl, rfl⟩
      · try simp only [sQ1, sQ2, sQ3, sQ4, sQ5, sQ6, sQ7, sQ8, ne_eq] at g3
        refine w_skip ?_
        refine inB_n (thn_n ?_)
        refine w_region ?_
        refine xMv ?_
        refine oX (w_add rfl rfl rfl rfl (by first | exact wrI64 (by first | omega | (simp; done) | (simp; omega)) (by first | omega | (simp; done) | (simp; omega)) | rfl) ?_)
        refine xAs ?_
        exact rndE_n (k + 1) [] (by first | omega | (simp only []; omega)) ⟨rfl, by omega, take_eq_next hx hy (by cases x; cases y; simpa [and_assoc] using g3) he⟩ ⟨rfl, rfl, rfl, rfl, trivial⟩ rfl
    · try simp only [sQ1, sQ2, sQ3, sQ4, sQ5, sQ6, sQ7, sQ8, ne_eq] at g2
      refine w_exit (thn_x (rndE_x (inB_hit (thn_n ?_))))
      refine wSR ?_
      refine xAs ?_
      refine wKp [(0, _), (1, _), (4, _), (5, _), (10, _), (14, _)] ⟨rfl, rfl, rfl, rfl, rfl, rfl, trivial⟩ ?_
      refine w_ret ?_
      exact end0 .ret (.inl rfl) [_] ⟨rfl, trivial⟩ ⟨bool_eq (eqT (by omega) (by omega) he), rfl, rfl⟩

set_option maxRecDepth 4000 in
set_option maxHeartbeats 400000 in
theorem sameMail_c (q q' : Option Addr) (cp cp' : Nat) (xs ys : List DMail) (B : Kn) (ha : SlK B q cp 3 MailR xs) (hb : SlK B q' cp' 3 MailR ys) : RetB (pj J) 150 [.slice q xs.length cp, .slice q' ys.length cp'] B (.bool (decide (xs = ys))) := by
  refine cBB 26 Tryz.func150 rfl rfl rfl (Nat.le_of_ble_eq_true rfl) ?_
  have han := ha.len
  have hbn := hb.len
  refine wSR ?_
  refine xAs ?_
  refine wKp [(0, _), (1, _), (4, _)] ⟨rfl, rfl, rfl, trivial⟩ ?_
  refine w_seq ?_
  refine wSR ?_
  refine xMv ?_
  refine oX (w_lenV rfl rfl Tryz.underlying36 rfl ?_)
  refine xMv ?_
  refine oX (w_lenV rfl rfl Tryz.underlying36 rfl ?_)
  refine oX (w_neqI rfl rfl rfl rfl ?_)
  refine wKp [(0, _), (1, _), (4, _), (10, _)] ⟨rfl, rfl, rfl, rfl, trivial⟩ ?_
  refine wCd rfl (fun g1 => ?_) (fun g1 => ?_)
  · try simp only [sQ1, sQ2, sQ3, sQ4, sQ5, sQ6, sQ7, sQ8, ne_eq] at g1
    refine wSR ?_
    refine xAs ?_
    refine wKp [(0, _), (1, _), (4, _), (10, _)] ⟨rfl, rfl, rfl, rfl, trivial⟩ ?_
    refine w_ret (thn_r ?_)
    exact end0 .ret (.inl rfl) [_] ⟨rfl, trivial⟩ ⟨bool_eq (eqF_len g1), rfl, rfl⟩
  · try simp only [sQ1, sQ2, sQ3, sQ4, sQ5, sQ6, sQ7, sQ8, ne_eq] at g1
    refine w_skip ?_
    refine thn_n ?_
    refine w_seq ?_
    refine wSR ?_
    refine xAs ?_
    refine wKp [(0, _), (1, _), (4, _), (5, _), (10, _)] ⟨rfl, rfl, rfl, rfl, rfl, trivial⟩ ?_
    refine w_block ?_
    refine w_loopE (α := Nat) [0, 1, 10] (fun k => [(5, .int .i64 k)]) [] (fun k => []) (fun k Bx => Bx = B ∧ k ≤ xs.length ∧ xs.take k = ys.take k) (fun k => xs.length - k) 0 ⟨rfl, trivial⟩ rfl (⟨rfl, Nat.zero_le _, by simp⟩) (fun k B1 hle1 hI => ?_)
    obtain ⟨rfl, hk, he⟩ := hI
    refine wTd [(0, _), (1, _), (5, _), (10, _)] [] ⟨rfl, rfl, rfl, rfl, trivial⟩ rfl ?_
    refine w_seq ?_
    refine wSR ?_
    refine xMv ?_
    refine xMv ?_
    refine oX (w_lenV rfl rfl Tryz.underlying36 rfl ?_)
    refine oX (w_lss rfl rfl rfl rfl ?_)
    refine wKp [(0, _), (1, _), (5, _), (10, _), (14, _)] ⟨rfl, rfl, rfl, rfl, rfl, trivial⟩ ?_
    refine wCd rfl (fun g2 => ?_) (fun g2 => ?_)
    · try simp only [sQ1, sQ2, sQ3, sQ4, sQ5, sQ6, sQ7, sQ8, ne_eq] at g2
      refine w_skip ?_
      refine thn_n ?_
      refine w_seq ?_
      refine w_block ?_
      refine w_seq ?_
      refine w_draw (same _ _) mo (by kernel_rfl) ⟨rfl, rfl⟩ (fun _ _ => ?_)
      refine aTP 0 rfl (by kernel_rfl) rfl (fun D B L => w_move rfl rfl rfl ⟨rfl, rfl, rfl, rfl⟩) ?_
      refine aTP 1 rfl (by kernel_rfl) rfl (fun D B L => w_move rfl rfl rfl ⟨rfl, rfl, rfl, rfl⟩) ?_
      obtain ⟨x, hx⟩ := getLt (xs := xs) (i := k) (by first | omega | (simp; done) | (simp; omega))
      obtain ⟨bb3, oo3, rfl⟩ := ha.base hx
      obtain ⟨_, ⟨rfl, hb4⟩, hc4⟩ := ha.elem hx
      refine aTk 2 rfl (by kernel_rfl) rfl (q_of fun D => w_ixB rfl rfl Tryz.underlying36 sz116 rfl rfl (by first | omega | (simp; done) | (simp; omega)) (by first | omega | (simp; done) | (simp; omega)) ⟨rfl, rfl, rfl, rfl⟩) ?_
      refine aTk 3 rfl (by kernel_rfl) rfl (q_of fun D => w_loadN [_, _, _] rfl rfl lk116 rfl (rowK hc4 0 rfl rfl) ⟨rfl, rfl, rfl, rfl⟩) ?_
      refine aTP 4 rfl (by kernel_rfl) rfl (fun D B L => w_move rfl rfl rfl ⟨rfl, rfl, rfl, rfl⟩) ?_
      refine aTP 5 rfl (by kernel_rfl) rfl (fun D B L => w_move rfl rfl rfl ⟨rfl, rfl, rfl, rfl⟩) ?_
      obtain ⟨y, hy⟩ := getLt (xs := ys) (i := k) (by first | omega | (simp; done) | (simp; omega))
      obtain ⟨bb6, oo6, rfl⟩ := hb.base hy
      obtain ⟨_, ⟨rfl, hb7⟩, hc7⟩ := hb.elem hy
      refine aTk 6 rfl (by kernel_rfl) rfl (q_of fun D => w_ixB rfl rfl Tryz.underlying36 sz116 rfl rfl (by first | omega | (simp; done) | (simp; omega)) (by first | omega | (simp; done) | (simp; omega)) ⟨rfl, rfl, rfl, rfl⟩) ?_
      refine aTk 7 rfl (by kernel_rfl) rfl (q_of fun D => w_loadN [_, _, _] rfl rfl lk116 rfl (rowK hc7 0 rfl rfl) ⟨rfl, rfl, rfl, rfl⟩) ?_
      refine aTk 8 rfl (by kernel_rfl) rfl (q_of fun D => w_neqF (rs := [_, _, _]) rfl rfl rfl rfl flat116 ⟨⟨_, _, rfl, rfl, eqIn_int Tryz.underlying3⟩, ⟨_, _, rfl, rfl, eqIn_int Tryz.underlying3⟩, ⟨_, _, rfl, rfl, eqIn_str Tryz.underlying9⟩, trivial⟩ ⟨rfl, rfl, rfl, rfl⟩) ?_
      refine any_done (by kernel_rfl) (by kernel_rfl) ?_
      refine thn_n ?_
      refine wKp [(0, _), (1, _), (5, _), (10, _), (14, _), (25, _)] ⟨rfl, rfl, rfl, rfl, rfl, rfl, trivial⟩ ?_
      refine wCd rfl (fun g3 => ?_) (fun g3 => ?_)
      · try simp only [sQ1, sQ2, sQ3, sQ4, sQ5, sQ6, sQ7, sQ8, ne_eq] at g3
        refine wSR ?_
        refine xAs ?_
        refine wKp [(0, _), (1, _), (4, _), (5, _), (10, _), (14, _), (25, _)] ⟨rfl, rfl, rfl, rfl, rfl, rfl, rfl, trivial⟩ ?_
        refine w_ret (inB_r (thn_r (rndE_r (inB_r (thn_r ?_)))))
        exact end0 .ret (.inl rfl) [_] ⟨rfl, trivial⟩ ⟨bool_eq (eqF_elem hx hy (by rintro rfl; simp at g3)), rfl, rfl⟩
      · try simp only [sQ1, sQ2, sQ3, sQ4, sQ5, sQ6, sQ7, sQ8, ne_eq] at g3
        refine w_skip ?_
        refine inB_n (thn_n ?_)
        refine w_region ?_
        refine xMv ?_
        refine oX (w_add rfl rfl rfl rfl (by first | exact wrI64 (by first | omega | (simp; done) | (simp; omega)) (by first | omega | (simp; done) | (simp; omega)) | rfl) ?_)
        refine xAs ?_
        exact rndE_n (k + 1) [] (by first | omega | (simp only []; omega)) ⟨rfl, by omega, take_eq_next hx hy (by cases x; cases y; simpa [and_assoc] using g3) he⟩ ⟨rfl, rfl, rfl, rfl, trivial⟩ rfl
    · try simp only [sQ1, sQ2, sQ3, sQ4, sQ5, sQ6, sQ7, sQ8, ne_eq] at g2
      refine w_exit (thn_x (rndE_x (inB_hit (thn_n ?_))))
      refine wSR ?_
      refine xAs ?_
      refine wKp [(0, _), (1, _), (4, _), (5, _), (10, _), (14, _)] ⟨rfl, rfl, rfl, rfl, rfl, rfl, trivial⟩ ?_
      refine w_ret ?_
      exact end0 .ret (.inl rfl) [_] ⟨rfl, trivial⟩ ⟨bool_eq (eqT (by omega) (by omega) he), rfl, rfl⟩

set_option maxRecDepth 4000 in
set_option maxHeartbeats 400000 in
theorem sameBox_c (q1 : Option Addr) (c1 : Nat) (q2 : Option Addr) (c2 : Nat) (a b : DBox) (B : Kn) (h1 : SlK B q1 c1 3 MailR a.mail) (h2 : SlK B q2 c2 3 MailR b.mail) : RetB (pj J) 96 [.agg #[.int .i64 a.next, .slice q1 a.mail.length c1], .agg #[.int .i64 b.next, .slice q2 b.mail.length c2]] B (.bool (decide (a = b))) := by
  refine cBB 17 Tryz.func96 rfl rfl rfl (Nat.le_of_ble_eq_true rfl) ?_
  refine wSR ?_
  refine oX (w_box (l := [_, _]) rfl rfl rfl rfl (fun b1 => ?_))
  refine oX (w_box (l := [_, _]) rfl rfl rfl rfl (fun b2 => ?_))
  refine xAs ?_
  refine wTd [(0, _), (1, _), (2, _), (3, _), (4, _)] [_, _] ⟨rfl, rfl, rfl, rfl, rfl, trivial⟩ rfl ?_
  refine wSR ?_
  refine oX (wFA rfl rfl fo38x0 rfl ?_)
  refine oX (w_load1 rfl rfl lk3 rfl (atL 0 rfl rfl rfl) ?_)
  refine oX (wFA rfl rfl fo38x0 rfl ?_)
  refine oX (w_load1 rfl rfl lk3 rfl (atL 1 rfl rfl rfl) ?_)
  refine oX (w_eqlI rfl rfl rfl rfl ?_)
  refine xMv ?_
  refine r_split (d := 10) rfl (fun g1 => ?_) (fun g1 => ?_)
  · try simp only [sQ1, sQ2, sQ3, sQ4, sQ5, sQ6, sQ7, sQ8, ne_eq] at g1
    refine oX (wFA rfl rfl fo38x1 rfl ?_)
    refine oX (w_load1 rfl rfl lk36 rfl (atL 0 rfl rfl rfl) ?_)
    refine oX (wFA rfl rfl fo38x1 rfl ?_)
    refine oX (w_load1 rfl rfl lk36 rfl (atL 1 rfl rfl rfl) ?_)
    refine oX (w_retB rfl rfl en150 rfl (sameMail_c _ _ _ _ _ _ _ h1 h2) ?_)
    refine oX (w_pickT rfl rfl rfl rfl ?_)
    refine xAs ?_
    refine wKp [(0, _), (1, _), (2, _), (3, _), (4, _)] ⟨rfl, rfl, rfl, rfl, rfl, trivial⟩ ?_
    refine w_ret ?_
    exact end0 .ret (.inl rfl) [_] ⟨rfl, trivial⟩ ⟨bool_eq (by cases a; cases b; simp_all), rfl, rfl⟩
  · try simp only [sQ1, sQ2, sQ3, sQ4, sQ5, sQ6, sQ7, sQ8, ne_eq] at g1
    refine oX (w_pass rfl rfl ?_)
    refine oX (w_pass rfl rfl ?_)
    refine oX (w_pass rfl rfl ?_)
    refine oX (w_pass rfl rfl ?_)
    refine oX (w_pass rfl rfl ?_)
    refine oX (w_pickF rfl rfl rfl rfl ?_)
    refine xAs ?_
    refine wKp [(0, _), (1, _), (2, _), (3, _), (4, _)] ⟨rfl, rfl, rfl, rfl, rfl, trivial⟩ ?_
    refine w_ret ?_
    exact end0 .ret (.inl rfl) [_] ⟨rfl, trivial⟩ ⟨bool_eq (by cases a; cases b; simp_all), rfl, rfl⟩

set_option maxRecDepth 4000 in
set_option maxHeartbeats 400000 in
theorem sameFolder_c (qa1 qb1 : Option Addr) (ca1 cb1 : Nat) (qa2 qb2 : Option Addr) (ca2 cb2 : Nat) (a b : DFolder) (B : Kn) (hg1 : SlK B qa1 ca1 2 GrantR a.grants) (hm1 : SlK B qb1 cb1 3 MailR a.mail) (hg2 : SlK B qa2 ca2 2 GrantR b.grants) (hm2 : SlK B qb2 cb2 3 MailR b.mail) : RetB (pj J) 39 [.agg #[str a.owner, str a.name, .slice qa1 a.grants.length ca1, .int .i64 a.next, .slice qb1 a.mail.length cb1], .agg #[str b.owner, str b.name, .slice qa2 b.grants.length ca2, .int .i64 b.next, .slice qb2 b.mail.length cb2]] B (.bool (decide (a = b))) := by
  refine cBB 31 Tryz.func39 rfl rfl rfl (Nat.le_of_ble_eq_true rfl) ?_
  refine wSR ?_
  refine oX (w_box (l := [_, _, _, _, _]) rfl rfl rfl rfl (fun b1 => ?_))
  refine oX (w_box (l := [_, _, _, _, _]) rfl rfl rfl rfl (fun b2 => ?_))
  refine xAs ?_
  refine wTd [(0, _), (1, _), (2, _), (3, _), (4, _)] [_, _] ⟨rfl, rfl, rfl, rfl, rfl, trivial⟩ rfl ?_
  refine wSR ?_
  refine oX (wFA rfl rfl fo40x0 rfl ?_)
  refine oX (w_load1 rfl rfl lk9 rfl (atL 0 rfl rfl rfl) ?_)
  refine oX (wFA rfl rfl fo40x0 rfl ?_)
  refine oX (w_load1 rfl rfl lk9 rfl (atL 1 rfl rfl rfl) ?_)
  refine oX (w_eqlS rfl rfl rfl rfl ?_)
  refine xMv ?_
  refine r_split (d := 10) rfl (fun g1 => ?_) (fun g1 => ?_)
  · try simp only [sQ1, sQ2, sQ3, sQ4, sQ5, sQ6, sQ7, sQ8, ne_eq] at g1
    refine oX (wFA rfl rfl fo40x1 rfl ?_)
    refine oX (w_load1 rfl rfl lk9 rfl (atL 0 rfl rfl rfl) ?_)
    refine oX (wFA rfl rfl fo40x1 rfl ?_)
    refine oX (w_load1 rfl rfl lk9 rfl (atL 1 rfl rfl rfl) ?_)
    refine oX (w_eqlS rfl rfl rfl rfl ?_)
    refine oX (w_pickT rfl rfl rfl rfl ?_)
    refine xMv ?_
    refine r_split (d := 17) rfl (fun g2 => ?_) (fun g2 => ?_)
    · try simp only [sQ1, sQ2, sQ3, sQ4, sQ5, sQ6, sQ7, sQ8, ne_eq] at g2
      refine oX (wFA rfl rfl fo40x2 rfl ?_)
      refine oX (w_load1 rfl rfl lk35 rfl (atL 0 rfl rfl rfl) ?_)
      refine oX (wFA rfl rfl fo40x2 rfl ?_)
      refine oX (w_load1 rfl rfl lk35 rfl (atL 1 rfl rfl rfl) ?_)
      refine oX (w_retB rfl rfl en95 rfl (sameGrants_c _ _ _ _ _ _ _ hg1 hg2) ?_)
      refine oX (w_pickT rfl rfl rfl rfl ?_)
      refine xMv ?_
      refine r_split (d := 24) rfl (fun g3 => ?_) (fun g3 => ?_)
      · try simp only [sQ1, sQ2, sQ3, sQ4, sQ5, sQ6, sQ7, sQ8, ne_eq] at g3
        refine oX (wFA rfl rfl fo40x3 rfl ?_)
        refine oX (w_loadN [_, _] rfl rfl lk38 rfl (rowL 0 rfl rfl rfl) ?_)
        refine oX (wFA rfl rfl fo40x3 rfl ?_)
        refine oX (w_loadN [_, _] rfl rfl lk38 rfl (rowL 1 rfl rfl rfl) ?_)
        refine oX (w_retB rfl rfl en96 rfl (sameBox_c _ _ _ _ (⟨a.next, a.mail⟩ : DBox) (⟨b.next, b.mail⟩ : DBox) _ hm1 hm2) ?_)
        refine oX (w_pickT rfl rfl rfl rfl ?_)
        refine xAs ?_
        refine wKp [(0, _), (1, _), (2, _), (3, _), (4, _)] ⟨rfl, rfl, rfl, rfl, rfl, trivial⟩ ?_
        refine w_ret ?_
        exact end0 .ret (.inl rfl) [_] ⟨rfl, trivial⟩ ⟨bool_eq (by cases a; cases b; simp_all), rfl, rfl⟩
      · try simp only [sQ1, sQ2, sQ3, sQ4, sQ5, sQ6, sQ7, sQ8, ne_eq] at g3
        refine oX (w_pass rfl rfl ?_)
        refine oX (w_pass rfl rfl ?_)
        refine oX (w_pass rfl rfl ?_)
        refine oX (w_pass rfl rfl ?_)
        refine oX (w_pass rfl rfl ?_)
        refine oX (w_pickF rfl rfl rfl rfl ?_)
        refine xAs ?_
        refine wKp [(0, _), (1, _), (2, _), (3, _), (4, _)] ⟨rfl, rfl, rfl, rfl, rfl, trivial⟩ ?_
        refine w_ret ?_
        exact end0 .ret (.inl rfl) [_] ⟨rfl, trivial⟩ ⟨bool_eq (by cases a; cases b; simp_all), rfl, rfl⟩
    · try simp only [sQ1, sQ2, sQ3, sQ4, sQ5, sQ6, sQ7, sQ8, ne_eq] at g2
      refine oX (w_pass rfl rfl ?_)
      refine oX (w_pass rfl rfl ?_)
      refine oX (w_pass rfl rfl ?_)
      refine oX (w_pass rfl rfl ?_)
      refine oX (w_pass rfl rfl ?_)
      refine oX (w_pickF rfl rfl rfl rfl ?_)
      refine xMv ?_
      refine oX (w_pass rfl rfl ?_)
      refine oX (w_pass rfl rfl ?_)
      refine oX (w_pass rfl rfl ?_)
      refine oX (w_pass rfl rfl ?_)
      refine oX (w_pass rfl rfl ?_)
      refine oX (w_pickF rfl rfl rfl rfl ?_)
      refine xAs ?_
      refine wKp [(0, _), (1, _), (2, _), (3, _), (4, _)] ⟨rfl, rfl, rfl, rfl, rfl, trivial⟩ ?_
      refine w_ret ?_
      exact end0 .ret (.inl rfl) [_] ⟨rfl, trivial⟩ ⟨bool_eq (by cases a; cases b; simp_all), rfl, rfl⟩
  · try simp only [sQ1, sQ2, sQ3, sQ4, sQ5, sQ6, sQ7, sQ8, ne_eq] at g1
    refine oX (w_pass rfl rfl ?_)
    refine oX (w_pass rfl rfl ?_)
    refine oX (w_pass rfl rfl ?_)
    refine oX (w_pass rfl rfl ?_)
    refine oX (w_pass rfl rfl ?_)
    refine oX (w_pickF rfl rfl rfl rfl ?_)
    refine xMv ?_
    refine oX (w_pass rfl rfl ?_)
    refine oX (w_pass rfl rfl ?_)
    refine oX (w_pass rfl rfl ?_)
    refine oX (w_pass rfl rfl ?_)
    refine oX (w_pass rfl rfl ?_)
    refine oX (w_pickF rfl rfl rfl rfl ?_)
    refine xMv ?_
    refine oX (w_pass rfl rfl ?_)
    refine oX (w_pass rfl rfl ?_)
    refine oX (w_pass rfl rfl ?_)
    refine oX (w_pass rfl rfl ?_)
    refine oX (w_pass rfl rfl ?_)
    refine oX (w_pickF rfl rfl rfl rfl ?_)
    refine xAs ?_
    refine wKp [(0, _), (1, _), (2, _), (3, _), (4, _)] ⟨rfl, rfl, rfl, rfl, rfl, trivial⟩ ?_
    refine w_ret ?_
    exact end0 .ret (.inl rfl) [_] ⟨rfl, trivial⟩ ⟨bool_eq (by cases a; cases b; simp_all), rfl, rfl⟩

set_option maxRecDepth 4000 in
set_option maxHeartbeats 400000 in
theorem sameFolders_c (q q' : Option Addr) (cp cp' : Nat) (xs ys : List DFolder) (B : Kn) (ha : SlK B q cp 5 FolderR xs) (hb : SlK B q' cp' 5 FolderR ys) : RetB (pj J) 50 [.slice q xs.length cp, .slice q' ys.length cp'] B (.bool (decide (xs = ys))) := by
  refine cBB 27 Tryz.func50 rfl rfl rfl (Nat.le_of_ble_eq_true rfl) ?_
  have han := ha.len
  have hbn := hb.len
  refine wSR ?_
  refine xAs ?_
  refine wKp [(0, _), (1, _), (4, _)] ⟨rfl, rfl, rfl, trivial⟩ ?_
  refine w_seq ?_
  refine wSR ?_
  refine xMv ?_
  refine oX (w_lenV rfl rfl Tryz.underlying26 rfl ?_)
  refine xMv ?_
  refine oX (w_lenV rfl rfl Tryz.underlying26 rfl ?_)
  refine oX (w_neqI rfl rfl rfl rfl ?_)
  refine wKp [(0, _), (1, _), (4, _), (10, _)] ⟨rfl, rfl, rfl, rfl, trivial⟩ ?_
  refine wCd rfl (fun g1 => ?_) (fun g1 => ?_)
  · try simp only [sQ1, sQ2, sQ3, sQ4, sQ5, sQ6, sQ7, sQ8, ne_eq] at g1
    refine wSR ?_
    refine xAs ?_
    refine wKp [(0, _), (1, _), (4, _), (10, _)] ⟨rfl, rfl, rfl, rfl, trivial⟩ ?_
    refine w_ret (thn_r ?_)
    exact end0 .ret (.inl rfl) [_] ⟨rfl, trivial⟩ ⟨bool_eq (eqF_len g1), rfl, rfl⟩
  · try simp only [sQ1, sQ2, sQ3, sQ4, sQ5, sQ6, sQ7, sQ8, ne_eq] at g1
    refine w_skip ?_
    refine thn_n ?_
    refine w_seq ?_
    refine wSR ?_
    refine xAs ?_
    refine wKp [(0, _), (1, _), (4, _), (5, _), (10, _)] ⟨rfl, rfl, rfl, rfl, rfl, trivial⟩ ?_
    refine w_block ?_
    refine w_loopE (α := Nat) [0, 1, 10] (fun k => [(5, .int .i64 k)]) [] (fun k => []) (fun k Bx => Bx = B ∧ k ≤ xs.length ∧ xs.take k = ys.take k) (fun k => xs.length - k) 0 ⟨rfl, trivial⟩ rfl (⟨rfl, Nat.zero_le _, by simp⟩) (fun k B1 hle1 hI => ?_)
    obtain ⟨rfl, hk, he⟩ := hI
    refine wTd [(0, _), (1, _), (5, _), (10, _)] [] ⟨rfl, rfl, rfl, rfl, trivial⟩ rfl ?_
    refine w_seq ?_
    refine wSR ?_
    refine xMv ?_
    refine xMv ?_
    refine oX (w_lenV rfl rfl Tryz.underlying26 rfl ?_)
    refine oX (w_lss rfl rfl rfl rfl ?_)
    refine wKp [(0, _), (1, _), (5, _), (10, _), (14, _)] ⟨rfl, rfl, rfl, rfl, rfl, trivial⟩ ?_
    refine wCd rfl (fun g2 => ?_) (fun g2 => ?_)
    · try simp only [sQ1, sQ2, sQ3, sQ4, sQ5, sQ6, sQ7, sQ8, ne_eq] at g2
      refine w_skip ?_
      refine thn_n ?_
      refine w_seq ?_
      refine w_block ?_
      refine w_seq ?_
      refine w_draw (same _ _) mo (by kernel_rfl) ⟨rfl, rfl⟩ (fun _ _ => ?_)
      refine aTP 0 rfl (by kernel_rfl) rfl (fun D B L => w_move rfl rfl rfl ⟨rfl, rfl, rfl, rfl⟩) ?_
      refine aTP 1 rfl (by kernel_rfl) rfl (fun D B L => w_move rfl rfl rfl ⟨rfl, rfl, rfl, rfl⟩) ?_
      obtain ⟨x, hx⟩ := getLt (xs := xs) (i := k) (by first | omega | (simp; done) | (simp; omega))
      obtain ⟨bb3, oo3, rfl⟩ := ha.base hx
      obtain ⟨_, ⟨qg4, cg4, qm4, cm4, rfl, hg4, hm4, hb4, hb4b⟩, hc4⟩ := ha.elem hx
      have hg4n := hg4.len
      have hm4n := hm4.len
      have hm4s := sizeMs_le hm4
      refine aTk 2 rfl (by kernel_rfl) rfl (q_of fun D => w_ixB rfl rfl Tryz.underlying26 sz40 rfl rfl (by first | omega | (simp; done) | (simp; omega)) (by first | omega | (simp; done) | (simp; omega)) ⟨rfl, rfl, rfl, rfl⟩) ?_
      refine aTk 3 rfl (by kernel_rfl) rfl (q_of fun D => w_loadN [_, _, _, _, _] rfl rfl lk40 rfl (rowK hc4 0 rfl rfl) ⟨rfl, rfl, rfl, rfl⟩) ?_
      refine aTP 4 rfl (by kernel_rfl) rfl (fun D B L => w_move rfl rfl rfl ⟨rfl, rfl, rfl, rfl⟩) ?_
      refine aTP 5 rfl (by kernel_rfl) rfl (fun D B L => w_move rfl rfl rfl ⟨rfl, rfl, rfl, rfl⟩) ?_
      obtain ⟨y, hy⟩ := getLt (xs := ys) (i := k) (by first | omega | (simp; done) | (simp; omega))
      obtain ⟨bb6, oo6, rfl⟩ := hb.base hy
      obtain ⟨_, ⟨qg7, cg7, qm7, cm7, rfl, hg7, hm7, hb7, hb7b⟩, hc7⟩ := hb.elem hy
      have hg7n := hg7.len
      have hm7n := hm7.len
      have hm7s := sizeMs_le hm7
      refine aTk 6 rfl (by kernel_rfl) rfl (q_of fun D => w_ixB rfl rfl Tryz.underlying26 sz40 rfl rfl (by first | omega | (simp; done) | (simp; omega)) (by first | omega | (simp; done) | (simp; omega)) ⟨rfl, rfl, rfl, rfl⟩) ?_
      refine aTk 7 rfl (by kernel_rfl) rfl (q_of fun D => w_loadN [_, _, _, _, _] rfl rfl lk40 rfl (rowK hc7 0 rfl rfl) ⟨rfl, rfl, rfl, rfl⟩) ?_
      refine aTk 8 rfl (by kernel_rfl) rfl (q_of fun D => w_retB rfl rfl en39 rfl (sameFolder_c _ _ _ _ _ _ _ _ x y _ hg4 hm4 hg7 hm7) ⟨rfl, rfl, rfl, rfl⟩) ?_
      refine aTk 9 rfl (by kernel_rfl) rfl (q_of fun D => w_not rfl rfl rfl ⟨rfl, rfl, rfl, rfl⟩) ?_
      refine any_done (by kernel_rfl) (by kernel_rfl) ?_
      refine thn_n ?_
      refine wKp [(0, _), (1, _), (5, _), (10, _), (14, _), (26, _)] ⟨rfl, rfl, rfl, rfl, rfl, rfl, trivial⟩ ?_
      refine wCd rfl (fun g3 => ?_) (fun g3 => ?_)
      · try simp only [sQ1, sQ2, sQ3, sQ4, sQ5, sQ6, sQ7, sQ8, ne_eq] at g3
        refine wSR ?_
        refine xAs ?_
        refine wKp [(0, _), (1, _), (4, _), (5, _), (10, _), (14, _), (26, _)] ⟨rfl, rfl, rfl, rfl, rfl, rfl, rfl, trivial⟩ ?_
        refine w_ret (inB_r (thn_r (rndE_r (inB_r (thn_r ?_)))))
        exact end0 .ret (.inl rfl) [_] ⟨rfl, trivial⟩ ⟨bool_eq (eqF_elem hx hy g3), rfl, rfl⟩
      · try simp only [sQ1, sQ2, sQ3, sQ4, sQ5, sQ6, sQ7, sQ8, ne_eq] at g3
        refine w_skip ?_
        refine inB_n (thn_n ?_)
        refine w_region ?_
        refine xMv ?_
        refine oX (w_add rfl rfl rfl rfl (by first | exact wrI64 (by first | omega | (simp; done) | (simp; omega)) (by first | omega | (simp; done) | (simp; omega)) | rfl) ?_)
        refine xAs ?_
        exact rndE_n (k + 1) [] (by first | omega | (simp only []; omega)) ⟨rfl, by omega, take_eq_next hx hy g3 he⟩ ⟨rfl, rfl, rfl, rfl, trivial⟩ rfl
    · try simp only [sQ1, sQ2, sQ3, sQ4, sQ5, sQ6, sQ7, sQ8, ne_eq] at g2
      refine w_exit (thn_x (rndE_x (inB_hit (thn_n ?_))))
      refine wSR ?_
      refine xAs ?_
      refine wKp [(0, _), (1, _), (4, _), (5, _), (10, _), (14, _)] ⟨rfl, rfl, rfl, rfl, rfl, rfl, trivial⟩ ?_
      refine w_ret ?_
      exact end0 .ret (.inl rfl) [_] ⟨rfl, trivial⟩ ⟨bool_eq (eqT (by omega) (by omega) he), rfl, rfl⟩

end Go.Proofs.YtgbecfimpgknnaaGreat
